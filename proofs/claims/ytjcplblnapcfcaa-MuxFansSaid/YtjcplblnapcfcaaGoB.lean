/-
  FROM A WALK BESIDE LEAVERS TO THE END OF THE RUN, in 'Good' (Derived/Conc/Beside.lean's 'beside_ends').
-/
import Derived.Test.YtjcplblnapcfcaaGoA
set_option linter.unusedSimpArgs false
namespace Go.Gat
open Go.Conc

/-- Goroutine 0 is about to return 'v' from its last frame, of 'f'. -/
def AtLast (P : Program) (f : FuncId) (R : Value → World → Prop) (g' : Goroutine) (w' : World) : Prop :=
  ∃ fr v w₁, g' = GG fr [] ∧ R v w₁ ∧ Sim w₁ w' ∧ fr.fn = f ∧ fr.mode = .returning ∧ fr.defers = [] ∧ fr.kind = .normal ∧ ∃ fn, P.funcs[f]? = some fn ∧ ∀ w, (results fn fr.tmps).runT P w #[] = (.ok v w, #[])

section
variable {P : Program} {f : FuncId} {args : Array Value} {w : World} {R : Value → World → Prop} {Post : Value → World → Prop}

theorem ends_of_gos (hi : P.inits.idxOf? f = none) (h : Gos P (GG (Frame.enter P f args .normal) []) w (AtLast P f R)) (hpost : ∀ v w₁ w', R v w₁ → Sim w₁ w' → Post v w') :
    ∃ M last o w' t', runNT P (M + 1) (solo (G (Frame.enter P f args .normal) []) w) #[] = (.ended o w', t') ∧ runN P M (solo (G (Frame.enter P f args .normal) []) w) = .next last ∧
      step P last = .ended o w' ∧ Good P Post last o w' t' := by
  obtain ⟨N, gs, a, w1, sl, t, q, hr, h0, ⟨fr, v, w2, rfl, hR, hs, hfn, hm, hd, hk, fn, hf, hres⟩, hL, B, hPt⟩ := h.here #[GG (Frame.enter P f args .normal) []] none #[] (fun _ => 0) rfl (leavers_one P _) ⟨0, past_nil⟩
  have hend : ∀ w, stepG P true (GG fr []) w = .ended (.done v) w #[] := fun w => by
    subst hfn
    simp only [stepG, unwind, hm, hd, hf, hres, doReturn, hk, hi, seen_nil, GStep.after]
    simp
  obtain ⟨M, last, o, w', t', k1, k2, k3, k4⟩ := beside_ends (P := P) (Shun := fun _ => False) (B := B) (D := fun _ _ es => ∀ e ∈ es, EvL (fun _ => False) B e) (Post := Post) (fun _ _ _ h => h) (n := 0) (sl := sl) h0 hL hPt
    (fun w3 h3 => ⟨rfl, v, #[], hend w3, by simp, by
      obtain ⟨d, rfl⟩ := h3
      exact hpost v w2 _ hR (hs.re w1.tape d)⟩)
  have hfst := runNT_fst P N (crowd #[GG (Frame.enter P f args .normal) []] w none) #[]
  rw [hr] at hfst
  refine ⟨N + M, last, o, w', t', ?_, ?_, k3, k4⟩
  · rw [Nat.add_assoc]
    exact (runNT_add N (M + 1) hr).trans k1
  · have : runN P (N + M) (crowd #[GG (Frame.enter P f args .normal) []] w none) = runN P M (crowd gs w1 sl) := by rw [runN_add, ← hfst]
    exact this.trans k2

/-- The body of the last frame. -/
def lastPost (P : Program) (fn : Func) (R : Value → World → Prop) : Exit → Act → World → Prop
  | .normal, a, w | .ret, a, w => a.defers = [] ∧ ∃ v, (∀ w, (results fn a.tmps).runT P w #[] = (.ok v w, #[])) ∧ R v w
  | _, _, _ => False

theorem gos_last (hP : Plain P) {fn : Func} {c : Code} (hf : P.funcs[f]? = some fn) (hb : fn.body = some c)
    (h : Gwp P c (lastPost P fn R) { tmps := args ++ Array.replicate (fn.ntmps - args.size) undef, defers := [] } w) : Gos P (GG (Frame.enter P f args .normal) []) w (AtLast P f R) := by
  let b : Frame := { (default : Frame) with fn := f, kind := .normal }
  have henter : Frame.enter P f args .normal = b.at { tmps := args ++ Array.replicate (fn.ntmps - args.size) undef, defers := [] } [.code c] := by
    simp [Frame.enter, Frame.at, hf, hb, b]
  rw [henter]
  refine gos_bind (h b [] [] (fun _ h => by cases h) framesOK_nil) ?_
  rintro g' w' ⟨e, a1, w1, hq, hat⟩
  cases e with
  | normal =>
    obtain ⟨hd, v, hr, hR⟩ := hq
    obtain ⟨rfl, hs⟩ := hat
    have h2 : Gos P (GG (b.at a1 []) []) w1 (AtLast P f R) := gos_go hP (fr' := { b.at a1 [] with mode := .returning }) (fun _ h => by cases h) framesOK_nil (fun w => ⟨#[], by simp [stepG, stepG.exec, Frame.at]⟩)
      (fun τ d => gosAt_stop ⟨_, v, w1, rfl, hR, ⟨τ, d, rfl⟩, rfl, rfl, hd, rfl, fn, hf, hr⟩)
    exact h2.sim hs
  | ret =>
    obtain ⟨hd, v, hr, hR⟩ := hq
    obtain ⟨todo, ht, rfl, hs⟩ := hat
    exact gosAt_stop ⟨_, v, w1, rfl, hR, hs, rfl, rfl, hd, rfl, fn, hf, hr⟩
  | exit id => exact hq.elim
  | goto l => exact hq.elim
  | panic ch => exact hq.elim
  | outgrown => exact hq.elim
end
end Go.Gat
