/-
  WHAT ALL FOUR LAWS' ROWS SHARE: the arguments read as they did; from the law's code to the run's good end.
-/
import Derived.Test.YtjcplblnapcfcaaAwA
import Derived.Test.YtjcplblnapcfcaaLoA
import Derived.Conc.LeavingOf
import Derived.ProofKit
import Derived.OpenShut
set_option linter.unusedSimpArgs false
namespace Go.Proofs.Ytjcplblnapcfcaa
open Go Go.Gat Go.Conc Go.RowKit Go.ChangeShapes Go.WideShapes Go.ChangeAt

theorem own : ownKnob Try.prog.godebug = none := by kernel_rfl
theorem laidOut : laidOutB Try.prog = true := by kernel_rfl
theorem cells3 : Try.prog.cellsOf 3 = 1 := by kernel_rfl

section
variable {H : Type} {enc : TypeId × Value → H}

theorem kp_same {W w' : World} (h : KP W w') {p : MemPlace} (hp : p.block < W.heap.size) : W.sameAt w' p := by
  cases p with
  | cell b o => exact World.cell?_of_block (w := W) (h.keep b (.inl hp) hp)
  | map b => exact h.keep b (.inl hp) hp
theorem kp_frame {W w' : World} (h : KP W w') (may : MemPlace → Prop) : W.keptBut w' may := by
  refine ⟨h.os, h.output, fun i hi => ?_⟩
  rw [h.keep i (.inl hi) hi]
  split <;> simp_all

theorem kp_trodAll {W w' : World} (h : KP W w') : ∀ {ts : List TypeId} {vs : List Value} {ds : List (DataW H)} {ps : List MemPlace}, (∀ t ∈ ts, Try.prog.readableRec t = true ∧ t < Try.prog.types.size) →
    DataW.TrodAll enc Try.prog W 0 (fun _ => true) true ts vs ds ps → (∀ x ∈ ps, x.block < W.heap.size) → DataW.TrodAll enc Try.prog w' 0 (fun b => decide (b < W.heap.size)) true ts vs ds ps
  | [], vs, ds, ps, _, hA, _ => by
    obtain ⟨rfl, rfl, rfl⟩ := trodAll_nil hA
    exact trodAll_mk0
  | t :: ts, vs, ds, ps, hr, hA, hlt => by
    obtain ⟨v, vs', d, ds', p, q, rfl, rfl, rfl, hd, hrest⟩ := trodAll_cons hA
    obtain ⟨h1, h2⟩ := hr t (by simp)
    have hp : ∀ x ∈ p, x.block < W.heap.size := fun x hx => hlt x (by simp [hx])
    exact trodAll_cons_mk (WideElems.Trod_stays laidOut h1 h2 hd (fun x hx => kp_same h (hp x hx)) (fun x hx => by simpa using hp x hx))
      (kp_trodAll h (fun t ht => hr t (by simp [ht])) hrest (fun x hx => hlt x (by simp [hx])))

/-- A law's row, from its code's walk. -/
theorem law_good {f : FuncId} {fn : Func} {c : Code} {s : ChangeSpec} {W : World} {args : Array Value} {ds gs : List (DataW H)} {before : List MemPlace} {again : Bool} (hf : Try.prog.funcs[f]? = some fn) (hb : fn.body = some c) (hi : Try.prog.inits.idxOf? f = none)
    (hr : ∀ t ∈ fn.params.toList, Try.prog.readableRec t = true ∧ t < Try.prog.types.size) (hrt : fn.resultTypes = #[4]) (hv : s.vars = []) (hs : ∀ ds : List (DataW H), ds.length = fn.params.size → s.fn H ds = { results := [.lit (.bool true)], args := ds }) (hag : again = false)
    (hW : DataW.Whole enc Try.prog fn.params.toList s.vars false W args.toList ds gs before)
    (h : Gwp Try.prog c (lastPost Try.prog fn fun v w' => v = .bool true ∧ KP W w') { tmps := args ++ Array.replicate (fn.ntmps - args.size) undef, defers := [] } W) :
    ∃ M last o w' t', runNT Try.prog (M + 1) (solo (G (Frame.enter Try.prog f args .normal) []) W) #[] = (.ended o w', t') ∧ runN Try.prog M (solo (G (Frame.enter Try.prog f args .normal) []) W) = .next last ∧
      step Try.prog last = .ended o w' ∧ Conc.Good Try.prog (fun v W' => s.post enc Try.prog fn false true false again W args v W') last o w' t' := by
  refine ends_of_gos hi (gos_last plain hf hb h) ?_
  rintro v w₁ w' ⟨rfl, hk⟩ ⟨τ, d, rfl⟩
  have hk : KP W (re w₁ τ d) := hk.trans (rely_re τ d)
  have hW' := hW
  have hlt : ∀ x ∈ before, x.block < W.heap.size := hW'.lt
  obtain ⟨p, q, hA, hV, rfl, _, _⟩ := hW
  rw [hv] at hV
  obtain ⟨rfl, rfl⟩ := trodVars_none hV
  have hlen : ds.length = fn.params.size := by
    have : ∀ {ts : List TypeId} {vs : List Value} {ds : List (DataW H)} {ps : List MemPlace}, DataW.TrodAll enc Try.prog W 0 (fun _ => true) true ts vs ds ps → ds.length = ts.length := fun {ts} => by
      induction ts with
      | nil => intro vs ds ps h; obtain ⟨_, rfl, _⟩ := trodAll_nil h; rfl
      | cons t ts ih => intro vs ds ps h; obtain ⟨v, vs', d, ds', p, q, _, rfl, _, _, hrest⟩ := trodAll_cons h; simp [ih hrest]
    simpa using this hA
  have hfn := hs ds hlen
  refine ⟨ds, [], _, [], p, [], hW', ?_, ?_, ?_, kp_frame hk _, fun h => by rw [hag] at h; cases h⟩
  · rw [List.append_nil, hfn, hrt]
    exact trodAll_mk1 (shut_bool (t := 4) Try.underlying4 true)
  · rw [List.append_nil, hfn]
    exact kp_trodAll hk hr hA (fun x hx => hlt x (by simp [hx]))
  · rw [List.append_nil, hfn, hv]
    rfl

set_option maxRecDepth 100000 in
/-- A slice of ints, read. -/
theorem open_at {W : World} {v : Value} {d : DataW H} {ps : List MemPlace} {base : Nat} (hval : Value.okWide Try.prog W .any base 22 v) (hd : DataW.Trod enc Try.prog W 0 (fun _ => true) true 22 v d ps) (hlt : ∀ x ∈ ps, x.block < W.heap.size) :
    ∃ a cap, ∃ zs : List Int, v = .slice a zs.length cap ∧ IntsAt W W.heap.size a zs ∧ zs.length ≤ 9223372036854775807 := by
  obtain ⟨a0, len, cap, rfl⟩ := okWide_slice Try.underlying22 hval
  obtain ⟨fuel, hf⟩ := hd
  rcases open_ints Try.underlying22 Try.underlying3 cells3 hf with ⟨hcs, hx⟩ | ⟨a, len', cap', zs, hcs, _, hl, hm, hz, hx, hcell, _⟩
  · simp [Value.cells] at hcs
    obtain ⟨rfl, rfl, rfl⟩ := hcs
    exact ⟨none, 0, [], rfl, ⟨fun h => absurd h (by simp)⟩, by simp⟩
  · simp [Value.cells] at hcs
    obtain ⟨rfl, rfl, rfl⟩ := hcs
    simp only [Prod.mk.injEq] at hx
    obtain ⟨rfl, rfl⟩ := hx
    simp only [if_true] at hz
    have hlen : (zs.take len).length = len := by simp; omega
    refine ⟨some a, cap, zs.take len, by rw [hlen], ⟨fun h0 => ?_⟩, by unfold maxLen at hm; omega⟩
    rw [hlen] at h0
    obtain ⟨b, off, spot⟩ := a
    have hc0 := hcell 0 (by omega)
    have hsp : spot = none := by
      cases spot with
      | none => rfl
      | some s =>
        simp [Addr.add, World.cell?] at hc0
        split at hc0 <;> simp at hc0
    subst hsp
    refine ⟨b, off, rfl, hlt (.cell b off) (MemPlace.mem_row.2 ⟨0, by omega, by simp⟩), fun j hj => ?_⟩
    have hj' : j < len := by rw [hlen] at hj; exact hj
    have := hcell j (by omega)
    rw [show (⟨b, off, none⟩ : Addr).add j = ⟨b, off + j, none⟩ by unfold Addr.add; split <;> simp_all] at this
    rw [this]
    simp [List.getD, List.getElem?_eq_getElem (show j < zs.length by omega)]
end
end Go.Proofs.Ytjcplblnapcfcaa
