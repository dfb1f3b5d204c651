/-
  ONE STEP OF A LONE GOROUTINE IS THE SAME STEP OF GOROUTINE 0 IN A COMPANY THAT NEITHER WAITS NOR COMMUNICATES, on every tape that answers the step's own draws alike.
-/
import Derived.Test.YtjcplblnapcfcaaBrH
import Derived.Conc.Beside
import Derived.Conc.CrowdCom2
set_option linter.unusedSimpArgs false
namespace Go.Gat
open Go.Conc

/-- All of 'gs' are on their way, or done. -/
def Calmly (gs : Array Goroutine) : Prop := ∀ (j : Nat) (g : Goroutine), gs[j]? = some g → g.status = .running ∨ g.status = .finished

theorem again_calm {o : Goroutine} (h : o.status = .running ∨ o.status = .finished) (w : World) : o.again w = o := by
  unfold Goroutine.again
  rcases h with h | h <;> simp [h]
theorem woken_calm {P : Program} {g g' o : Goroutine} {w : World} (h : o.status = .running ∨ o.status = .finished) : woken P g g' w o = o := by
  unfold woken
  split
  · exact again_calm h w
  · rfl
theorem Calmly.map {gs : Array Goroutine} (h : Calmly gs) {P : Program} {g g' : Goroutine} {w : World} : gs.map (woken P g g' w) = gs := by
  apply Array.ext_getElem?
  intro j
  rw [Array.getElem?_map]
  cases hj : gs[j]? with
  | none => rfl
  | some o => simp [woken_calm (h j o hj)]
theorem Calmly.free {gs : Array Goroutine} (h : Calmly gs) : Free gs := fun j g hj e => by rcases h j g hj with x | x <;> rw [x] at e <;> cases e
theorem Calmly.set {gs : Array Goroutine} (h : Calmly gs) {i : Nat} {g : Goroutine} (hg : g.status = .running ∨ g.status = .finished) : Calmly (gs.setIfInBounds i g) := fun j x hj => by
  by_cases hij : i = j
  · subst hij
    by_cases hlt : i < gs.size
    · rw [Array.getElem?_setIfInBounds_self_of_lt hlt] at hj
      exact Option.some.inj hj ▸ hg
    · rw [Array.getElem?_eq_none (by simpa using hlt)] at hj; cases hj
  · rw [Array.getElem?_setIfInBounds_ne hij] at hj
    exact h j x hj

/-- The lone machine's step, to a goroutine that is running. -/
def One (P : Program) (g : Goroutine) (w : World) (g' : Goroutine) (w' : World) (ops : Array MemOp) : Prop :=
  runT P (crowd #[g] w none) 0 = (.next (crowd #[g'] w' none), ops) ∧ g'.status = .running

theorem set_one (g x : Goroutine) : (#[g] : Array Goroutine).setIfInBounds 0 x = #[x] := rfl
theorem crowd_inj {g g' : Goroutine} {w w' : World} (h : crowd #[g] w none = crowd #[g'] w' none) : g = g' ∧ w = w' := by
  simp only [crowd, Machine.mk.injEq, Array.mk.injEq, List.cons.injEq, and_true] at h
  exact ⟨h.2, h.1⟩

theorem calm_one {g : Goroutine} (h : g.status = .running) : Calmly #[g] := fun j x hj => by
  cases j with
  | zero => simp at hj; exact .inl (hj ▸ h)
  | succ j => simp at hj

section
variable {P : Program}

theorem ofEvents_own (fn : FuncId) (pos : String) (es : Array Event) : ∀ op ∈ MemOp.ofEvents 0 fn pos es, op.g = 0 := MemOp.ofEvents_g 0 fn pos es

theorem runT_coro {gs : Array Goroutine} {sl : Option (Nat × Nat)} {w w1 : World} {g g1 : Goroutine} {c : Nat} {x : Bool} {es : Array Event} (hi : gs[0]? = some g) (hst : stepG P true g w = .coroswitch g1 c x w1 es) :
    runT P (crowd gs w sl) 0 = (match w1.heap[c]? with
      | some (.coro (some h)) => .next { world := { w1 with heap := w1.heap.setIfInBounds c (.coro (if x then none else some 0)) }, gs := (gs.setIfInBounds 0 (if x then { g1 with status := .finished } else { g1 with frame := g1.frame.finish undef, status := .parked })).modify h (fun o => { o with status := .running }), rest := (crowd gs w sl).rest }
      | some (.coro none) => match endThrow g1.frame "coroswitch on exited coro" w1 with
        | .go g w _ => .next { world := w, gs := gs.setIfInBounds 0 g, rest := (crowd gs w sl).rest }
        | _ => .ended (.stuck "" "") w1
      | _ => .ended (.stuck "coroswitch: no coroutine" "") w1, MemOp.ofEvents 0 g.frame.fn g.frame.place es) := by
  obtain ⟨hlt, rfl⟩ := Array.getElem?_eq_some_iff.1 hi
  have hsw := swapAt_of_lt hlt { (default : Goroutine) with status := .finished }
  show runT P { world := w, gs := gs, rest := { timers := #[], alone := none, slice := sl } } 0 = _
  unfold runT
  simp only [hsw, show stepG P (0 == 0) gs[0] w = _ from hst, GStep.es, crowd, set_setIfInBounds hlt]
  rfl

theorem one_law (hP : Plain P) {g g' : Goroutine} {w w' : World} {ops : Array MemOp} (hg : GorOK g) (hr : g.status = .running) (h : One P g w g' w' ops) :
    Draws w w' ∧ GorOK g' ∧ (∀ op ∈ ops, op.g = 0) ∧ (∀ t, Deaf (t ++ ops) 0 = Deaf t 0) ∧
    ∀ τ d, Agree w w' τ d → ∀ gs sl, gs[0]? = some g → Calmly gs → runT P (crowd gs (re w τ d) sl) 0 = (.next (crowd (gs.setIfInBounds 0 g') (sh w w' τ d) sl), ops) := by
  obtain ⟨h, hrun⟩ := h
  have hl : Res (fun w => stepG P true g w) w (stepG P true g w) := lawful_stepG (main := true) hP hg w
  have h0 : (#[g] : Array Goroutine)[0]? = some g := rfl
  have hc1 := calm_one hr
  cases hs : stepG P true g w with
  | go g1 w1 es =>
    rw [hs] at hl
    have hx := runT_crowd_go (P := P) (sl := none) h0 (show stepG P (0 == 0) g w = _ from hs)
    rw [hc1.map, set_one, h] at hx
    simp only [Prod.mk.injEq, Stepped.next.injEq] at hx
    obtain ⟨hx, rfl⟩ := hx
    obtain ⟨rfl, rfl⟩ := crowd_inj hx
    obtain ⟨a1, a2, a3, a4⟩ := hl.2 hrun
    refine ⟨a1, a3, ofEvents_own _ _ _, fun t => by rw [Deaf_own, a2.1], fun τ d ha gs sl h0 hcal => ?_⟩
    rw [runT_crowd_go (P := P) (sl := sl) h0 (show stepG P (0 == 0) g (re w τ d) = _ from a4 τ d ha), hcal.map]
  | comm g1 cs b s w1 es =>
    rw [hs] at hl
    obtain ⟨_, a1, a2, a3, a4⟩ := hl
    have hx := runT_crowd_comm (P := P) (sl := none) h0 (show stepG P (0 == 0) g w = _ from hs)
    rw [set_one, h] at hx
    simp only [Prod.mk.injEq] at hx
    obtain ⟨hx1, hx2⟩ := hx
    obtain ⟨b1, b2, b3, b4⟩ := comm_free (P := P) (r1 := (crowd #[g] w none).rest) (x := ph) (g := g1) (g' := g') (cs := cs) (b := b) (s := s) (w := w1) (w' := w')
      (ops := (communicate P (crowd #[g] w none).rest #[ph] 0 g1 cs b s w1).2) (by simp [ph]) (Prod.ext hx1.symm rfl) hrun a3
    refine ⟨a1.trans b1, b2, fun op hop => ?_, fun t => ?_, fun τ d ha gs sl h0 hcal => ?_⟩
    · rw [hx2] at hop
      rcases Array.mem_append.1 hop with hop | hop
      · exact ofEvents_own _ _ _ op hop
      · exact (b3 op hop).1
    · rw [hx2, ← Array.append_assoc, Go.ConcN.Deaf_still _ 0 _ fun op hop => ?_, Deaf_own, a2.1]
      have := (b3 op hop).2
      constructor <;> (intro e; rw [e] at this; exact this)
    · rw [runT_crowd_comm (P := P) (sl := sl) h0 (show stepG P (0 == 0) g (re w τ d) = _ from a4 τ d (ha.left b1))]
      have e1 : sh w w1 τ d = re w1 τ (d + (w1.drawn - w.drawn)) := rfl
      rw [e1, b4 τ _ (ha.right a1) (gs.setIfInBounds 0 ph) (crowd gs (re w τ d) sl).rest (hcal.set (.inr rfl)).free, sh_sh a1 b1, ← hx2]
      have e2 : (gs.setIfInBounds 0 ph).setIfInBounds 0 g' = gs.setIfInBounds 0 g' := by
        apply Array.ext_getElem?
        intro j
        cases j with
        | zero => simp [Array.getElem?_setIfInBounds]
        | succ j => simp [Array.getElem?_setIfInBounds]
      rw [e2]
      rfl
  | coroswitch g1 c x w1 es =>
    rw [hs] at hl
    obtain ⟨a1, a2, a3, a4⟩ := hl
    have hrunT := fun (gs : Array Goroutine) (sl : Option (Nat × Nat)) (w w1 : World) (hi : gs[0]? = some g) (hst : stepG P true g w = .coroswitch g1 c x w1 es) => runT_coro (P := P) (sl := sl) hi hst
    have hx := hrunT #[g] none w w1 h0 hs
    rw [h, set_one] at hx
    simp only [Prod.mk.injEq] at hx
    obtain ⟨hx, rfl⟩ := hx
    have hdeaf : ∀ t, Deaf (t ++ MemOp.ofEvents 0 g.frame.fn g.frame.place es) 0 = Deaf t 0 := fun t => by rw [Deaf_own, a2.1]
    cases hh : w1.heap[c]? with
    | none => rw [hh] at hx; simp at hx
    | some o =>
      cases o with
      | coro q =>
        cases q with
        | none =>
          rw [hh] at hx
          simp only [endThrow, dieOf, Stepped.next.injEq] at hx
          obtain ⟨rfl, rfl⟩ := crowd_inj (w := w') (w' := w1) hx
          refine ⟨a1, ⟨a3.1, framesOK_nil⟩, ofEvents_own _ _ _, hdeaf, fun τ d ha gs sl h0 hcal => ?_⟩
          rw [hrunT gs sl _ _ h0 (a4 τ d ha)]
          simp only [show (sh w w' τ d).heap = w'.heap from rfl, hh, endThrow, dieOf]
          rfl
        | some k =>
          rw [hh] at hx
          cases k with
          | succ k =>
            have e1 : ∀ me : Goroutine, (#[me] : Array Goroutine).modify (k + 1) (fun o => { o with status := .running }) = #[me] := fun me => by
              apply Array.ext_getElem?
              intro j
              rw [Array.getElem?_modify]
              split
              · rename_i hj; subst hj; simp
              · rfl
            simp only [e1, crowd, Stepped.next.injEq, Machine.mk.injEq, Array.mk.injEq, List.cons.injEq, and_true] at hx
            obtain ⟨rfl, rfl⟩ := hx
            cases x <;> simp at hrun
          | zero =>
            have e1 : ∀ me : Goroutine, (#[me] : Array Goroutine).modify 0 (fun o => { o with status := .running }) = #[{ me with status := .running }] := fun me => rfl
            simp only [e1, crowd, Stepped.next.injEq, Machine.mk.injEq, Array.mk.injEq, List.cons.injEq, and_true] at hx
            obtain ⟨rfl, rfl⟩ := hx
            refine ⟨⟨a1.1, a1.2⟩, ?_, ofEvents_own _ _ _, hdeaf, fun τ d ha gs sl h0 hcal => ?_⟩
            · cases x
              · exact ⟨a3.1.finish _, a3.2⟩
              · exact ⟨a3.1, a3.2⟩
            · rw [hrunT gs sl _ _ h0 (a4 τ d ha)]
              simp only [show (sh w w1 τ d).heap = w1.heap from rfl, hh]
              have e2 : ∀ me : Goroutine, (gs.setIfInBounds 0 me).modify 0 (fun o => { o with status := .running }) = gs.setIfInBounds 0 { me with status := .running } := fun me => by
                apply Array.ext_getElem?
                intro j
                rw [Array.getElem?_modify]
                cases j with
                | zero =>
                  simp only [if_true, Array.getElem?_setIfInBounds]
                  split <;> rfl
                | succ j => simp [Array.getElem?_setIfInBounds]
              simp only [e2]
              rfl
      | _ => rw [hh] at hx; simp at hx
  | spawn g1 ch w1 es =>
    have hx := runT_crowd_spawn (P := P) (sl := none) h0 (show stepG P (0 == 0) g w = _ from hs)
    rw [h] at hx
    simp only [Prod.mk.injEq, Stepped.next.injEq, crowd, Machine.mk.injEq] at hx
    have := congrArg Array.size hx.1.2.1
    simp at this
  | ended o w1 es =>
    have hx := runT_many_ended (P := P) (sl := none) h0 (show stepG P (0 == 0) g w = _ from hs)
    rw [h] at hx
    simp at hx
  | _ => rw [hs] at hl; exact hl.elim
end
end Go.Gat
