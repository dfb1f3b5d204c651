/-
  WHAT A LONE GOROUTINE REACHES ON EVERY TAPE IT REACHES WITHIN A TREE OF STEPS ('Reach'): at each node the tape is asked anew.
-/
import Derived.Test.YtjcplblnapcfcaaBrI
set_option linter.unusedSimpArgs false
namespace Go.Gat
open Go.Conc

section
variable {P : Program}

theorem move_one {g : Goroutine} {w : World} (h : g.status = .running) : move P (crowd #[g] w none) = .goroutine (crowd #[g] w none) 0 := by
  simp [move, ask, askOn, crowd, runnable_eq, due, ahead, Goroutine.canRun, List.range_succ, choose, pure, Sem.run, Question.forced, h]
theorem stepT_one {g : Goroutine} {w : World} (h : g.status = .running) : stepT P (crowd #[g] w none) = runT P (crowd #[g] w none) 0 := by
  unfold stepT
  rw [move_one h]

/-- A lone goroutine that neither runs nor sleeps stays where it is. -/
theorem dead_stays {g : Goroutine} {w : World} (h : Asleep g) {m : Machine} {ops : Array MemOp} (hs : stepT P (crowd #[g] w none) = (.next m, ops)) : m = crowd #[g] w none := by
  have hr : runnable #[g] w.os.mono = [] := by
    rw [runnable_eq]
    have : g.canRun w.os.mono = false := by
      unfold Goroutine.canRun
      cases hst : g.status <;> simp
      · exact absurd hst h.1
      · exact absurd hst (h.2 _)
    simp [List.range_succ, this]
  have ha : ahead (crowd #[g] w none) false = none := by
    unfold ahead crowd
    cases hst : g.status <;> simp [hst]
    exact absurd hst (h.2 _)
  have hrest : (crowd #[g] w none).rest = { timers := #[], alone := none, slice := none } := rfl
  have hd : due #[] w.os.mono = [] := by simp [due]
  unfold stepT move at hs
  simp only [hrest] at hs
  unfold ask askOn at hs
  simp only [hrest, hd, show (crowd #[g] w none).world = w from rfl, show (crowd #[g] w none).gs = #[g] from rfl, hr, List.isEmpty_nil, if_true, pure, Sem.run, List.length_nil, Nat.not_lt_zero, if_false, Bool.false_eq_true] at hs
  rw [show ahead ({ world := w, gs := #[g], rest := { timers := #[], alone := none, slice := none } } : Machine) false = none from ha] at hs
  dsimp only at hs
  by_cases hw : (#[g].any fun x => x.status == .waiting) = true
  · rw [if_pos hw] at hs
    simp only [Prod.mk.injEq, Stepped.next.injEq] at hs
    exact hs.1.symm
  · rw [if_neg hw] at hs
    split at hs
    · rename_i he
      split at he
      · cases he
      · cases he
    · rename_i he
      split at he
      · simp only [Move.machine.injEq] at he; obtain ⟨rfl, rfl⟩ := he; simp at hs
      · simp only [Move.machine.injEq] at he; obtain ⟨rfl, rfl⟩ := he; simp at hs

theorem comm_next {r : Rest} {x g : Goroutine} {cs : Array CommCase} {b : Bool} {s : CommShape} {w : World} {m : Machine} {ops : Array MemOp} (hg : g.status = .running)
    (h : communicate P r #[x] 0 g cs b s w = (.next m, ops)) : ∃ g' w', m = { world := w', gs := #[g'], rest := r } ∧ ∀ t, g'.status ≠ .sleeping t := by
  have hset : ∀ y : Goroutine, (#[x] : Array Goroutine).setIfInBounds 0 y = #[y] := fun _ => rfl
  have hfp : ∀ a b v y, (finishPartner P #[x] a b v).setIfInBounds 0 y = #[y] := fun a b v y => by
    apply Array.ext_getElem?
    intro j
    cases j with
    | zero => simp [finishPartner, Array.getElem?_setIfInBounds]
    | succ j => simp [finishPartner, Array.getElem?_setIfInBounds]
  unfold communicate at h
  dsimp only at h
  simp only [hset, hfp] at h
  repeat' first
    | (exfalso; simp at h; done)
    | (simp only [Prod.mk.injEq, Stepped.next.injEq] at h; obtain ⟨rfl, _⟩ := h; exact ⟨_, _, rfl, by simp [Goroutine.finishComm, hg]⟩)
    | split at h

/-- What the machine is after a step. -/
theorem next_one (hP : Plain P) {g : Goroutine} {w : World} (hg : GorOK g) (hr : g.status = .running) {m : Machine} {ops : Array MemOp} (hs : stepT P (crowd #[g] w none) = (.next m, ops)) (hm : m.gs.size ≤ 1) :
    ∃ g' w', m = crowd #[g'] w' none ∧ ∀ t, g'.status ≠ .sleeping t := by
  rw [stepT_one hr] at hs
  have hl : Res (fun w => stepG P true g w) w (stepG P true g w) := lawful_stepG (main := true) hP hg w
  have h0 : (#[g] : Array Goroutine)[0]? = some g := rfl
  have hc1 := calm_one hr
  cases hst : stepG P true g w with
  | go g1 w1 es =>
    rw [hst] at hl
    have hx := runT_crowd_go (P := P) (sl := none) h0 (show stepG P (0 == 0) g w = _ from hst)
    rw [hc1.map, set_one, hs] at hx
    simp only [Prod.mk.injEq, Stepped.next.injEq] at hx
    exact ⟨g1, w1, hx.1, hl.1⟩
  | comm g1 cs b s w1 es =>
    rw [hst] at hl
    have hx := runT_crowd_comm (P := P) (sl := none) h0 (show stepG P (0 == 0) g w = _ from hst)
    rw [set_one, hs] at hx
    simp only [Prod.mk.injEq] at hx
    exact comm_next hl.1 (Prod.ext hx.1.symm rfl)
  | coroswitch g1 c x w1 es =>
    have hx := runT_coro (P := P) (sl := none) h0 hst
    rw [hs, set_one] at hx
    simp only [Prod.mk.injEq] at hx
    obtain ⟨hx, _⟩ := hx
    split at hx
    · rename_i k _
      have e1 : ∀ me : Goroutine, ∃ y : Goroutine, (#[me] : Array Goroutine).modify k (fun o => { o with status := .running }) = #[y] ∧ (y.status = .running ∨ y.status = me.status) := fun me => by
        cases k with
        | zero => exact ⟨_, rfl, .inl rfl⟩
        | succ k =>
          refine ⟨me, ?_, .inr rfl⟩
          apply Array.ext_getElem?
          intro j
          rw [Array.getElem?_modify]
          split
          · rename_i hj; subst hj; simp
          · rfl
      obtain ⟨y, e, hy⟩ := e1 (if x then { g1 with status := .finished } else { g1 with frame := g1.frame.finish undef, status := .parked })
      rw [e] at hx
      simp only [Stepped.next.injEq] at hx
      refine ⟨y, _, hx, fun t ht => ?_⟩
      rcases hy with hy | hy
      · rw [hy] at ht; cases ht
      · rw [hy] at ht; cases x <;> simp at ht
    · simp only [endThrow, dieOf, Stepped.next.injEq] at hx
      exact ⟨_, _, hx, by simp⟩
    · simp at hx
  | spawn g1 ch w1 es =>
    have hx := runT_crowd_spawn (P := P) (sl := none) h0 (show stepG P (0 == 0) g w = _ from hst)
    rw [hs] at hx
    simp only [Prod.mk.injEq, Stepped.next.injEq, crowd] at hx
    rw [hx.1] at hm
    simp at hm
  | ended o w1 es =>
    have hx := runT_many_ended (P := P) (sl := none) h0 (show stepG P (0 == 0) g w = _ from hst)
    rw [hs] at hx
    simp at hx
  | _ => rw [hst] at hl; exact hl.elim

/-! ### paths -/
inductive Path (P : Program) : Nat → Goroutine → World → Goroutine → World → Prop
  | nil {g w} : Path P 0 g w g w
  | cons {n g w g' w' ops a wa} : One P g w g' w' ops → Path P n g' w' a wa → Path P (n + 1) g w a wa

theorem One.same {g w g' w' ops g2 w2 ops2} (h : One P g w g' w' ops) (k : One P g w g2 w2 ops2) : g' = g2 ∧ w' = w2 := by
  have := h.1.symm.trans k.1
  simp only [Prod.mk.injEq, Stepped.next.injEq] at this
  exact crowd_inj this.1

theorem One.re (hP : Plain P) {g w g' w' ops} (hg : GorOK g) (hr : g.status = .running) (h : One P g w g' w' ops) (τ : Nat → Question → Nat) (d : Nat) (ha : Agree w w' τ d) : One P g (Gat.re w τ d) g' (sh w w' τ d) ops := by
  obtain ⟨_, _, _, _, k⟩ := one_law hP hg hr h
  have := k τ d ha #[g] none rfl (calm_one hr)
  rw [set_one] at this
  exact ⟨this, h.2⟩

theorem Path.same {n g w a wa a2 wa2} (h : Path P n g w a wa) (k : Path P n g w a2 wa2) : a = a2 ∧ wa = wa2 := by
  induction h generalizing a2 wa2 with
  | nil => cases k; exact ⟨rfl, rfl⟩
  | cons h1 _ ih =>
    cases k with
    | cons k1 k2 =>
      obtain ⟨rfl, rfl⟩ := h1.same k1
      exact ih k2

theorem Path.re (hP : Plain P) {n g w a wa} (h : Path P n g w a wa) : GorOK g → g.status = .running → ∀ (τ : Nat → Question → Nat) (d : Nat), (∀ j q, τ (d + j) q = w.tape (w.drawn + j) q) →
    ∃ e, Path P n g (Gat.re w τ d) a (Gat.re wa τ e) := by
  induction h with
  | nil => exact fun _ _ τ d _ => ⟨d, .nil⟩
  | @cons n g w g' w' ops a wa h1 h2 ih =>
    intro hg hr τ d hτ
    obtain ⟨⟨hd, ht⟩, hg', _, _, _⟩ := one_law hP hg hr h1
    have h3 := h1.re hP hg hr τ d fun j q _ => hτ j q
    obtain ⟨e, he⟩ := ih hg' h1.2 τ (d + (w'.drawn - w.drawn)) fun j q => by
      rw [ht, show d + (w'.drawn - w.drawn) + j = d + (w'.drawn - w.drawn + j) by omega, hτ, show w.drawn + (w'.drawn - w.drawn + j) = w'.drawn + j by omega]
    exact ⟨e, .cons h3 he⟩

theorem Path.snoc {n g w a wa b wb ops} (h : Path P n g w a wa) (k : One P a wa b wb ops) : Path P (n + 1) g w b wb := by
  induction h with
  | nil => exact .cons k .nil
  | cons h1 _ ih => exact .cons h1 (ih k)

theorem runN_dead {g : Goroutine} {w : World} (h : Asleep g) : ∀ {n m}, runN P n (crowd #[g] w none) = .next m → m = crowd #[g] w none
  | 0, m, e => by simp only [runN, Stepped.next.injEq] at e; exact e.symm
  | n + 1, m, e => by
    cases hs : stepT P (crowd #[g] w none) with
    | mk r ops =>
      cases r with
      | ended o w' => simp [runN, step, hs] at e
      | next m1 =>
        obtain rfl := dead_stays h hs
        simp only [runN, step, hs] at e
        exact runN_dead h e

theorem runN_grows : ∀ {n : Nat} {m m' : Machine}, runN P n m = .next m' → m.gs.size ≤ m'.gs.size
  | 0, m, m', e => by simp only [runN, Stepped.next.injEq] at e; exact e ▸ Nat.le_refl _
  | n + 1, m, m', e => by
    cases hs : stepT P m with
    | mk r ops =>
      cases r with
      | ended o w' => simp [runN, step, hs] at e
      | next m1 =>
        simp only [runN, step, hs] at e
        exact Nat.le_trans (stepT_size P m m1 true (by rw [hs])) (runN_grows e)

/-- A lone run, from one running goroutine to another, goes by single steps. -/
theorem path_of_runN (hP : Plain P) : ∀ {n : Nat} {g : Goroutine} {w : World} {a : Goroutine} {wa : World}, GorOK g → g.status = .running → a.status = .running → runN P n (crowd #[g] w none) = .next (crowd #[a] wa none) → Path P n g w a wa
  | 0, g, w, a, wa, _, _, _, e => by
    simp only [runN, Stepped.next.injEq] at e
    obtain ⟨rfl, rfl⟩ := crowd_inj e
    exact .nil
  | n + 1, g, w, a, wa, hg, hr, ha, e => by
    cases hs : stepT P (crowd #[g] w none) with
    | mk r ops =>
      cases r with
      | ended o w' => simp [runN, step, hs] at e
      | next m1 =>
        simp only [runN, step, hs] at e
        obtain ⟨g', w', rfl, hsl⟩ := next_one hP hg hr hs (runN_grows e)
        by_cases hr' : g'.status = .running
        · have h1 : One P g w g' w' ops := ⟨by rw [← stepT_one hr, hs], hr'⟩
          obtain ⟨_, hg', _, _, _⟩ := one_law hP hg hr h1
          exact .cons h1 (path_of_runN hP hg' hr' ha e)
        · have := runN_dead ⟨hr', hsl⟩ e
          obtain ⟨rfl, _⟩ := crowd_inj this
          exact absurd ha hr'

/-! ### the tree -/
inductive Reach (P : Program) (Stop : Goroutine → World → Prop) : Goroutine → World → Prop
  | stop {g w} : (∀ τ d, Stop g (Gat.re w τ d)) → Reach P Stop g w
  | step {g w} (G : (Nat → Question → Nat) → Nat → Goroutine × World × Array MemOp) : g.status = .running → GorOK g → (∀ τ d, One P g (Gat.re w τ d) (G τ d).1 (G τ d).2.1 (G τ d).2.2) → (∀ τ d, Reach P Stop (G τ d).1 (G τ d).2.1) → Reach P Stop g w
theorem Reach.step' {P : Program} {Stop : Goroutine → World → Prop} {g w} (hr : g.status = .running) (hg : GorOK g) (h : ∀ τ d, ∃ x : Goroutine × World × Array MemOp, One P g (Gat.re w τ d) x.1 x.2.1 x.2.2 ∧ Reach P Stop x.1 x.2.1) : Reach P Stop g w :=
  .step (fun τ d => Classical.choose (h τ d)) hr hg (fun τ d => (Classical.choose_spec (h τ d)).1) (fun τ d => (Classical.choose_spec (h τ d)).2)

/-- 'Stop' looks at no tape. -/
def Blind (Stop : Goroutine → World → Prop) : Prop := ∀ g w τ d, Stop g w → Stop g (Gat.re w τ d)
/-- On every tape the lone run comes to 'Stop'. -/
def Ever (P : Program) (Stop : Goroutine → World → Prop) (g : Goroutine) (w : World) : Prop := ∀ τ d, ∃ n a wa, Path P n g (Gat.re w τ d) a wa ∧ Stop a wa

theorem Ever.next (hP : Plain P) {Stop : Goroutine → World → Prop} (hB : Blind Stop) {g w g' w' ops} {τ0 : Nat → Question → Nat} {d0 : Nat} (h : Ever P Stop g w) (hg : GorOK g) (hr : g.status = .running) (hno : ¬ Stop g w)
    (h1 : One P g (Gat.re w τ0 d0) g' w' ops) : Ever P Stop g' w' := by
  intro τ d
  obtain ⟨⟨hd, ht⟩, hg', _, _, _⟩ := one_law hP hg hr h1
  simp only [re_drawn, re_tape] at hd ht
  let τ1 : Nat → Question → Nat := fun j q => if j < w'.drawn - d0 then τ0 (d0 + j) q else τ (d + (j - (w'.drawn - d0))) q
  obtain ⟨n, a, wa, hp, hs⟩ := h τ1 0
  have h2 := h1.re hP hg hr τ1 0 (fun j q hj => by
    simp only [re_drawn, re_tape] at hj ⊢
    show (if 0 + j < _ then _ else _) = _
    rw [if_pos (by omega), Nat.zero_add])
  cases hp with
  | nil =>
    have := hB _ _ w.tape w.drawn hs
    exact absurd this hno
  | cons k1 k2 =>
    obtain ⟨rfl, rfl⟩ := h2.same k1
    obtain ⟨e, he⟩ := k2.re hP hg' h1.2 τ d (fun j q => by
      show _ = τ1 (0 + (w'.drawn - d0) + j) q
      show _ = (if 0 + (w'.drawn - d0) + j < w'.drawn - d0 then _ else _)
      rw [if_neg (by omega), show 0 + (w'.drawn - d0) + j - (w'.drawn - d0) = j by omega])
    exact ⟨_, a, _, he, hB _ _ _ _ hs⟩

section
variable {Stop : Goroutine → World → Prop}
/-- What is on the way to 'Stop' on every tape, and not in the tree. -/
structure Bad (P : Program) (Stop : Goroutine → World → Prop) (x : Goroutine × World) : Prop where
  out : ¬ Reach P Stop x.1 x.2
  ok : GorOK x.1
  run : x.1.status = .running
  ever : Ever P Stop x.1 x.2

theorem Bad.next (hP : Plain P) (hB : Blind Stop) {x : Goroutine × World} (h : Bad P Stop x) :
    ∃ (y : Goroutine × World) (td : (Nat → Question → Nat) × Nat), Bad P Stop y ∧ ∃ ops, One P x.1 (Gat.re x.2 td.1 td.2) y.1 y.2 ops := by
  obtain ⟨g, w⟩ := x
  obtain ⟨h1, h2, h3, h4⟩ := h
  simp only at h1 h2 h3 h4
  have hno : ¬ Stop g w := fun hs => h1 (.stop fun τ d => hB _ _ _ _ hs)
  have : ∃ τ d, ∀ g' w' ops, One P g (Gat.re w τ d) g' w' ops → ¬ Reach P Stop g' w' := by
    apply Classical.byContradiction
    intro hc
    refine h1 (.step' h3 h2 fun τ d => ?_)
    apply Classical.byContradiction
    intro hd
    exact hc ⟨τ, d, fun g' w' ops ho hr => hd ⟨(g', w', ops), ho, hr⟩⟩
  obtain ⟨τ, d, hall⟩ := this
  obtain ⟨n, a, wa, hp, hs⟩ := h4 τ d
  cases hp with
  | nil => exact absurd (hB _ _ w.tape w.drawn hs) hno
  | @cons n _ _ g' w' ops _ _ k1 k2 =>
    obtain ⟨_, hg', _, _, _⟩ := one_law hP h2 h3 k1
    exact ⟨(g', w'), (τ, d), ⟨hall _ _ _ k1, hg', k1.2, h4.next hP hB h2 h3 hno k1⟩, ops, k1⟩

/-- ████ WHAT IS REACHED ON EVERY TAPE IS REACHED WITHIN A TREE. ████ -/
theorem reach_of_ever (hP : Plain P) (hB : Blind Stop) {g : Goroutine} {w : World} (hg : GorOK g) (hr : g.status = .running) (h : Ever P Stop g w) : Reach P Stop g w := by
  apply Classical.byContradiction
  intro hout
  let B := { x : Goroutine × World // Bad P Stop x }
  let nx : B → B := fun x => ⟨Classical.choose (x.2.next hP hB), (Classical.choose_spec (Classical.choose_spec (x.2.next hP hB))).1⟩
  let td : B → (Nat → Question → Nat) × Nat := fun x => Classical.choose (Classical.choose_spec (x.2.next hP hB))
  have hone : ∀ x : B, ∃ ops, One P x.1.1 (Gat.re x.1.2 (td x).1 (td x).2) (nx x).1.1 (nx x).1.2 ops := fun x => (Classical.choose_spec (Classical.choose_spec (x.2.next hP hB))).2
  let s : Nat → B := fun k => Nat.rec ⟨(g, w), ⟨hout, hg, hr, h⟩⟩ (fun _ x => nx x) k
  have hs : ∀ k, s (k + 1) = nx (s k) := fun k => rfl
  let c : Nat → Nat := fun k => (s (k + 1)).1.2.drawn - (td (s k)).2
  let D : Nat → Nat := fun k => Nat.rec 0 (fun k d => d + c k) k
  have hD : ∀ k, D (k + 1) = D k + c k := fun k => rfl
  have hmono : ∀ {a b}, a ≤ b → D a ≤ D b := by
    intro a b hab
    induction b with
    | zero => have : a = 0 := by omega
              subst this; exact Nat.le_refl _
    | succ b ih =>
      rcases Nat.lt_or_ge a (b + 1) with hl | hl
      · rw [hD]; exact Nat.le_trans (ih (by omega)) (by omega)
      · have : a = b + 1 := by omega
        subst this; exact Nat.le_refl _
  let T : Nat → Question → Nat := fun j q => open Classical in if hx : ∃ k, D k ≤ j ∧ j < D (k + 1) then (td (s (Classical.choose hx))).1 ((td (s (Classical.choose hx))).2 + (j - D (Classical.choose hx))) q else 0
  have hT : ∀ k j q, j < c k → T (D k + j) q = (td (s k)).1 ((td (s k)).2 + j) q := by
    intro k j q hj
    have hx : ∃ k', D k' ≤ D k + j ∧ D k + j < D (k' + 1) := ⟨k, by omega, by rw [hD]; omega⟩
    have hk : Classical.choose hx = k := by
      obtain ⟨a1, a2⟩ := Classical.choose_spec hx
      rcases Nat.lt_trichotomy (Classical.choose hx) k with hl | hl | hl
      · have := hmono (show Classical.choose hx + 1 ≤ k by omega)
        omega
      · exact hl
      · have := hmono (show k + 1 ≤ Classical.choose hx by omega)
        rw [hD] at this
        omega
    show @dite _ _ (Classical.propDecidable _) _ _ = _
    rw [dif_pos hx, hk, Nat.add_sub_cancel_left]
  have hpath : ∀ k, Path P k g (Gat.re w T 0) (s k).1.1 (Gat.re (s k).1.2 T (D k)) := by
    intro k
    induction k with
    | zero => exact .nil
    | succ k ih =>
      obtain ⟨ops, ho⟩ := hone (s k)
      have := ho.re hP (s k).2.ok (s k).2.run T (D k) (fun j q hj => by
        simp only [re_drawn, re_tape] at hj ⊢
        exact hT k j q (by show j < (s (k + 1)).1.2.drawn - (td (s k)).2; rw [hs]; omega))
      exact ih.snoc this
  obtain ⟨n, a, wa, hp, hstop⟩ := h T 0
  obtain ⟨rfl, rfl⟩ := (hpath n).same hp
  exact (s n).2.out (.stop fun τ d => by have := hB _ _ τ d hstop; exact this)
end
end
end Go.Gat
