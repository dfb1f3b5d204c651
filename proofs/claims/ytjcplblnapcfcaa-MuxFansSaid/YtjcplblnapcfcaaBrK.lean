/-
  THE BRIDGE: what a lone goroutine comes to on every tape, goroutine 0 comes to beside leavers, on whatever schedule; the trace stays 'Past0'.
-/
import Derived.Test.YtjcplblnapcfcaaBrJ
set_option linter.unusedSimpArgs false
namespace Go.Gat
open Go.Conc
open Go.ConcN (sumTo upd sumTo_upd upd_ne upd_same)

/-- No data race; goroutine 0 knows every touch; all is handed over; goroutine 0 hears. -/
def Past0 (t : Trace) : Prop := ∃ B, Past (fun _ => False) B t

theorem low_some (x : MemAct) : ∃ B, x.low B := by
  cases x with
  | access e => cases h : e.loc with
    | cell a => exact ⟨a.block + 1, by simp [MemAct.low, Loc.low, h]⟩
    | obj r => exact ⟨r + 1, by simp [MemAct.low, Loc.low, h]⟩
    | _ => exact ⟨0, by simp [MemAct.low, Loc.low, h]⟩
  | mark m =>
    cases m with
    | acquire a | release a | releaseMerge a | read a | write a => exact ⟨a.block + 1, by simp [MemAct.low]⟩
    | _ => exact ⟨0, trivial⟩
  | send c _ | sendDone c _ | recv c _ _ | recvDone c _ | close c | recvClosed c => exact ⟨c + 1, by simp [MemAct.low]⟩
  | _ => exact ⟨0, trivial⟩
theorem low_all (u : Array MemOp) : ∃ B, ∀ op ∈ u, op.act.low B := by
  obtain ⟨l⟩ := u
  induction l with
  | nil => exact ⟨0, fun op h => by simp at h⟩
  | cons x l ih =>
    obtain ⟨B, hB⟩ := ih
    obtain ⟨B', hB'⟩ := low_some x.act
    refine ⟨max B B', fun op h => ?_⟩
    simp only [List.mem_toArray, List.mem_cons] at h hB
    rcases h with rfl | h
    · exact MemAct.low_mono (Nat.le_max_right _ _) hB'
    · exact MemAct.low_mono (Nat.le_max_left _ _) (hB op h)

theorem Past0.own {t u : Trace} (h : Past0 t) (hu : ∀ op ∈ u, op.g = 0) (hd : Deaf (t ++ u) 0 = Deaf t 0) : Past0 (t ++ u) := by
  obtain ⟨B, h⟩ := h
  obtain ⟨B', h'⟩ := low_all u
  exact ⟨max B B', (h.mono (Nat.le_max_left _ _)).app0 hu (fun _ _ _ _ x => x.elim) hd fun op hop => MemAct.low_mono (Nat.le_max_right _ _) (h' op hop)⟩
theorem Past0.mute {t : Trace} (h : Past0 t) {g : Nat} (hg : g ≠ 0) {fn : FuncId} {pos : String} {es : Array Event} (hm : ∀ e ∈ es, e.mute = true) : Past0 (t ++ MemOp.ofEvents g fn pos es) :=
  let ⟨B, h⟩ := h
  ⟨B, h.mute hg hm⟩

section
variable {P : Program} {Stop : Goroutine → World → Prop}

theorem _root_.Go.Conc.Leavers.calm {t : Trace} {gs : Array Goroutine} {q : Nat → Nat} {g : Goroutine} (hL : Leavers P t gs q) (h0 : gs[0]? = some g) (hr : g.status = .running) : Calmly gs := fun j x hj => by
  rcases Nat.eq_zero_or_pos j with rfl | hpos
  · rw [h0] at hj; exact .inl (Option.some.inj hj ▸ hr)
  · exact (hL.old j x hpos hj).status

/-- Goroutine 0 goes on by its own operations. -/
theorem _root_.Go.Conc.Leavers.own {t u : Trace} {gs : Array Goroutine} {q : Nat → Nat} {g' : Goroutine} (hL : Leavers P t gs q) (hlt : 0 < gs.size) (hu : ∀ op ∈ u, op.g = 0) : Leavers P (t ++ u) (gs.setIfInBounds 0 g') q :=
  ⟨fun j x hj hx => by
    have hne : 0 ≠ j := by omega
    rw [Array.getElem?_setIfInBounds_ne hne] at hx
    rw [Deaf_other t (g' := 0) (by omega) u hu]
    exact hL.old j x hj hx, fun j hj => by
    have hj' : gs.size ≤ j := by simpa using hj
    rw [Deaf_other t (g' := 0) (by omega) u hu]
    exact hL.above j hj'⟩

theorem at_eq_re (w : World) (d : Nat) : w.at d = re w w.tape d := rfl

/-- ████ THE WALK BESIDE LEAVERS. ████ -/
theorem reach_beside (hP : Plain P) {g : Goroutine} {w : World} (hR : Reach P Stop g w) :
    ∀ (e : Nat) (gs : Array Goroutine) (sl : Option (Nat × Nat)) (t : Trace) (q : Nat → Nat), gs[0]? = some g → Leavers P t gs q → Past0 t →
      ∃ (N : Nat) (gs' : Array Goroutine) (a' : Goroutine) (w' : World) (sl' : Option (Nat × Nat)) (t' : Trace) (q' : Nat → Nat),
        runNT P N (crowd gs (w.at e) sl) t = (.next (crowd gs' w' sl'), t') ∧ gs'.size = gs.size ∧ gs'[0]? = some a' ∧ Stop a' w' ∧ Leavers P t' gs' q' ∧ Past0 t' := by
  induction hR with
  | @stop g w hS => exact fun e gs sl t q h0 hL hPt => ⟨0, gs, g, w.at e, sl, t, q, rfl, rfl, h0, hS w.tape e, hL, hPt⟩
  | @step g w G hr hg h1 _ ih =>
    suffices H : ∀ (M e : Nat) (gs : Array Goroutine) (sl : Option (Nat × Nat)) (t : Trace) (q : Nat → Nat), sumTo gs.size q < M → gs[0]? = some g → Leavers P t gs q → Past0 t →
        ∃ (N : Nat) (gs' : Array Goroutine) (a' : Goroutine) (w' : World) (sl' : Option (Nat × Nat)) (t' : Trace) (q' : Nat → Nat),
          runNT P N (crowd gs (w.at e) sl) t = (.next (crowd gs' w' sl'), t') ∧ gs'.size = gs.size ∧ gs'[0]? = some a' ∧ Stop a' w' ∧ Leavers P t' gs' q' ∧ Past0 t' from
      fun e gs sl t q => H _ e gs sl t q (Nat.lt_succ_self _)
    intro M
    induction M with
    | zero => exact fun e gs sl t q hM => absurd hM (Nat.not_lt_zero _)
    | succ M ihM =>
      intro e gs sl t q hM h0 hL hPt
      have hcal := hL.calm h0 hr
      have hlt0 : 0 < gs.size := (Array.getElem?_eq_some_iff.1 h0).1
      obtain ⟨i, x, d, sl', hi, hx, hst⟩ := crowd_pick (P := P) (w := w.at e) (sl := sl) (fun y hy => by
        obtain ⟨k, hk, rfl⟩ := Array.mem_iff_getElem.1 hy
        intro u hu
        rcases hcal k _ (Array.getElem?_eq_getElem hk) with z | z <;> rw [z] at hu <;> cases hu) ⟨0, g, h0, hr⟩
      rcases Nat.eq_zero_or_pos i with rfl | hpos
      · obtain rfl : x = g := by rw [h0] at hi; exact (Option.some.inj hi).symm
        obtain ⟨hd, hg', ho, hdeaf, hall⟩ := one_law hP hg hr (h1 w.tape d)
        have hrun := hall w.tape d (fun j q _ => rfl) gs sl' h0 hcal
        have hw : sh (re w w.tape d) (G w.tape d).2.1 w.tape d = (G w.tape d).2.1.at (G w.tape d).2.1.drawn := by
          unfold sh
          have h2 := hd.1
          have h3 := hd.2
          simp only [re_drawn, re_tape] at h2 h3 ⊢
          rw [at_eq_re, h3, show d + ((G w.tape d).2.1.drawn - d) = (G w.tape d).2.1.drawn by omega]
        rw [hw] at hrun
        obtain ⟨N, gs', a', w', sl'', t', q', hr', hs', h0', hS, hL', hP'⟩ := ih w.tape d (G w.tape d).2.1.drawn (gs.setIfInBounds 0 (G w.tape d).1) sl' (t ++ (G w.tape d).2.2) q (by simp [hlt0]) (hL.own hlt0 ho) (hPt.own ho (hdeaf t))
        refine ⟨N + 1, gs', a', w', sl'', t', q', ?_, hs'.trans (by simp), h0', hS, hL', hP'⟩
        have hst' : stepT P (crowd gs (w.at e) sl) = (.next (crowd (gs.setIfInBounds 0 (G w.tape d).1) ((G w.tape d).2.1.at (G w.tape d).2.1.drawn) sl'), (G w.tape d).2.2) := hst.trans hrun
        simp only [runNT, hst']
        exact hr'
      · -- a leaver slips
        have hq := hL.old i x hpos hi
        have hi0 : (i == 0) = false := by simp; omega
        have hlt : i < gs.size := (Array.getElem?_eq_some_iff.1 hi).1
        cases hqi : q i with
        | zero => rw [hqi] at hq; rw [hq.1] at hx; cases hx
        | succ k =>
          rw [hqi] at hq
          rcases hq with ⟨hf, _⟩ | ⟨_, g', es, hm, hstp, hq'⟩
          · rw [hf] at hx; cases hx
          have hrunT := runT_crowd_go (P := P) (sl := sl') (i := i) hi (by rw [hi0]; exact hstp ((w.at e).at d))
          rw [hcal.map] at hrunT
          have hsum : sumTo gs.size (upd q i k) + (k + 1) = sumTo gs.size q + k := by
            have := sumTo_upd q k id hlt
            simpa [hqi] using this
          obtain ⟨N, gs', a', w', sl'', t', q', hr', hs', h0', hS, hL', hP'⟩ := ihM d (gs.setIfInBounds i g') sl' (t ++ MemOp.ofEvents i x.frame.fn x.frame.place es) (upd q i k) (by simp only [Array.size_setIfInBounds]; omega)
            (by
              have hne : i ≠ 0 := by omega
              rw [Array.getElem?_setIfInBounds_ne hne, h0])
            ⟨fun j y hj hy => by
              by_cases hji : i = j
              · subst hji
                rw [Array.getElem?_setIfInBounds_self_of_lt hlt] at hy
                obtain rfl := Option.some.inj hy
                rw [upd_same, Deaf_own]
                exact hq'
              · rw [Array.getElem?_setIfInBounds_ne hji] at hy
                rw [upd_ne q k (Ne.symm hji), Deaf_other t hji _ (MemOp.ofEvents_g i _ _ _)]
                exact hL.old j y hj hy, fun j hj => by
              rw [Deaf_other t (g' := i) (by simp at hj; omega) _ (MemOp.ofEvents_g i _ _ _)]
              exact hL.above j (by simpa using hj)⟩
            (hPt.mute (by omega) hm)
          refine ⟨N + 1, gs', a', w', sl'', t', q', ?_, hs'.trans (by simp), h0', hS, hL', hP'⟩
          have hst' : stepT P (crowd gs (w.at e) sl) = (.next (crowd (gs.setIfInBounds i g') (w.at d) sl'), MemOp.ofEvents i x.frame.fn x.frame.place es) := hst.trans hrunT
          simp only [runNT, hst']
          exact hr'
end

/-! ### a contract, beside leavers -/
section
variable {P : Program}

theorem lone_crowd (fr : Frame) (cs : List Frame) (w : World) : lone fr cs w = crowd #[{ frame := fr, callers := cs, status := .running, dying := none }] w none := rfl

/-- A CALL WHOSE CONTRACT HOLDS ON EVERY TAPE, and neither panics nor asks for room. -/
theorem reach_of_calls (hP : Plain P) {f : FuncId} {args : Array Value} {c : Frame} {cs : List Frame} {w : World} {R : Value → World → Prop} (hB : ∀ v w τ d, R v w → R v (re w τ d)) (hcs : FramesOK (c :: cs))
    (h : ∀ τ d, Calls P f args (re w τ d) fun e w' => match e with | .returned v => R v w' | _ => False) :
    Reach P (fun g' w' => ∃ v, R v w' ∧ g' = { frame := c.finish v, callers := cs, status := .running, dying := none }) { frame := Frame.enter P f args .normal, callers := c :: cs, status := .running, dying := none } w := by
  refine reach_of_ever hP (fun g w τ d => fun ⟨v, hv, e⟩ => ⟨v, hB _ _ _ _ hv, e⟩) ⟨FrameOK.enter _ _ _ _, hcs⟩ rfl fun τ d => ?_
  obtain ⟨e, w', fr, hR, hsteps, _, hleave⟩ := h τ d (c :: cs)
  cases e with
  | returned v =>
    obtain ⟨n, hn⟩ := hsteps
    have hstep := step_leave_returned (c := c) (cs := cs) hleave
    have hrun : runN P (n + 1) (lone (Frame.enter P f args .normal) (c :: cs) (re w τ d)) = .next (lone (c.finish v) cs w') := by
      rw [runN_add, hn]
      simp [runN, hstep]
    exact ⟨_, _, _, path_of_runN hP ⟨FrameOK.enter _ _ _ _, hcs⟩ rfl rfl hrun, v, hR, rfl⟩
  | panicked ch => exact hR.elim
  | outgrown => exact hR.elim
end
end Go.Gat
