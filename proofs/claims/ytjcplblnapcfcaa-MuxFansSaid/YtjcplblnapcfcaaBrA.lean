/-
  HOW A RUN HANGS ON THE TAPE: an operation's run reads the tape from the count of draws on, and no further than its own last draw.
  'Calm': an operation's text says neither 'disable' nor 'enable', and behind a call to the outside that would wait it goes no further.
-/
import Derived.RunNT
import Derived.Conc.Machine
import Derived.Conc.Events
namespace Go.Gat

/-- The world, its tape and its count of draws laid anew. -/
def re (w : World) (τ : Nat → Question → Nat) (d : Nat) : World := { w with tape := τ, drawn := d }
@[simp] theorem re_heap (w : World) (τ : Nat → Question → Nat) (d : Nat) : (re w τ d).heap = w.heap := rfl
@[simp] theorem re_os (w : World) (τ : Nat → Question → Nat) (d : Nat) : (re w τ d).os = w.os := rfl
@[simp] theorem re_output (w : World) (τ : Nat → Question → Nat) (d : Nat) : (re w τ d).output = w.output := rfl
@[simp] theorem re_tape (w : World) (τ : Nat → Question → Nat) (d : Nat) : (re w τ d).tape = τ := rfl
@[simp] theorem re_drawn (w : World) (τ : Nat → Question → Nat) (d : Nat) : (re w τ d).drawn = d := rfl
@[simp] theorem re_re (w : World) (τ τ' : Nat → Question → Nat) (d d' : Nat) : re (re w τ d) τ' d' = re w τ' d' := rfl
theorem re_self (w : World) : re w w.tape w.drawn = w := rfl
@[simp] theorem re_cell (w : World) (τ : Nat → Question → Nat) (d : Nat) (a : Addr) : (re w τ d).cell? a = w.cell? a := rfl
@[simp] theorem re_frozen (w : World) (τ : Nat → Question → Nat) (d : Nat) (a : Addr) : (re w τ d).frozen? a = w.frozen? a := rfl
@[simp] theorem re_shape (w : World) (τ : Nat → Question → Nat) (d : Nat) (r : Nat) : (re w τ d).shape? r = w.shape? r := rfl

/-- Behind such an end of an operation the run may go on. -/
def _root_.Go.Halt.live : Halt → Bool
  | .panic _ | .goexit | .fatal _ | .throw _ => true
  | _ => false

/-- .. or the machine tries the operation once more behind something else. -/
def _root_.Go.Halt.on : Halt → Bool
  | .unsupported (.initOrder _) => true
  | h => h.live

def _root_.Go.Result.on {α : Type} : Result α → Bool
  | .ok _ _ => true
  | .halt h _ => h.on
def _root_.Go.Result.live {α : Type} : Result α → Bool
  | .ok _ _ => true
  | .halt h _ => h.live
def _root_.Go.Result.world {α : Type} : Result α → World
  | .ok _ w => w
  | .halt _ w => w
def _root_.Go.Result.mapW {α : Type} (f : World → World) : Result α → Result α
  | .ok a w => .ok a (f w)
  | .halt h w => .halt h (f w)
@[simp] theorem mapW_ok {α : Type} (f : World → World) (a : α) (w : World) : (Result.ok a w).mapW f = .ok a (f w) := rfl
@[simp] theorem mapW_halt {α : Type} (f : World → World) (h : Halt) (w : World) : (Result.halt h w : Result α).mapW f = .halt h (f w) := rfl

/-- What is asked of an operation's text: of each end with a value 'L'; it says neither 'disable' nor 'enable'; a call to the outside that would wait ends it for good. -/
def _root_.Go.Sem.calm {α : Type} (L : α → Prop) : Sem α → Prop
  | .pure a => L a
  | .load _ _ k => ∀ v, (k v).calm L
  | .store _ _ _ k => k.calm L
  | .new _ k => ∀ r, (k r).calm L
  | .shape _ k => ∀ s, (k s).calm L
  | .freeze _ _ k => k.calm L
  | .frozen _ k => ∀ b, (k b).calm L
  | .getObj _ k => ∀ o, (k o).calm L
  | .setObj _ _ k => k.calm L
  | .choose _ k => ∀ n, (k n).calm L
  | .sys _ k => (∃ h, k .wouldBlock = .halt h ∧ h.on = false) ∧ ∀ r, (k r).calm L
  | .program k => ∀ p, (k p).calm L
  | .mark m k => m ≠ .disable ∧ m ≠ .enable ∧ k.calm L
  | .halt _ => True

/-- Only the limb on calls to the outside. -/
def _root_.Go.Sem.firm {α : Type} (P : Program) : Sem α → Prop
  | .pure _ => True
  | .load _ _ k => ∀ v, (k v).firm P
  | .store _ _ _ k => k.firm P
  | .new _ k => ∀ r, (k r).firm P
  | .shape _ k => ∀ s, (k s).firm P
  | .freeze _ _ k => k.firm P
  | .frozen _ k => ∀ b, (k b).firm P
  | .getObj _ k => ∀ o, (k o).firm P
  | .setObj _ _ k => k.firm P
  | .choose _ k => ∀ n, (k n).firm P
  | .sys _ k => (∃ h, k .wouldBlock = .halt h ∧ h.on = false) ∧ ∀ r, (k r).firm P
  | .program k => (k P).firm P
  | .mark _ k => k.firm P
  | .halt _ => True

theorem calm_firm {α : Type} {L : α → Prop} (P : Program) (s : Sem α) : s.calm L → s.firm P := by
  induction s with
  | pure a => exact fun _ => trivial
  | halt h => exact fun _ => trivial
  | load m a k ih => exact fun h v => ih v (h v)
  | store m a v k ih => exact fun h => ih h
  | new o k ih => exact fun h r => ih r (h r)
  | shape r k ih => exact fun h s => ih s (h s)
  | freeze a n k ih => exact fun h => ih h
  | frozen a k ih => exact fun h b => ih b (h b)
  | getObj r k ih => exact fun h o => ih o (h o)
  | setObj r o k ih => exact fun h => ih h
  | choose q k ih => exact fun h n => ih n (h n)
  | sys c k ih => exact fun h => ⟨h.1, fun r => ih r (h.2 r)⟩
  | program k ih => exact fun h => ih P (h P)
  | mark m k ih => exact fun h => ih h.2.2

/-! ### asking the outside -/
theorem ask_re {α : Type} (a : Ask α) (w : World) : ∃ e, w.drawn ≤ e ∧ (w.ask a).2 = re w w.tape e ∧
    ∀ (τ : Nat → Question → Nat) (d : Nat), (∀ j q, w.drawn + j < e → τ (d + j) q = w.tape (w.drawn + j) q) → (re w τ d).ask a = ((w.ask a).1, re w τ (d + (e - w.drawn))) := by
  induction a generalizing w with
  | done a => exact ⟨w.drawn, Nat.le_refl _, rfl, fun τ d _ => by simp [World.ask]⟩
  | ask what range k ih =>
    simp only [World.ask]
    by_cases hf : (Question.extern what range).forced = true
    · simp only [hf, if_true]
      exact ih 0 w
    · simp only [hf, Bool.false_eq_true, if_false]
      obtain ⟨e, he, h1, h2⟩ := ih ((Question.extern what range).cut (w.tape w.drawn (.extern what range))) { w with drawn := w.drawn + 1 }
      simp only at he
      refine ⟨e, by omega, h1, fun τ d hτ => ?_⟩
      have h0 := hτ 0 (.extern what range) (by omega)
      simp only [Nat.add_zero] at h0
      have h3 := h2 τ (d + 1) (fun j q hj => by
        simp only at hj
        have := hτ (j + 1) q (by omega)
        rw [show d + 1 + j = d + (j + 1) by omega, this]
        simp [Nat.add_comm, Nat.add_left_comm])
      have e2 : d + 1 + (e - (w.drawn + 1)) = d + (e - w.drawn) := by omega
      simp only [re_tape, re_drawn, h0]
      show (re { w with drawn := w.drawn + 1 } τ (d + 1)).ask (k _) = _
      rw [h3]
      simp only [e2]
      rfl

/-- .. and the outside. -/
def ro (w : World) (τ : Nat → Question → Nat) (d : Nat) (os : Os) : World := { w with tape := τ, drawn := d, os := os }
theorem sys_re (c : Sys) (w : World) : ∃ e os, w.drawn ≤ e ∧ (w.sys c).2 = ro w w.tape e os ∧
    ((w.sys c).1 ≠ .wouldBlock → ∀ (τ : Nat → Question → Nat) (d : Nat), (∀ j q, w.drawn + j < e → τ (d + j) q = w.tape (w.drawn + j) q) → (re w τ d).sys c = ((w.sys c).1, ro w τ (d + (e - w.drawn)) os)) := by
  obtain ⟨e, he, h1, h2⟩ := ask_re (Kernel.perform c w.os) w
  unfold World.sys
  simp only [re_os]
  generalize ha : w.ask (Kernel.perform c w.os) = x at h1 h2
  obtain ⟨⟨r, os⟩, w'⟩ := x
  simp only at h1 h2
  subst h1
  by_cases hr : r = .wouldBlock
  · subst hr
    exact ⟨w.drawn, w.os, Nat.le_refl _, rfl, fun h => absurd rfl h⟩
  · refine ⟨e, os, he, ?_, fun _ τ d hτ => ?_⟩
    · cases r <;> first | rfl | exact absurd rfl hr
    · rw [h2 τ d hτ]
      cases r <;> first | rfl | exact absurd rfl hr

/-! ### the law -/
/-- 's' RUN FROM 'w' UNDER ANOTHER TAPE THAT ANSWERS ITS OWN DRAWS ALIKE. -/
theorem runT_re {α : Type} (P : Program) (s : Sem α) (hs : s.firm P) (w : World) (es : Array Event) :
    w.drawn ≤ (s.runT P w es).1.world.drawn ∧ (s.runT P w es).1.world.tape = w.tape ∧
    ((s.runT P w es).1.on = true → ∀ (τ : Nat → Question → Nat) (d : Nat), (∀ j q, w.drawn + j < (s.runT P w es).1.world.drawn → τ (d + j) q = w.tape (w.drawn + j) q) →
      s.runT P (re w τ d) es = ((s.runT P w es).1.mapW (fun w' => re w' τ (d + (w'.drawn - w.drawn))), (s.runT P w es).2)) := by
  induction s generalizing w es with
  | pure a => exact ⟨Nat.le_refl _, rfl, fun _ τ d _ => by simp [Sem.runT]⟩
  | halt h => exact ⟨Nat.le_refl _, rfl, fun _ τ d _ => by simp [Sem.runT]⟩
  | load m a k ih =>
    simp only [Sem.runT, re_cell]
    have hfar : ∀ τ d, (re w τ d).farLoad P a (m == .atomic) = w.farLoad P a (m == .atomic) := fun τ d => rfl
    cases hc : w.cell? a with
    | some v => exact ih v (hs v) w _
    | none =>
      simp only [hfar]
      cases w.farLoad P a (m == .atomic) with
      | ok r => exact ih r.1 (hs r.1) w _
      | error h => exact ⟨Nat.le_refl _, rfl, fun _ τ d _ => by simp⟩
  | store m a v k ih =>
    have hst : ∀ τ d, (re w τ d).setCell a v = re (w.setCell a v) τ d := fun τ d => rfl
    have hfar : ∀ τ d, (re w τ d).farStore P a v (m == .atomic) = (w.farStore P a v (m == .atomic)).map fun r => (re r.1 τ d, r.2) := by
      intro τ d
      unfold World.farStore
      simp only [re_heap]
      split
      · rename_i at_ u _
        have hv : (re w τ d).viewStore P at_ u a v (m == .atomic) = (w.viewStore P at_ u a v (m == .atomic)).map fun r => (re r.1 τ d, r.2) := by
          unfold World.viewStore
          by_cases ht : (!tight P P.depth u) = true
          · simp only [ht, if_true]; rfl
          · simp only [ht, Bool.false_eq_true, if_false]
            show _ >>= _ = _
            have hs : (re w τ d).seen P at_ u a (m == .atomic) = w.seen P at_ u a (m == .atomic) := rfl
            rw [hs]
            cases w.seen P at_ u a (m == .atomic) with
            | error e => rfl
            | ok x =>
              obtain ⟨c, e, frozen, first, like, cells⟩ := x
              simp only [bind, Except.bind]
              cases v.bytes? with
              | none => rfl
              | some bytes =>
                show (if _ then _ else _) = Except.map _ (if _ then _ else _)
                split
                · rfl
                · show Except.bind _ _ = Except.map _ (Except.bind _ _)
                  generalize List.foldlM (m := Except String) _ c cells = y
                  cases y <;> rfl
        rw [hv]
        cases w.viewStore P at_ u a v (m == .atomic) <;> rfl
      · rfl
    have hdw : ∀ r, w.farStore P a v (m == .atomic) = .ok r → r.1.drawn = w.drawn ∧ r.1.tape = w.tape := by
      intro r hr
      have h1 := hfar (fun _ _ => 0) 0
      have h2 := hfar w.tape w.drawn
      rw [re_self, hr] at h2
      simp only [Except.map, Except.ok.injEq] at h2
      exact ⟨by rw [h2]; rfl, by rw [h2]; rfl⟩
    by_cases hv : (∃ c, v = .agg c) ∨ (∃ c, v = .tuple c)
    · rcases hv with ⟨c, rfl⟩ | ⟨c, rfl⟩ <;> exact ⟨Nat.le_refl _, rfl, fun _ τ d _ => by simp [Sem.runT]⟩
    have e : ∀ (w : World) (es : Array Event), (Sem.store m a v k).runT P w es = match w.cell? a with
      | some _ =>
        if w.frozen? a then (.halt (.unsupported (.unsafePointer "a write to bytes that a string shares")) w, es)
        else k.runT P (w.setCell a v) (es.push ⟨.cell a, true, m == .atomic⟩)
      | none => match w.farStore P a v (m == .atomic) with
        | .ok (w, touched) => k.runT P w (es ++ touched.toArray.map (⟨.cell ·, true, m == .atomic⟩))
        | .error h => (.halt h w, es) := by
      intro w es
      cases v <;> first | rfl | (exact absurd (.inl ⟨_, rfl⟩) hv) | (exact absurd (.inr ⟨_, rfl⟩) hv)
    simp only [e, re_cell, re_frozen, hst, hfar]
    cases w.cell? a with
    | some _ =>
      simp only []
      split
      · exact ⟨Nat.le_refl _, rfl, fun _ τ d _ => by simp⟩
      · exact ih hs (w.setCell a v) _
    | none =>
      simp only []
      cases hr : w.farStore P a v (m == .atomic) with
      | error h => exact ⟨Nat.le_refl _, rfl, fun _ τ d _ => by simp [Except.map]⟩
      | ok r =>
        obtain ⟨w1, touched⟩ := r
        obtain ⟨h1, h2⟩ := hdw _ hr
        simp only at h1 h2
        have := ih hs w1 (es ++ touched.toArray.map (⟨.cell ·, true, m == .atomic⟩))
        rw [h1, h2] at this
        exact this
  | new o k ih => exact ih _ (hs _) { w with heap := w.heap.push o } es
  | shape r k ih => exact ih _ (hs _) w es
  | freeze a n k ih =>
    have hf : ∀ τ d, (re w τ d).freeze a n = re (w.freeze a n) τ d := fun τ d => by unfold World.freeze; split <;> rfl
    have hd : (w.freeze a n).drawn = w.drawn := by unfold World.freeze; split <;> rfl
    have ht : (w.freeze a n).tape = w.tape := by unfold World.freeze; split <;> rfl
    simp only [Sem.runT, hf]
    have := ih hs (w.freeze a n) es
    rw [hd, ht] at this
    exact this
  | frozen a k ih => exact ih _ (hs _) w es
  | getObj r k ih =>
    simp only [Sem.runT, re_heap]
    split
    · exact ⟨Nat.le_refl _, rfl, fun _ τ d _ => by simp⟩
    · exact ih _ (hs _) w _
    · exact ⟨Nat.le_refl _, rfl, fun _ τ d _ => by simp⟩
  | setObj r o k ih =>
    simp only [Sem.runT, re_heap]
    split
    · exact ⟨Nat.le_refl _, rfl, fun _ τ d _ => by simp⟩
    · exact ih hs { w with heap := w.heap.setIfInBounds r o } _
    · exact ⟨Nat.le_refl _, rfl, fun _ τ d _ => by simp⟩
  | choose q k ih =>
    simp only [Sem.runT]
    by_cases hf : q.forced = true
    · simp only [hf, if_true]
      exact ih 0 (hs 0) w es
    · simp only [hf, Bool.false_eq_true, if_false]
      obtain ⟨h1, h2, h3⟩ := ih (q.cut (w.tape w.drawn q)) (hs _) { w with drawn := w.drawn + 1 } es
      simp only at h1 h2
      refine ⟨by omega, h2, fun hl τ d hτ => ?_⟩
      have h0 := hτ 0 q (by omega)
      simp only [Nat.add_zero] at h0
      have h4 := h3 hl τ (d + 1) (fun j q hj => by
        simp only at hj
        have := hτ (j + 1) q (by omega)
        rw [show d + 1 + j = d + (j + 1) by omega, this]
        simp [Nat.add_comm, Nat.add_left_comm])
      simp only [re_tape, re_drawn, h0]
      show (k _).runT P (re { w with drawn := w.drawn + 1 } τ (d + 1)) es = _
      rw [h4]
      refine Prod.ext ?_ rfl
      generalize (k (q.cut (w.tape w.drawn q))).runT P { w with drawn := w.drawn + 1 } es = x at h1 hl
      obtain ⟨r, es'⟩ := x
      cases r with
      | ok a w' =>
        simp only [Result.world] at h1
        simp only [mapW_ok]
        rw [show d + 1 + (w'.drawn - (w.drawn + 1)) = d + (w'.drawn - w.drawn) by omega]
      | halt a w' =>
        simp only [Result.world] at h1
        simp only [mapW_halt]
        rw [show d + 1 + (w'.drawn - (w.drawn + 1)) = d + (w'.drawn - w.drawn) by omega]
  | sys c k ih =>
    obtain ⟨e, os, he, h1, h2⟩ := sys_re c w
    simp only [Sem.runT]
    by_cases hr : (w.sys c).1 = .wouldBlock
    · obtain ⟨⟨h, hk, hl⟩, _⟩ := hs
      rw [hr, hk]
      refine ⟨?_, ?_, fun hl' => ?_⟩
      · rw [h1]; exact he
      · rw [h1]; rfl
      · simp only [Sem.runT, Result.on, hl] at hl'
        cases hl'
    · obtain ⟨a1, a2, a3⟩ := ih (w.sys c).1 (hs.2 _) (w.sys c).2 (es.push ⟨.output, true, false⟩)
      rw [h1] at a1 a2
      refine ⟨?_, ?_, fun hl τ d hτ => ?_⟩
      · rw [h1]; exact Nat.le_trans he a1
      · rw [h1]; exact a2
      · rw [h1] at a3 hτ hl ⊢
        have a4 := a3 hl τ (d + (e - w.drawn)) (fun j q hj => by
          have hj' : e + j < (Sem.runT P (k (w.sys c).fst) (ro w w.tape e os) (es.push { loc := Loc.output, write := true, sync := false })).fst.world.drawn := hj
          have he' : (ro w w.tape e os).tape ((ro w w.tape e os).drawn + j) q = w.tape (e + j) q := rfl
          rw [he']
          have := hτ (e - w.drawn + j) q (by omega)
          rw [show d + (e - w.drawn) + j = d + (e - w.drawn + j) by omega, this]
          rw [show w.drawn + (e - w.drawn + j) = e + j by omega])
        rw [h2 hr τ d (fun j q hj => hτ j q (Nat.lt_of_lt_of_le hj a1))]
        simp only
        refine Eq.trans ?_ (Eq.trans a4 ?_)
        · rfl
        · refine Prod.ext ?_ rfl
          have a5 : (ro w w.tape e os).drawn = e := rfl
          rw [a5] at a1 ⊢
          generalize (k (w.sys c).1).runT P (ro w w.tape e os) (es.push ⟨.output, true, false⟩) = x at a1
          obtain ⟨r, es'⟩ := x
          cases r with
          | ok a w' =>
            simp only [Result.world] at a1
            simp only [mapW_ok]
            rw [show d + (e - w.drawn) + (w'.drawn - e) = d + (w'.drawn - w.drawn) by omega]
          | halt a w' =>
            simp only [Result.world] at a1
            simp only [mapW_halt]
            rw [show d + (e - w.drawn) + (w'.drawn - e) = d + (w'.drawn - w.drawn) by omega]
  | program k ih => exact ih P hs w es
  | mark m k ih => exact ih hs w _

end Go.Gat
