/-
  THE CROWD THAT CARRIES OUT PROTOCOL TERMS: a leaver's step; an own step.
-/
import Derived.Test.YtjcplblnapcfcaaPhD
set_option linter.unusedSimpArgs false
namespace Go.Gat
open Go.Conc
open Go.ConcN (sumTo upd sumTo_upd upd_ne upd_same)

section
variable {P : Program} {B T0 : Nat} {fin : List Value → Own → Goroutine → World → Prop} {A : Abs} {gs : Array Goroutine} {w : World} {t : Trace} {ow : Nat → Own} {ns : Nat → Nat}

theorem set_cases {gs : Array Goroutine} {i j : Nat} {x y : Goroutine} (h : (gs.setIfInBounds i x)[j]? = some y) : (j = i ∧ y = x) ∨ (j ≠ i ∧ gs[j]? = some y) := by
  by_cases hij : i = j
  · subst hij
    by_cases hlt : i < gs.size
    · rw [Array.getElem?_setIfInBounds_self_of_lt hlt] at h
      exact .inl ⟨rfl, (Option.some.inj h).symm⟩
    · rw [Array.getElem?_eq_none (by simpa using hlt)] at h; cases h
  · rw [Array.getElem?_setIfInBounds_ne hij] at h
    exact .inr ⟨fun e => hij e.symm, h⟩

theorem sum_upd_lt {ns : Nat → Nat} {i n k : Nat} (hi : i < n) (hk : k < ns i) : sumTo n (upd ns i k) < sumTo n ns := by
  have h1 : sumTo n (upd ns i k) + ns i = sumTo n ns + k := sumTo_upd ns k id hi
  omega

/-- A leaver slips. -/
theorem Inv.slip (h : Inv P B T0 fin A gs w t ow ns) {i : Nat} {g : Goroutine} (hi : gs[i]? = some g) (hp : A.pr i = .quit) (hi0 : i ≠ 0) (hg : g.status = .running) (sl : Option (Nat × Nat)) :
    ∃ gs' ops ns', runT P (crowd gs w sl) i = (.next (crowd gs' w sl), ops) ∧ gs'.size = gs.size ∧ Inv P B T0 fin A gs' w (t ++ ops) ow ns' ∧ sumTo gs.size ns' < sumTo gs.size ns := by
  have hlt : i < gs.size := (Array.getElem?_eq_some_iff.1 hi).1
  obtain ⟨hpk, hq⟩ := (h.stand i g hi).1 hp
  cases hn : ns i with
  | zero => rw [hn] at hq; rw [hq.1] at hg; cases hg
  | succ k =>
    rw [hn] at hq
    rcases hq with ⟨hf, _⟩ | ⟨_, g', es, hm, hst, hq'⟩
    · rw [hf] at hg; cases hg
    have hb : (i == 0) = false := by simpa using hi0
    have hrun := runT_crowd_go (P := P) (sl := sl) hi (by rw [hb]; exact hst w)
    rw [h.woken (fun c hc => (h.chans c _ hc).2)] at hrun
    have hu := MemOp.ofEvents_g i g.frame.fn g.frame.place es
    refine ⟨_, _, upd ns i k, hrun, by simp, ?_, sum_upd_lt hlt (by omega)⟩
    refine { h with stand := fun j y hj => ?_, out := fun j hj => ?_, tr := h.tr.mute fun op hop => ?_ }
    · rcases set_cases hj with ⟨rfl, rfl⟩ | ⟨hne, hj⟩
      · refine ⟨fun _ => ⟨hpk, ?_⟩, fun e => absurd hp e⟩
        rw [upd_same, Deaf_own]
        exact hq'
      · rw [upd_ne ns k hne, Deaf_other t (Ne.symm hne) _ hu]
        exact h.stand j y hj
    · simp only [Array.size_setIfInBounds] at hj
      rw [Deaf_other t (g' := i) (by omega) _ hu]
      exact h.out j hj
    · obtain ⟨e, he, rfl⟩ := Conc.mem_ofEvents hop
      exact touch_mute (hm e he)

theorem deaf_ok {B : Nat} {own : Own} {es : Array Event} (h : ∀ e ∈ es, EvOK B own e) (d : Nat) : deafBehind d es = d := deafBehind_silents d es fun e he => by
  rcases h e he with ⟨_, h⟩ | ⟨a, wr, rfl, _⟩
  · exact h
  · exact ⟨by simp, by simp⟩

/-- An own step of goroutine i: the same term, its blocks 'own''. -/
theorem Inv.ownStep (h : Inv P B T0 fin A gs w t ow ns) {i : Nat} {g g' : Goroutine} {w' : World} {es : Array Event} {own' : Own} {k : Nat} (hi : gs[i]? = some g) (hp : A.pr i ≠ .quit) (hpk : A.pk i = false)
    (hst : stepG P (i == 0) g w = .go g' w' es) (hG : Guar B (ow i) own' w w' es) (hW : Way P B (i == 0) (AtP P B fin (A.pr i) (i == 0)) k own' g' w') (hk : k < ns i) (sl : Option (Nat × Nat)) :
    ∃ gs' ops ow' ns', runT P (crowd gs w sl) i = (.next (crowd gs' w' sl), ops) ∧ gs'.size = gs.size ∧ Inv P B T0 fin A gs' w' (t ++ ops) ow' ns' ∧ sumTo gs.size ns' < sumTo gs.size ns := by
  have hlt : i < gs.size := (Array.getElem?_eq_some_iff.1 hi).1
  have hd0 := ((h.stand i g hi).2 hp).1
  have hu := MemOp.ofEvents_g i g.frame.fn g.frame.place es
  have hchan : ∀ c x, A.ch c = some x → Chan w' c x.isSome := fun c x hc => by
    obtain ⟨_, s, hs⟩ := h.chans c x hc
    have hcl : c < w.heap.size := (Array.getElem?_eq_some_iff.1 hs).1
    refine ⟨s, ?_⟩
    rw [hG.keep c hcl fun ho => ?_, hs]
    rw [(h.low i c ho).2.2] at hc; cases hc
  have hrun := runT_crowd_go (P := P) (sl := sl) hi hst
  rw [h.woken (fun c hc => hchan c none hc)] at hrun
  have hlow' : ∀ b, own' b → B ≤ b ∧ b < w'.heap.size ∧ A.ch b = none := fun b hb => by
    rcases hG.new b hb with ho | ⟨h1, h2⟩
    · obtain ⟨a1, a2, a3⟩ := h.low i b ho
      exact ⟨a1, Nat.lt_of_lt_of_le a2 hG.size, a3⟩
    · refine ⟨Nat.le_trans h.room h1, h2, ?_⟩
      cases hc : A.ch b with
      | none => rfl
      | some x =>
        obtain ⟨_, s, hs⟩ := h.chans b x hc
        have : b < w.heap.size := (Array.getElem?_eq_some_iff.1 hs).1
        omega
  have hdis' : ∀ j b, j ≠ i → ow j b → ¬ own' b := fun j b hj hb ho => by
    rcases hG.new b ho with ho | ⟨h1, _⟩
    · exact h.disj j i b hj hb ho
    · have := (h.low j b hb).2.1
      omega
  have hrely : ∀ j, j ≠ i → Rely B (ow j) w w' := fun j hj => ⟨hG.size, fun b hb hl => hG.keep b hl fun ho => by
    rcases hb with hb | hb
    · have := (h.low i b ho).1; omega
    · exact h.disj j i b hj hb ho, hG.os, hG.output⟩
  refine ⟨_, _, fun y => if y = i then own' else ow y, upd ns i k, hrun, by simp, ?_, sum_upd_lt hlt hk⟩
  refine { stand := fun j y hj => ?_, out := fun j hj => ?_, low := fun j b hb => ?_, disj := fun j j' b hne hb hb' => ?_, chans := fun c x hc => ⟨(h.chans c x hc).1, hchan c x hc⟩, shown := h.shown, room := Nat.le_trans h.room hG.size, tr := ?_, knq := h.knq, clq := h.clq }
  · rcases set_cases hj with ⟨rfl, rfl⟩ | ⟨hne, hj⟩
    · refine ⟨fun e => absurd e hp, fun _ => ⟨?_, fun e => (by rw [hpk] at e; cases e), fun _ => ?_⟩⟩
      · rw [Deaf_own, deaf_ok hG.evs, hd0]
      · rw [upd_same, if_pos rfl]; exact hW
    · rw [upd_ne ns k hne, Deaf_other t (Ne.symm hne) _ hu, if_neg hne]
      exact (h.stand j y hj).rely (hrely j hne)
  · simp only [Array.size_setIfInBounds] at hj
    rw [Deaf_other t (g' := i) (by omega) _ hu, if_neg (by omega)]
    exact h.out j hj
  · split at hb
    · exact hlow' b hb
    · obtain ⟨a1, a2, a3⟩ := h.low j b hb
      exact ⟨a1, Nat.lt_of_lt_of_le a2 hG.size, a3⟩
  · split at hb
    · rename_i e
      rw [if_neg (fun e' => hne (e.trans e'.symm))] at hb'
      exact hdis' j' b (fun e' => hne (e.trans e'.symm)) hb' hb
    · rename_i e
      split at hb'
      · exact hdis' j b e hb hb'
      · exact h.disj j j' b hne hb hb'
  · exact h.tr.own hp hG.evs hG.grow hdis' (fun y b hb => (h.low y b hb).1) (fun b hb => (hlow' b hb).1) (fun z hz => hp (h.knq z i hz)) (fun c hc => hp (h.clq c i (by
      cases hcc : A.ch c with
      | none => rw [hcc] at hc; cases hc
      | some x => rw [hcc] at hc; simpa using hc)))
end
end Go.Gat
