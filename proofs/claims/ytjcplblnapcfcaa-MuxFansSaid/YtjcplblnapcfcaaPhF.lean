/-
  THE CROWD THAT CARRIES OUT PROTOCOL TERMS: a communication.
-/
import Derived.Test.YtjcplblnapcfcaaPhE
set_option linter.unusedSimpArgs false
namespace Go.Gat
open Go.Conc
open Go.ConcN (sumTo upd sumTo_upd upd_ne upd_same)

section
variable {P : Program} {B T0 : Nat} {fin : List Value → Own → Goroutine → World → Prop} {A : Abs} {gs : Array Goroutine} {w : World} {t : Trace} {ow : Nat → Own} {ns : Nat → Nat}

theorem finish_sel0 (g : Goroutine) (c d : Nat) (zc zd v : Value) : g.finishComm P #[rcase c zc, rcase d zd] .select ((0 : Nat) : Int) v true = Conc.served g (.tuple #[goInt 0, .bool true, v, zd]) := by
  simp [Goroutine.finishComm, commResult, Conc.served, rcase]
theorem finish_sel1 (g : Goroutine) (c d : Nat) (zc zd v : Value) : g.finishComm P #[rcase c zc, rcase d zd] .select ((1 : Nat) : Int) v true = Conc.served g (.tuple #[goInt 1, .bool true, zc, v]) := by
  simp [Goroutine.finishComm, commResult, Conc.served, rcase]

/-- What a receiver does behind its receive. -/
theorem AtP.gets {p : Proc} {m : Bool} {own : Own} {g : Goroutine} {cs : Array CommCase} {sh : CommShape} {k c : Nat} {cc : CommCase} (v : Value) (h : AtP P B fin p m own (Gat.bare g) w) (hp : p.offers = some (cs, sh)) (hk : cs[k]? = some cc)
    (hc : cc.chan = .chan (some c)) (hs : cc.send = none) : ∃ p', Gets p c v p' ∧ Does P B fin p' m own ((Gat.bare g).finishComm P cs sh k v true) w := by
  cases p <;> simp [Proc.offers] at hp
  case send c' v' z k' =>
    obtain ⟨rfl, rfl⟩ := hp
    cases k with
    | zero => simp [scase] at hk; subst hk; cases hs
    | succ k => simp at hk
  case recv c' z k' k0 =>
    obtain ⟨rfl, rfl⟩ := hp
    cases k with
    | succ k => simp at hk
    | zero =>
      simp only [rcase, List.getElem?_toArray, List.getElem?_cons_zero, Option.some.injEq] at hk
      subst hk
      simp only [Value.chan.injEq, Option.some.injEq] at hc
      subst hc
      unfold AtP at h
      obtain ⟨_, es, _, _, h1, _⟩ := h
      exact ⟨_, .recv c' z k' k0 v, h1 v⟩
  case sel c' d' zc zd kc kd =>
    obtain ⟨rfl, rfl⟩ := hp
    unfold AtP at h
    obtain ⟨_, es, _, _, h1, h2⟩ := h
    cases k with
    | zero =>
      simp only [rcase, List.getElem?_toArray, List.getElem?_cons_zero, Option.some.injEq] at hk
      subst hk
      simp only [Value.chan.injEq, Option.some.injEq] at hc
      subst hc
      rw [finish_sel0]
      exact ⟨_, .fst c' d' zc zd kc kd v, h1 v⟩
    | succ k =>
      cases k with
      | succ k => simp at hk
      | zero =>
        simp only [rcase, List.getElem?_toArray, List.getElem?_cons_succ, List.getElem?_cons_zero, Option.some.injEq] at hk
        subst hk
        simp only [Value.chan.injEq, Option.some.injEq] at hc
        subst hc
        rw [finish_sel1]
        exact ⟨_, .snd c' d' zc zd kc kd v, h2 v⟩

/-- What a sender does behind its send. -/
theorem AtP.sent {p : Proc} {m : Bool} {own : Own} {g : Goroutine} {cs : Array CommCase} {sh : CommShape} {k c : Nat} {cc : CommCase} {v : Value} (h : AtP P B fin p m own (Gat.bare g) w) (hp : p.offers = some (cs, sh)) (hk : cs[k]? = some cc)
    (hc : cc.chan = .chan (some c)) (hs : cc.send = some v) (x : Value) (b : Bool) : ∃ z k', p = .send c v z k' ∧ Does P B fin k' m own ((Gat.bare g).finishComm P cs sh k x b) w := by
  cases p <;> simp [Proc.offers] at hp
  case send c' v' z k' =>
    obtain ⟨rfl, rfl⟩ := hp
    cases k with
    | succ k => simp at hk
    | zero =>
      simp only [scase, List.getElem?_toArray, List.getElem?_cons_zero, Option.some.injEq] at hk
      subst hk
      simp only [Value.chan.injEq, Option.some.injEq] at hc hs
      subst hc hs
      unfold AtP at h
      obtain ⟨_, es, _, _, h1⟩ := h
      exact ⟨z, k', rfl, h1⟩
  case recv c' z k' k0 =>
    obtain ⟨rfl, rfl⟩ := hp
    cases k with
    | succ k => simp at hk
    | zero => simp [rcase] at hk; subst hk; cases hs
  case sel c' d' zc zd kc kd =>
    obtain ⟨rfl, rfl⟩ := hp
    cases k with
    | zero => simp [rcase] at hk; subst hk; cases hs
    | succ k =>
      cases k with
      | succ k => simp at hk
      | zero => simp [rcase] at hk; subst hk; cases hs

theorem Does.stand {p : Proc} {m : Bool} {own : Own} {g : Goroutine} (h : Does P B fin p m own g w) : ∃ n, Stand P B fin p false m 0 own n g w := by
  by_cases hp : p = .quit
  · subst hp
    obtain ⟨n, hn⟩ := h.1 rfl
    exact ⟨n, fun _ => ⟨rfl, hn⟩, fun e => absurd rfl e⟩
  · have hq : p.isQuit = false := by
      cases hq : p.isQuit with
      | false => rfl
      | true => exact absurd (Proc.isQuit_iff.1 hq) hp
    obtain ⟨n, hn⟩ := h.2 hq
    exact ⟨n, fun e => absurd e hp, fun _ => ⟨rfl, fun e => (by cases e), fun _ => hn⟩⟩

theorem Chan.unique {c : Nat} {x y : Bool} (h : Chan w c x) (k : Chan w c y) : x = y := by
  obtain ⟨s, hs⟩ := h
  obtain ⟨s', hs'⟩ := k
  rw [hs] at hs'
  simp only [Option.some.injEq, Obj.chan.injEq] at hs'
  exact hs'.2.2.1

theorem Inv.ours (h : Inv P B T0 fin A gs w t ow ns) (hw : Wf gs.size A) {i : Nat} {cs : Array CommCase} {sh : CommShape} (hp : (A.pr i).offers = some (cs, sh)) : ∀ cc ∈ cs, Ours w cc := by
  intro cc hcc
  cases hpr : A.pr i <;> simp [hpr, Proc.offers] at hp
  case send c v z k =>
    obtain ⟨rfl, rfl⟩ := hp
    simp only [List.mem_toArray, List.mem_cons, List.not_mem_nil, or_false] at hcc
    subst hcc
    exact ⟨c, false, rfl, (h.chans c _ (hw.send i _ _ _ _ hpr)).2, fun _ => rfl⟩
  case recv c z k k0 =>
    obtain ⟨rfl, rfl⟩ := hp
    simp only [List.mem_toArray, List.mem_cons, List.not_mem_nil, or_false] at hcc
    subst hcc
    obtain ⟨x, hx⟩ := Option.isSome_iff_exists.1 (hw.recv i _ _ _ _ hpr)
    exact ⟨c, x.isSome, rfl, (h.chans c _ hx).2, fun e => (by cases e)⟩
  case sel c d zc zd kc kd =>
    obtain ⟨rfl, rfl⟩ := hp
    obtain ⟨h1, h2⟩ := hw.sel i _ _ _ _ _ _ hpr
    simp only [List.mem_toArray, List.mem_cons, List.not_mem_nil, or_false] at hcc
    rcases hcc with rfl | rfl
    · exact ⟨c, false, rfl, (h.chans c _ h1).2, fun _ => rfl⟩
    · exact ⟨d, false, rfl, (h.chans d _ h2).2, fun _ => rfl⟩

/-- Who waits. -/
theorem Inv.waits (h : Inv P B T0 fin A gs w t ow ns) {i j hk c : Nat} {b : Bool} (hW : Waits (gs.setIfInBounds i ph) c b j hk) :
    j ≠ i ∧ j < gs.size ∧ A.pk j = true ∧ A.pr j ≠ .quit ∧ ∃ gj cs sh cc, gs[j]? = some gj ∧ gj.offers = some (cs, sh) ∧ (A.pr j).offers = some (cs, sh) ∧ Waiting P B fin (A.pr j) (j == 0) (ow j) gj w ∧ cs[hk]? = some cc ∧ cc.chan = .chan (some c) ∧ cc.send.isSome = b := by
  obtain ⟨gj, cs, sh, cc, hj, hb, ho, hcc, hc, hs⟩ := hW
  rcases set_cases hj with ⟨_, rfl⟩ | ⟨hne, hj⟩
  · simp [ph] at hb
  · rcases (h.stand j gj hj).cases with (h1 | h1) | ⟨h1, h2, h3⟩
    · rw [h1] at hb; cases hb
    · rw [h1] at hb; cases hb
    · exact ⟨hne, (Array.getElem?_eq_some_iff.1 hj).1, h2, h1, gj, cs, sh, cc, hj, ho, by rw [← h3.offers, ho], h3, hcc, hc, hs⟩

/-- Who could meet waits. -/
theorem waits_of {gs : Array Goroutine} {i j : Nat} {g : Goroutine} {p : Proc} (hne : j ≠ i) (hj : gs[j]? = some g) (hb : g.status = .blocked) (ho : g.offers = p.offers) :
    (∀ c v z k, p = .send c v z k → Waits (gs.setIfInBounds i ph) c true j 0) ∧ (∀ c v p', Gets p c v p' → ∃ hk, Waits (gs.setIfInBounds i ph) c false j hk) := by
  have hj' : (gs.setIfInBounds i ph)[j]? = some g := by rw [Array.getElem?_setIfInBounds_ne (Ne.symm hne)]; exact hj
  refine ⟨fun c v z k e => ?_, fun c v p' hg => ?_⟩
  · subst e
    exact ⟨g, _, _, _, hj', hb, ho, rfl, rfl, rfl⟩
  · cases hg with
    | recv c z k k0 v => exact ⟨0, g, _, _, _, hj', hb, ho, rfl, rfl, rfl⟩
    | fst c d zc zd kc kd v => exact ⟨0, g, _, _, _, hj', hb, ho, rfl, rfl, rfl⟩
    | snd c d zc zd kc kd v => exact ⟨1, g, _, _, _, hj', hb, ho, rfl, rfl, rfl⟩
end
end Go.Gat
