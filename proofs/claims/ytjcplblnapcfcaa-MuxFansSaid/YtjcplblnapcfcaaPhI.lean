/-
  THE PHASE's RUN: a crowd that carries out protocol terms, the terms kept by an invariant 'J' with a measure: goroutine 0 comes to the phase's end, all others leavers, the trace 'Past0'.
-/
import Derived.Test.YtjcplblnapcfcaaPhH
set_option linter.unusedSimpArgs false
namespace Go.Gat
open Go.Conc
open Go.ConcN (sumTo upd sumTo_upd upd_ne upd_same)

/-- What is asked of an invariant of the terms ('x': its own record). -/
structure Holds {δ : Type} (J : δ → Nat → Abs → Prop) (μ : δ → Nat) (Z : List Value → Prop) : Prop where
  wf : ∀ x n A, J x n A → Wf n A
  main : ∀ x n A, J x n A → 0 < n ∧ A.pr 0 ≠ .quit
  goes : ∀ x n A, J x n A → ∃ i, i < n ∧ A.pk i = false ∧ A.pr i ≠ .quit
  step : ∀ x n A A' n', J x n A → ATo n A A' n' → ∃ x', J x' n' A' ∧ μ x' < μ x
  ends : ∀ x n A acc, J x n A → A.pr 0 = .stop acc → Z acc ∧ ∀ y, y ≠ 0 → A.pr y = .quit ∧ A.kn 0 y

section
variable {P : Program} {B T0 : Nat} {fin : List Value → Own → Goroutine → World → Prop}

theorem Inv.past {A : Abs} {gs : Array Goroutine} {w : World} {t : Trace} {ow : Nat → Own} {ns : Nat → Nat} (h : Inv P B T0 fin A gs w t ow ns) (h0 : 0 < gs.size) (hm : A.pr 0 ≠ .quit) (he : ∀ y, y ≠ 0 → A.pr y = .quit ∧ A.kn 0 y) :
    Leavers P t gs ns ∧ Past0 t := by
  refine ⟨⟨fun (i : Nat) (g : Goroutine) hi hg => ?_, fun j hj => (h.out j hj).1⟩, ?_⟩
  · exact ((h.stand i g hg).1 (he i (by omega)).1).2
  · obtain ⟨B', hB'⟩ := low_all t
    have known : ∀ i a, touchAt t i = some a → a.loc.isMemory = true → Knows t 0 i := fun i a ha hmm => by
      rcases Nat.lt_or_ge i T0 with hi | hi
      · exact h.tr.base i a hi ha hmm 0 hm
      · obtain ⟨op, h1, h2⟩ := touch_of ha
        by_cases e : op.g = 0
        · have := knows_own h1
          rw [e] at this
          exact this
        · exact h.tr.knw 0 op.g (he op.g e).2 i op hi h1 rfl (by rw [h2]; simp)
    refine ⟨B', h.tr.clean, fun i a ha hmm => .inl (known i a ha hmm), fun i g hg hne hc => ?_, ?_, hB'⟩
    · obtain ⟨x, hx, hmm, _⟩ := hc
      obtain ⟨q, z, h1, h2, h3⟩ := known i x hx hmm
      refine ⟨q, by rw [g?_of h1, h2], ?_⟩
      rcases h3 with rfl | h3
      · rw [g?_of h1, h2] at hg
        exact absurd (Option.some.inj hg).symm hne
      · exact h3
    · exact ((h.stand 0 _ (Array.getElem?_eq_getElem h0)).2 hm).1

theorem phase_run {δ : Type} {J : δ → Nat → Abs → Prop} {μ : δ → Nat} {Z : List Value → Prop} (hJ : Holds J μ Z) : ∀ (m : Nat) (x : δ) (A : Abs) (gs : Array Goroutine) (w : World) (sl : Option (Nat × Nat)) (t : Trace) (ow : Nat → Own) (ns : Nat → Nat),
    μ x = m → J x gs.size A → Inv P B T0 fin A gs w t ow ns →
    ∃ (N : Nat) (gs' : Array Goroutine) (a' : Goroutine) (w' : World) (sl' : Option (Nat × Nat)) (t' : Trace) (q' : Nat → Nat),
      runNT P N (crowd gs w sl) t = (.next (crowd gs' w' sl'), t') ∧ gs'[0]? = some a' ∧ (∃ own acc, a'.status = .running ∧ Z acc ∧ fin acc own a' w') ∧ Leavers P t' gs' q' ∧ Past0 t' := by
  intro m
  induction m using Nat.strongRecOn with
  | _ m ihm =>
  suffices H : ∀ (s : Nat) (x : δ) (A : Abs) (gs : Array Goroutine) (w : World) (sl : Option (Nat × Nat)) (t : Trace) (ow : Nat → Own) (ns : Nat → Nat), sumTo gs.size ns = s →
      μ x = m → J x gs.size A → Inv P B T0 fin A gs w t ow ns →
      ∃ (N : Nat) (gs' : Array Goroutine) (a' : Goroutine) (w' : World) (sl' : Option (Nat × Nat)) (t' : Trace) (q' : Nat → Nat),
        runNT P N (crowd gs w sl) t = (.next (crowd gs' w' sl'), t') ∧ gs'[0]? = some a' ∧ (∃ own acc, a'.status = .running ∧ Z acc ∧ fin acc own a' w') ∧ Leavers P t' gs' q' ∧ Past0 t' from
    fun x A gs w sl t ow ns => H _ x A gs w sl t ow ns rfl
  intro s
  induction s using Nat.strongRecOn with
  | _ s ihs =>
  intro x A gs w sl t ow ns hs hμ hj h
  obtain ⟨hn0, hm0⟩ := hJ.main _ _ _ hj
  have hw := hJ.wf _ _ _ hj
  have h0 : gs[0]? = some gs[0] := Array.getElem?_eq_getElem hn0
  -- is it the end?
  by_cases hend : ∃ acc own, A.pr 0 = .stop acc ∧ gs[0].status = .running ∧ fin acc own gs[0] w
  · obtain ⟨acc, own, h1, h2, h3⟩ := hend
    obtain ⟨hz, hy⟩ := hJ.ends _ _ _ _ hj h1
    obtain ⟨k1, k2⟩ := h.past hn0 hm0 hy
    exact ⟨0, gs, gs[0], w, sl, t, ns, rfl, h0, ⟨own, acc, h2, hz, h3⟩, k1, k2⟩
  -- who moves
  have hstat : ∀ (i : Nat) (g : Goroutine), gs[i]? = some g → g.status = .running ∨ g.status = .finished ∨ g.status = .blocked := fun i g hi => by
    rcases (h.stand i g hi).cases with (x | x) | ⟨_, _, x⟩
    · exact .inl x
    · exact .inr (.inl x)
    · exact .inr (.inr x.blocked)
  obtain ⟨i0, hi0, hk0, hq0⟩ := hJ.goes _ _ _ hj
  have hg0 := Array.getElem?_eq_getElem hi0
  obtain ⟨i, g, d, sl', hi, hg, hst⟩ := crowd_pick (P := P) (w := w) (sl := sl) (fun y hy => by
    obtain ⟨k, hk, rfl⟩ := Array.mem_iff_getElem.1 hy
    intro u hu
    rcases hstat k _ (Array.getElem?_eq_getElem hk) with z | z | z <;> rw [z] at hu <;> cases hu) ⟨i0, _, hg0, (((h.stand i0 _ hg0).2 hq0).2.2 hk0).running hq0⟩
  have hA := h.at d
  have more : ∀ {A' : Abs} {gs' : Array Goroutine} {w' : World} {ops : Array MemOp} {ow' : Nat → Own} {ns' : Nat → Nat}, runT P (crowd gs (w.at d) sl') i = (.next (crowd gs' w' sl'), ops) → ATo gs.size A A' gs'.size → Inv P B T0 fin A' gs' w' (t ++ ops) ow' ns' →
      ∃ (N : Nat) (gs' : Array Goroutine) (a' : Goroutine) (w' : World) (sl' : Option (Nat × Nat)) (t' : Trace) (q' : Nat → Nat),
        runNT P N (crowd gs w sl) t = (.next (crowd gs' w' sl'), t') ∧ gs'[0]? = some a' ∧ (∃ own acc, a'.status = .running ∧ Z acc ∧ fin acc own a' w') ∧ Leavers P t' gs' q' ∧ Past0 t' := fun {A' gs' w' ops ow' ns'} hr ha hi' => by
    obtain ⟨x', hj', hlt⟩ := hJ.step _ _ _ _ _ hj ha
    obtain ⟨N, gs2, a2, w2, sl2, t2, q2, e1, e2⟩ := ihm _ (hμ ▸ hlt) x' A' gs' w' sl' (t ++ ops) ow' ns' rfl hj' hi'
    have hst' := hst.trans hr
    exact ⟨N + 1, gs2, a2, w2, sl2, t2, q2, by simp only [runNT, hst']; exact e1, e2⟩
  have same : ∀ {gs' : Array Goroutine} {w' : World} {ops : Array MemOp} {ow' : Nat → Own} {ns' : Nat → Nat}, runT P (crowd gs (w.at d) sl') i = (.next (crowd gs' w' sl'), ops) → gs'.size = gs.size → Inv P B T0 fin A gs' w' (t ++ ops) ow' ns' → sumTo gs.size ns' < sumTo gs.size ns →
      ∃ (N : Nat) (gs' : Array Goroutine) (a' : Goroutine) (w' : World) (sl' : Option (Nat × Nat)) (t' : Trace) (q' : Nat → Nat),
        runNT P N (crowd gs w sl) t = (.next (crowd gs' w' sl'), t') ∧ gs'[0]? = some a' ∧ (∃ own acc, a'.status = .running ∧ Z acc ∧ fin acc own a' w') ∧ Leavers P t' gs' q' ∧ Past0 t' := fun {gs' w' ops ow' ns'} hr hsz hi' hlt => by
    obtain ⟨N, gs2, a2, w2, sl2, t2, q2, e1, e2⟩ := ihs _ (hs ▸ hlt) x A gs' w' sl' (t ++ ops) ow' ns' (by rw [hsz]) hμ (by rw [hsz]; exact hj) hi'
    have hst' := hst.trans hr
    exact ⟨N + 1, gs2, a2, w2, sl2, t2, q2, by simp only [runNT, hst']; exact e1, e2⟩
  by_cases hq : A.pr i = .quit
  · obtain ⟨gs', ops, ns', e1, e2, e3, e4⟩ := hA.slip hi hq (fun e => hm0 (e ▸ hq)) hg sl'
    exact same e1 e2 e3 e4
  have hso := (hA.stand i g hi).2 hq
  have hpk : A.pk i = false := by
    cases e : A.pk i with
    | false => rfl
    | true => have := (hso.2.1 e).blocked; rw [hg] at this; cases this
  have hway := hso.2.2 hpk
  have hcase : (∀ w₁, Rely B (ow i) (w.at d) w₁ → AtP P B fin (A.pr i) (i == 0) (ow i) g w₁) ∨
      ∃ k g' w' es own', k < ns i ∧ stepG P (i == 0) g (w.at d) = .go g' w' es ∧ Guar B (ow i) own' (w.at d) w' es ∧ Way P B (i == 0) (AtP P B fin (A.pr i) (i == 0)) k own' g' w' := by
    cases hn : ns i with
    | zero => rw [hn] at hway; exact .inl hway
    | succ k =>
      rw [hn] at hway
      rcases hway with hl | ⟨_, hr⟩
      · exact .inl hl
      · obtain ⟨g', w', es, own', a1, _, a3, a4⟩ := hr _ (.refl _ _ _)
        exact .inr ⟨k, g', w', es, own', by omega, a1, a3, a4⟩
  rcases hcase with hT | ⟨k, g', w', es, own', hk, hst1, hG, hW⟩
  · have hat := hT _ (.refl _ _ _)
    cases hpr : A.pr i with
    | quit => exact absurd hpr hq
    | bad => exact absurd hpr (hw.bad i)
    | stop acc =>
      obtain rfl := hw.stop i acc hpr
      rw [hpr] at hat
      unfold AtP at hat
      have hge : g = gs[0] := by rw [h0] at hi; exact (Option.some.inj hi).symm
      subst hge
      exfalso
      -- the same holds in the world ahead of the draw
      have hT0 := hT w ⟨Nat.le_refl _, fun _ _ _ => rfl, rfl, rfl⟩
      rw [hpr] at hT0
      unfold AtP at hT0
      exact hend ⟨acc, _, hpr, hT0.1, hT0.2⟩
    | send c v z k' =>
      obtain ⟨gs', w', ops, ns', A', e1, e2, e3, e4⟩ := hA.comm hw hi hpk (by rw [hpr]; rfl) hT sl'
      exact more e1 (e2 ▸ e3) e4
    | recv c z k' k0 =>
      obtain ⟨gs', w', ops, ns', A', e1, e2, e3, e4⟩ := hA.comm hw hi hpk (by rw [hpr]; rfl) hT sl'
      exact more e1 (e2 ▸ e3) e4
    | sel c d zc zd kc kd =>
      obtain ⟨gs', w', ops, ns', A', e1, e2, e3, e4⟩ := hA.comm hw hi hpk (by rw [hpr]; rfl) hT sl'
      exact more e1 (e2 ▸ e3) e4
    | close c =>
      rw [hpr] at hat
      obtain ⟨gs', w', ops, ns', A', e1, e2, e3, e4⟩ := hA.close hw hi hpk hpr hat sl'
      exact more e1 (e2 ▸ e3) e4
    | chan k' =>
      rw [hpr] at hat
      obtain ⟨gs', w', ops, ns', A', e1, e2, e3, e4⟩ := hA.chan hi hpk hpr hat sl'
      exact more e1 (e2 ▸ e3) e4
    | go ch k' =>
      obtain rfl := hw.go i ch k' hpr
      rw [hpr] at hat
      obtain ⟨gs', w', ops, ns', A', e1, e2, e3, e4⟩ := hA.go hw hi hpk hpr hat sl'
      exact more e1 (e2 ▸ e3) e4
  · obtain ⟨gs', ops, ow', ns', e1, e2, e3, e4⟩ := hA.ownStep hi hq hpk hst1 hG hW hk sl'
    exact same e1 e2 e3 e4
end
end Go.Gat
