/-
  GATHER's TERMS: somebody can always go on; the end.
-/
import Derived.Test.YtjcplblnapcfcaaPhK
set_option linter.unusedSimpArgs false
namespace Go.Gat
open Go.Conc
open Go.ConcN (sumTo upd sumTo_upd upd_ne upd_same sumTo_congr le_sumTo)

section
variable {zi zd : Value} {rows : List (List Value)}

theorem sumTo_pos {f : Nat → Nat} : ∀ {m : Nat}, 0 < sumTo m f → ∃ k, k < m ∧ 0 < f k
  | 0, h => by simp [sumTo] at h
  | m + 1, h => by
    rcases Nat.eq_zero_or_pos (f m) with h0 | h0
    · rw [sumTo, h0] at h
      obtain ⟨k, hk, hf⟩ := sumTo_pos (m := m) (by omega)
      exact ⟨k, by omega, hf⟩
    · exact ⟨m, by omega, h0⟩
theorem sumTo_zero {f : Nat → Nat} {m : Nat} (h : ∀ k, k < m → f k = 0) : sumTo m f = 0 := by
  induction m with
  | zero => rfl
  | succ m ih => rw [sumTo, ih fun k hk => h k (by omega), h m (by omega)]

theorem JG.npos {x : GS × Nat} {n : Nat} {A : Abs} (h : JG zi zd rows x n A) : 0 < n := by
  have := h.n0
  obtain ⟨W, hW⟩ : ∃ W, St zi zd rows x.1 n A W := ⟨_, h.st⟩
  cases hW <;> omega

theorem JG.goes {x : GS × Nat} {n : Nat} {A : Abs} (h : JG zi zd rows x n A) : ∃ i, i < n ∧ A.pk i = false ∧ A.pr i ≠ .quit := by
  have unp : ∀ {i}, A.pk i ≠ true → A.pk i = false := fun h => by simpa using h
  by_cases h0 : A.pk 0 = true
  · have hoff := (h.opn 0 h0).1
    obtain ⟨W, hW⟩ : ∃ W, St zi zd rows x.1 n A W := ⟨_, h.st⟩
    cases hW with
    | m0 e => rw [e] at hoff; cases hoff
    | m1 e => rw [e] at hoff; cases hoff
    | s hlt e =>
      obtain ⟨r, rs, hr⟩ : ∃ r rs, rows.drop x.1.m = r :: rs := by
        cases hd : rows.drop x.1.m with
        | nil => have := congrArg List.length hd; simp at this; omega
        | cons r rs => exact ⟨r, rs, rfl⟩
      rw [hr, spnP] at e
      rw [e] at hoff; cases hoff
    | s1 _ _ _ _ e => rw [e] at hoff; cases hoff
    | s2 _ _ _ _ _ e => rw [e] at hoff; cases hoff
    | l f left hm e hn a b c hl hf =>
      cases left with
      | zero => rw [e] at hoff; cases f <;> cases hoff
      | succ left =>
        cases f with
        | zero => omega
        | succ f =>
          obtain ⟨k, hk, hop⟩ := sumTo_pos (m := x.1.m) (f := fun k => (x.1.ph k).open) (by omega)
          have hp := h.pas k hk
          have hbn : x.1.n0 + 2 * k + 1 < n := by omega
          cases e2 : x.1.ph k with
          | Q => rw [e2] at hop; cases hop
          | D =>
            rw [e2] at hp
            refine ⟨_, hbn, unp fun hb => ?_, by rw [hp.1]; simp⟩
            exact h.met _ _ hb h0 ⟨_, _, _, _, _, hp.1, by rw [e]; exact .snd ..⟩
          | H v =>
            rw [e2] at hp
            have hp' : A.pr (x.1.n0 + 2 * k + 1) = _ := hp
            refine ⟨_, hbn, unp fun hb => ?_, by rw [hp']; simp⟩
            exact h.met _ _ hb h0 ⟨_, _, _, _, _, hp', by rw [e]; exact .fst ..⟩
          | R =>
            rw [e2] at hp
            have hp' : A.pr (x.1.n0 + 2 * k + 1) = pasP zi (x.1.c k) x.1.all x.1.dn (x.1.vs k).length := hp
            obtain ⟨kk, k0, hrec⟩ : ∃ kk k0, A.pr (x.1.n0 + 2 * k + 1) = .recv (x.1.c k) zi kk k0 := by
              rw [hp']
              cases (x.1.vs k).length <;> exact ⟨_, _, rfl⟩
            by_cases hb : A.pk (x.1.n0 + 2 * k + 1) = true
            · have hopen := (h.opn _ hb).2 (x.1.c k) (by rw [hrec]; rfl)
              have hcl : x.1.cl k = false := by
                cases hc : x.1.cl k with
                | false => rfl
                | true => rw [((h.snd k hk).gone hc).2.2] at hopen; cases hopen
              have hs := ((h.snd k hk).live hcl).1
              refine ⟨x.1.n0 + 2 * k, by omega, unp fun ha => ?_, by rw [hs]; exact sndP_ne_quit⟩
              cases hv : x.1.vs k with
              | nil =>
                rw [hv] at hs
                have := (h.opn _ ha).1
                rw [hs] at this; cases this
              | cons v vs =>
                rw [hv] at hs
                exact h.met _ _ ha hb ⟨_, _, _, _, _, hs, by rw [hrec]; exact .recv ..⟩
            · exact ⟨_, hbn, unp hb, by rw [hrec]; simp⟩
  · exact ⟨0, h.npos, unp h0, h.main⟩

theorem JG.ends {x : GS × Nat} {n : Nat} {A : Abs} {acc : List Value} (h : JG zi zd rows x n A) (he : A.pr 0 = .stop acc) :
    (∀ ω, wt ω acc = wt ω rows.flatten) ∧ ∀ y, y ≠ 0 → A.pr y = .quit ∧ A.kn 0 y := by
  obtain ⟨W, hW⟩ : ∃ W, St zi zd rows x.1 n A W := ⟨_, h.st⟩
  cases hW with
  | m0 e => rw [e] at he; cases he
  | m1 e => rw [e] at he; cases he
  | s hlt e =>
    obtain ⟨r, rs, hr⟩ : ∃ r rs, rows.drop x.1.m = r :: rs := by
      cases hd : rows.drop x.1.m with
      | nil => have := congrArg List.length hd; simp at this; omega
      | cons r rs => exact ⟨r, rs, rfl⟩
    rw [hr, spnP] at e
    rw [e] at he; cases he
  | s1 _ _ _ _ e => rw [e] at he; cases he
  | s2 _ _ _ _ _ e => rw [e] at he; cases he
  | l f left hm e hn a b c hl hf =>
    cases left with
    | succ left =>
      rw [e] at he
      cases f <;> cases he
    | zero =>
      have hacc : x.1.acc = acc := by
        rw [e] at he
        cases f <;> simpa [selP] using he
      have hQ : ∀ k, k < x.1.m → x.1.ph k = .Q := fun k hk => by
        have h1 : (x.1.ph k).open ≤ 0 := by rw [hl]; exact le_sumTo (f := fun k => (x.1.ph k).open) hk
        cases e2 : x.1.ph k with
        | Q => rfl
        | _ => rw [e2] at h1; simp [Ph.open] at h1
      have hpas : ∀ k, k < x.1.m → A.pr (x.1.n0 + 2 * k + 1) = .quit ∧ x.1.cl k = true ∧ A.kn 0 (x.1.n0 + 2 * k) ∧ A.kn 0 (x.1.n0 + 2 * k + 1) := fun k hk => by
        have hp := h.pas k hk
        rw [hQ k hk] at hp
        exact hp
      refine ⟨fun ω => ?_, fun y hy => ?_⟩
      · have := h.has ω
        rw [hacc, sumTo_zero (fun k hk => ?_), hm, List.drop_length] at this
        · simpa [wt_nil] using this
        · have h2 := ((h.snd k hk).gone (hpas k hk).2.1).2.1
          simp only [GS.pend, hQ k hk, h2]
          rfl
      · by_cases h1 : y < x.1.n0 ∨ n ≤ y
        · obtain ⟨a1, a2, _⟩ := h.out y hy h1
          exact ⟨a1, a2⟩
        · have hk : (y - x.1.n0) / 2 < x.1.m := by omega
          obtain ⟨p1, p2, p3, p4⟩ := hpas _ hk
          rcases Nat.mod_two_eq_zero_or_one (y - x.1.n0) with e3 | e3
          · have e4 : y = x.1.n0 + 2 * ((y - x.1.n0) / 2) := by omega
            rw [e4]
            exact ⟨((h.snd _ hk).gone p2).1, p3⟩
          · have e4 : y = x.1.n0 + 2 * ((y - x.1.n0) / 2) + 1 := by omega
            rw [e4]
            exact ⟨p1, p4⟩
end
end Go.Gat
