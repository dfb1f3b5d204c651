/-
  GATHER's TERMS: the invariant is kept: parking; a channel found closed; a close.
-/
import Derived.Test.YtjcplblnapcfcaaPhM
set_option linter.unusedSimpArgs false
namespace Go.Gat
open Go.Conc
open Go.ConcN (sumTo upd sumTo_upd upd_ne upd_same sumTo_congr le_sumTo)

section
variable {zi zd : Value} {rows : List (List Value)}

theorem St.u {x : GS} {n W : Nat} {A A' : Abs} (h : St zi zd rows x n A W) (u' : Nat) (hp : A'.pr = A.pr) (hc : A'.ch = A.ch) : St zi zd rows { x with u := u' } n A' W := by
  cases h with
  | m0 e1 e2 e3 e4 => exact .m0 (by rw [hp]; exact e1) e2 e3 (by rw [hc]; exact e4)
  | m1 e1 e2 e3 e4 => exact .m1 (by rw [hp]; exact e1) e2 e3 (by rw [hc]; exact e4)
  | s e1 e2 e3 e4 e5 e6 e7 e8 => exact .s e1 (by rw [hp]; exact e2) e3 (by rw [hc]; exact e4) (by rw [hc]; exact e5) e6 e7 e8
  | s1 c r rs e0 e2 e3 e4 e5 e6 e7 e8 e9 f1 f2 f3 => exact .s1 c r rs e0 (by rw [hp]; exact e2) e3 (by rw [hc]; exact e4) (by rw [hc]; exact e5) e6 e7 e8 (by rw [hc]; exact e9) f1 f2 f3
  | s2 c r rs cl e0 e2 e3 e4 e5 e6 e7 e8 e9 f1 f2 f3 => exact .s2 c r rs cl e0 (by rw [hp]; exact e2) e3 (by rw [hc]; exact e4) (by rw [hc]; exact e5) e6 e7 e8 (e9.keep (by rw [hp]) (by rw [hc])) f1 f2 f3
  | l f left e1 e2 e3 e4 e5 e6 e7 e8 => exact .l f left e1 (by rw [hp]; exact e2) e3 (by rw [hc]; exact e4) (by rw [hc]; exact e5) e6 e7 e8

theorem not_meets_self {A : Abs} {i : Nat} : ¬ Meets A i i := by
  rintro ⟨c, v, z, k, p', e1, e2⟩
  rw [e1] at e2; cases e2

theorem JG.park {x : GS} {W n i : Nat} {A : Abs} (h : JG zi zd rows (x, W) n A) (hi : i < n) (hpk : A.pk i = false) (hoff : (A.pr i).offers.isSome = true) (hno : ∀ j, A.pk j = true → ¬ Meets A i j ∧ ¬ Meets A j i)
    (hopen : ∀ c, (A.pr i).at c → A.ch c = some none) : ∃ x', JG zi zd rows x' n { A with pk := upd A.pk i true } ∧ GS.mu x' < GS.mu (x, W) := by
  have hs := sum_park hi hpk
  have hu : x.u = _ := h.u
  refine ⟨({ x with u := sumTo n (fun a => if upd A.pk i true a then 0 else 1) }, W), ?_, ?_⟩
  · refine { n0 := h.n0, main := h.main, le := h.le, st := h.st.u _ rfl rfl, snd := fun k hk => (h.snd k hk).keep rfl rfl, pas := fun k hk => (h.pas k hk).keep rfl (fun _ _ e => e), chd := h.chd, chn := h.chn, out := h.out, met := fun a b ha hb hm => ?_, opn := fun a ha => ?_, u := rfl, has := h.has }
    · have hm' : Meets A a b := hm
      simp only at ha hb
      by_cases ea : a = i
      · subst ea
        by_cases eb : b = a
        · subst eb; exact not_meets_self hm'
        · rw [upd_ne _ _ eb] at hb
          exact (hno b hb).1 hm'
      · rw [upd_ne _ _ ea] at ha
        by_cases eb : b = i
        · subst eb; exact (hno a ha).2 hm'
        · rw [upd_ne _ _ eb] at hb
          exact h.met a b ha hb hm'
    · simp only at ha ⊢
      by_cases ea : a = i
      · subst ea; exact ⟨hoff, hopen⟩
      · rw [upd_ne _ _ ea] at ha
        exact h.opn a ha
  · unfold GS.mu
    show 2 * (W + sumTo x.m x.weight) + sumTo n (fun a => if upd A.pk i true a then 0 else 1) < 2 * (W + sumTo x.m x.weight) + x.u
    omega

theorem JG.shut {x : GS} {W n i c y : Nat} {A : Abs} {z : Value} {k : Value → Proc} {k0 : Proc} {kn' : Nat → Nat → Prop} (h : JG zi zd rows (x, W) n A) (hi : i < n) (hpk : A.pk i = false) (hp : A.pr i = .recv c z k k0) (hc : A.ch c = some (some y))
    (hkn : ∀ a b, kn' a b ↔ A.kn a b ∨ (a = i ∧ b = y)) : ∃ x', JG zi zd rows x' n { A with pr := upd A.pr i k0, kn := kn' } ∧ GS.mu x' < GS.mu (x, W) := by
  have hn0 : 0 < x.n0 := h.n0
  have hu : x.u = _ := h.u
  rcases h.term (i := i) (by rw [hp]; simp) with rfl | ⟨c', l, e2, _⟩ | ⟨j, hj, ei, ep, e2⟩ | ⟨j, v', hj, _, _, e2⟩ | ⟨j, hj, _, _, e2, _⟩
  · rcases h.main0 with ⟨_, e2⟩ | ⟨_, _, e2⟩ | ⟨_, e2⟩ | ⟨_, _, _, e2, _⟩ <;> rw [hp] at e2 <;> cases e2
  · rw [hp] at e2; cases l <;> cases e2
  · dsimp only at hj ei ep e2
    subst ei
    have hck : c = x.c j ∧ k0 = .send x.dn one zs .quit := by
      rw [hp] at e2
      generalize (x.vs j).length = len at e2
      cases len <;> (simp only [pasP, Proc.recv.injEq] at e2; exact ⟨e2.1, e2.2.2.2⟩)
    obtain ⟨rfl, rfl⟩ := hck
    have hcl : x.cl j = true := by
      cases e : x.cl j with
      | true => rfl
      | false => rw [((h.snd j hj).live e).2] at hc; cases hc
    obtain ⟨g1, g2, g3⟩ := (h.snd j hj).gone hcl
    have hy : y = x.n0 + 2 * j := by
      rw [g3] at hc
      simp only [Option.some.injEq] at hc
      exact hc.symm
    subst hy
    have g2' : x.vs j = [] := g2
    have hpr0 : upd A.pr (x.n0 + 2 * j + 1) (.send x.dn one zs .quit) 0 = A.pr 0 := upd_ne _ _ (by omega)
    refine ⟨(x.turn j (x.vs j) .D (x.cl j) x.acc x.u, W), h.turn hj ?_ ?_ ?_ ?_ ?_ (fun _ _ => rfl) (fun a b e => (hkn a b).2 (.inl e)) (fun _ e => .inr e) (fun a b ha hb hm => ?_) (fun a ha => ?_) hu ?_, GS.mu_turn hj ?_ (by omega)⟩
    · simp only; rw [hpr0]; exact h.main
    · refine St.keep h.st hj ?_ ?_ hpr0 ?_ (fun _ _ => rfl) (h.chn j hj)
      · rw [ep]; rfl
      · rw [GS.pend_eq, ep]; rfl
      · simp only
        rw [upd_ne _ _ (by omega)]
    · refine SndOK.keep (h.snd j hj) ?_ rfl
      simp only
      rw [upd_ne _ _ (by omega)]
    · exact ⟨upd_same _ _ _, hcl, (hkn _ _).2 (.inr ⟨rfl, rfl⟩)⟩
    · intro a _ _ h3
      simp only
      rw [upd_ne _ _ h3]
    · simp only at ha hb
      have e1 : a ≠ x.n0 + 2 * j + 1 := fun e => by rw [e, hpk] at ha; cases ha
      have e2 : b ≠ x.n0 + 2 * j + 1 := fun e => by rw [e, hpk] at hb; cases hb
      obtain ⟨c1, v1, z1, k1, p1, f1, f2⟩ := hm
      simp only at f1 f2
      rw [upd_ne _ _ e1] at f1
      rw [upd_ne _ _ e2] at f2
      exact h.met a b ha hb ⟨c1, v1, z1, k1, p1, f1, f2⟩
    · simp only at ha ⊢
      have e1 : a ≠ x.n0 + 2 * j + 1 := fun e => by rw [e, hpk] at ha; cases ha
      rw [upd_ne _ _ e1]
      exact h.opn a ha
    · intro ω
      rw [GS.pend_eq, ep]; rfl
    · rw [GS.weight, ep]
      simp only [wOf]
      omega
  · rw [hp] at e2; cases e2
  · rw [hp] at e2; cases e2

theorem JG.close {x : GS} {W n i c : Nat} {A : Abs} {pk' : Nat → Bool} (h : JG zi zd rows (x, W) n A) (hi : i < n) (hpk : A.pk i = false) (hp : A.pr i = .close c) (hpk' : ∀ j, pk' j = true ↔ A.pk j = true ∧ ¬ (A.pr j).at c) :
    ∃ x', JG zi zd rows x' n { A with pr := upd A.pr i .quit, ch := upd A.ch c (some (some i)), pk := pk' } ∧ GS.mu x' < GS.mu (x, W) := by
  have hn0 : 0 < x.n0 := h.n0
  have hu : x.u = _ := h.u
  have hmet : ∀ a b, pk' a = true → pk' b = true → ¬ Meets { A with pr := upd A.pr i .quit, ch := upd A.ch c (some (some i)), pk := pk' } a b := fun a b ha hb hm => by
    have ha := ((hpk' a).1 ha).1
    have hb := ((hpk' b).1 hb).1
    have e1 : a ≠ i := fun e => by rw [e, hpk] at ha; cases ha
    have e2 : b ≠ i := fun e => by rw [e, hpk] at hb; cases hb
    obtain ⟨c1, v1, z1, k1, p1, f1, f2⟩ := hm
    simp only at f1 f2
    rw [upd_ne _ _ e1] at f1
    rw [upd_ne _ _ e2] at f2
    exact h.met a b ha hb ⟨c1, v1, z1, k1, p1, f1, f2⟩
  have hopn : ∀ a, pk' a = true → (upd A.pr i .quit a).offers.isSome = true ∧ ∀ c', (upd A.pr i .quit a).at c' → upd A.ch c (some (some i)) c' = some none := fun a ha => by
    obtain ⟨ha1, ha2⟩ := (hpk' a).1 ha
    have e1 : a ≠ i := fun e => by rw [e, hpk] at ha1; cases ha1
    rw [upd_ne _ _ e1]
    refine ⟨(h.opn a ha1).1, fun c' hc' => ?_⟩
    have hcc : c' ≠ c := fun e => ha2 (by rw [← e]; exact hc')
    rw [upd_ne _ _ hcc]
    exact (h.opn a ha1).2 c' hc'
  -- who it is
  have hI : c ≠ x.all ∧ c ≠ x.dn ∧ ((∃ j, j < x.m ∧ i = x.n0 + 2 * j ∧ x.cl j = false ∧ c = x.c j ∧ x.vs j = []) ∨ (i = x.n0 + 2 * x.m ∧ n = x.n0 + 2 * x.m + 1 ∧ ∀ k, k < x.m → c ≠ x.c k)) := by
    rcases h.term (i := i) (by rw [hp]; simp) with rfl | ⟨c', l, e2, hc', hwho⟩ | ⟨j, hj, ei, ep, e2⟩ | ⟨j, v', hj, _, _, e2⟩ | ⟨j, hj, _, _, e2, _⟩
    · rcases h.main0 with ⟨_, e2⟩ | ⟨_, _, e2⟩ | ⟨_, e2⟩ | ⟨_, _, _, e2, _⟩ <;> rw [hp] at e2 <;> cases e2
    · rw [hp] at e2
      cases l with
      | cons v' l => cases e2
      | nil =>
        simp only [sndP, Proc.close.injEq] at e2
        subst e2
        rcases hwho with ⟨j, hj, e3, e4, e5, e6⟩ | ⟨e3, e4, e5, e6, e7⟩
        · exact ⟨fun e => (h.chn j hj).1 (e5.symm.trans e), fun e => (h.chn j hj).2 (e5.symm.trans e), .inl ⟨j, hj, e3, e4, e5, e6.symm⟩⟩
        · exact ⟨e5, e6, .inr ⟨e3, e4, e7⟩⟩
    · rw [hp] at e2
      generalize (x.vs j).length = len at e2
      cases len <;> cases e2
    · rw [hp] at e2; cases e2
    · rw [hp] at e2; cases e2
  obtain ⟨hcall, hcdn, hI⟩ := hI
  -- who waits at c
  have hat : ∀ a, A.pk a = true → (A.pr a).at c → a = i + 1 := fun a ha hac => by
    have hqa : A.pr a ≠ .quit := fun e => by rw [e] at hac; exact hac
    have hai : a ≠ i := fun e => by rw [e, hpk] at ha; cases ha
    rcases h.term hqa with rfl | ⟨c', l, e2, hc', hwho⟩ | ⟨j, hj, ei, ep, e2⟩ | ⟨j, v', hj, _, _, e2⟩ | ⟨j, hj, _, _, e2, _⟩
    · exfalso
      rcases h.main0 with ⟨_, e2⟩ | ⟨_, _, e2⟩ | ⟨_, e2⟩ | ⟨_, _, _, e2, _⟩ <;> rw [e2] at hac
      · exact hac
      · exact hac
      · exact hac
      · rcases hac with e | e
        · exact hcall e
        · exact hcdn e
    · exfalso
      rw [e2] at hac
      have hcc : c = c' := by
        cases l with
        | nil => exact hac.elim
        | cons v l => exact hac
      subst hcc
      rcases hwho with ⟨j, hj, e3, _, e5, _⟩ | ⟨e3, _, _, _, e7⟩
      · rcases hI with ⟨j0, hj0, f1, _, f3, _⟩ | ⟨_, _, f3⟩
        · by_cases e : j = j0
          · subst e; exact hai (e3.trans f1.symm)
          · exact h.chd j j0 hj hj0 e (e5.symm.trans f3)
        · exact f3 j hj e5
      · rcases hI with ⟨j0, hj0, _, _, f3, _⟩ | ⟨f1, _, _⟩
        · exact e7 j0 hj0 f3
        · exact hai (e3.trans f1.symm)
    · dsimp only at hj ei
      have hcc : c = x.c j := by
        rw [e2] at hac
        generalize (x.vs j).length = len at hac
        cases len <;> exact hac
      rcases hI with ⟨j0, hj0, f1, _, f3, _⟩ | ⟨_, _, f3⟩
      · by_cases e : j = j0
        · subst e; omega
        · exact absurd (hcc.symm.trans f3) (h.chd j j0 hj hj0 e)
      · exact absurd hcc (f3 j hj)
    · rw [e2] at hac; exact absurd hac hcall
    · rw [e2] at hac; exact absurd hac hcdn
  have hsame : ∀ a, a ≠ i + 1 → pk' a = A.pk a := fun a ha => by
    cases e : A.pk a with
    | true => exact (hpk' a).2 ⟨e, fun hac => ha (hat a e hac)⟩
    | false =>
      cases e2 : pk' a with
      | false => rfl
      | true => rw [((hpk' a).1 e2).1] at e; cases e
  have hsum : sumTo n (fun a => if pk' a then 0 else 1) ≤ x.u + 1 := by
    by_cases hn : i + 1 < n
    · have h1 := sumTo_one (f := fun a => if pk' a then 0 else 1) (g := fun a => if A.pk a then 0 else 1) hn (fun a ha => by rw [hsame a ha])
      have h2 : (if pk' (i + 1) = true then 0 else 1) ≤ 1 := by split <;> omega
      omega
    · rw [sumTo_congr (g := fun a => if A.pk a then 0 else 1) (fun a ha => by rw [hsame a (by omega)])]
      omega
  have hch : ∀ c', c' ≠ c → upd A.ch c (some (some i)) c' = A.ch c' := fun c' e => upd_ne _ _ e
  rcases hI with ⟨j, hj, ei, hcl, hcj, hvs⟩ | ⟨ei, hn, hck⟩
  · subst ei hcj
    have hpr0 : upd A.pr (x.n0 + 2 * j) .quit 0 = A.pr 0 := upd_ne _ _ (by omega)
    refine ⟨(x.turn j (x.vs j) (x.ph j) true x.acc (sumTo n (fun a => if pk' a then 0 else 1)), W), h.turn hj ?_ ?_ ?_ ?_ ?_ hch (fun _ _ e => e) (fun y e => ?_) hmet hopn rfl ?_, GS.mu_turn hj ?_ hsum⟩
    · simp only; rw [hpr0]; exact h.main
    · refine St.keep h.st hj rfl (by rw [GS.pend_eq]) hpr0 ?_ hch (h.chn j hj)
      simp only
      rw [upd_ne _ _ (by omega)]
    · exact ⟨fun e => (by cases e), fun _ => ⟨upd_same _ _ _, hvs, upd_same _ _ _⟩⟩
    · have hpas : PasOK zi A (x.n0 + 2 * j) (x.n0 + 2 * j + 1) (x.c j) x.all x.dn (x.vs j).length (x.cl j) (x.ph j) := h.pas j hj
      have hb : upd A.pr (x.n0 + 2 * j) .quit (x.n0 + 2 * j + 1) = A.pr (x.n0 + 2 * j + 1) := upd_ne _ _ (by omega)
      cases e : x.ph j with
      | R => rw [e] at hpas; exact hb.trans hpas
      | H v => rw [e] at hpas; exact hb.trans hpas
      | D => rw [e] at hpas; exact absurd hpas.2.1 (by rw [hcl]; simp)
      | Q => rw [e] at hpas; exact absurd hpas.2.1 (by rw [hcl]; simp)
    · intro a _ h2 _
      exact upd_ne _ _ h2
    · simp only [upd_same, Option.some.injEq] at e
      exact .inl e.symm
    · intro ω
      rw [GS.pend_eq]
    · rw [GS.weight, hcl]
      simp only [wOf, Bool.false_eq_true, if_false, if_true]
      omega
  · subst ei
    have hst := h.st
    simp only at hst
    have hpr0 : upd A.pr (x.n0 + 2 * x.m) .quit 0 = A.pr 0 := upd_ne _ _ (by omega)
    cases hst with
    | s2 c0 r rs cl e0 e2 e3 e4 e5 e6 e7 e8 e9 f1 f2 f3 =>
      have hcl : cl = false := by
        cases cl with
        | false => rfl
        | true => rw [(e9.gone rfl).1] at hp; cases hp
      subst hcl
      have hr : c0 = c ∧ r = [] := by
        have h1 := (e9.live rfl).1
        rw [hp] at h1
        cases r with
        | nil => simp only [sndP, Proc.close.injEq] at h1; exact ⟨h1.symm, rfl⟩
        | cons v r => cases h1
      obtain ⟨rfl, rfl⟩ := hr
      refine ⟨({ x with u := sumTo n (fun a => if pk' a then 0 else 1) }, 2 * ([] : List Value).length + 0 + 3 + wt (fun _ => 2) rs.flatten + 6 * rs.length), ?_, ?_⟩
      · refine { n0 := h.n0, main := by simp only; rw [hpr0]; exact h.main, le := h.le, st := ?_, snd := fun k hk => ?_, pas := fun k hk => ?_, chd := h.chd, chn := h.chn, out := fun y hy hy2 => ?_, met := hmet, opn := hopn, u := rfl, has := h.has }
        · exact .s2 c0 [] rs true e0 (hpr0.trans e2) e3 ((hch _ f1.symm).trans e4) ((hch _ f2.symm).trans e5) e6 e7 e8 ⟨fun e => (by cases e), fun _ => ⟨upd_same _ _ _, rfl, upd_same _ _ _⟩⟩ f1 f2 f3
        · have hk' : k < x.m := hk
          exact (h.snd k hk).keep (upd_ne _ _ (by simp only; omega)) (hch _ (Ne.symm (f3 k hk')))
        · have hk' : k < x.m := hk
          exact (h.pas k hk).keep (upd_ne _ _ (by simp only; omega)) (fun _ _ e => e)
        · obtain ⟨a1, a2, a3⟩ := h.out y hy hy2
          have hy3 : y < x.n0 ∨ n ≤ y := hy2
          refine ⟨(upd_ne _ _ (by omega)).trans a1, a2, fun c' hc' => ?_⟩
          simp only at hc'
          by_cases e : c' = c0
          · subst e
            rw [upd_same] at hc'
            simp only [Option.some.injEq] at hc'
            omega
          · rw [hch c' e] at hc'; exact a3 c' hc'
      · unfold GS.mu
        show 2 * (2 * ([] : List Value).length + 0 + 3 + wt (fun _ => 2) rs.flatten + 6 * rs.length + sumTo x.m x.weight) + sumTo n (fun a => if pk' a then 0 else 1) < 2 * (2 * ([] : List Value).length + (if false = true then 0 else 1) + 3 + wt (fun _ => 2) rs.flatten + 6 * rs.length + sumTo x.m x.weight) + x.u
        simp only [Bool.false_eq_true, if_false]
        omega
    | m0 _ _ e => omega
    | m1 _ _ e => omega
    | s _ _ e => omega
    | s1 _ _ _ _ _ e => omega
    | l _ _ _ _ e => omega
end
end Go.Gat
