/-
  GATHER's TERMS: the invariant is kept by every step.
-/
import Derived.Test.YtjcplblnapcfcaaPhL
set_option linter.unusedSimpArgs false
namespace Go.Gat
open Go.Conc
open Go.ConcN (sumTo upd sumTo_upd upd_ne upd_same sumTo_congr le_sumTo)

section
variable {zi zd : Value} {rows : List (List Value)}

theorem SndOK.keep {A A' : Abs} {a c : Nat} {vs : List Value} {cl : Bool} (h : SndOK A a c vs cl) (hp : A'.pr a = A.pr a) (hc : A'.ch c = A.ch c) : SndOK A' a c vs cl :=
  ⟨fun e => by rw [hp, hc]; exact h.live e, fun e => by rw [hp, hc]; exact h.gone e⟩
theorem PasOK.keep {A A' : Abs} {a b c all dn len : Nat} {cl : Bool} {ph : Ph} (h : PasOK zi A a b c all dn len cl ph) (hp : A'.pr b = A.pr b) (hk : ∀ y z, A.kn y z → A'.kn y z) : PasOK zi A' a b c all dn len cl ph := by
  cases ph with
  | R => exact hp.trans h
  | H v => exact hp.trans h
  | D => exact ⟨hp.trans h.1, h.2.1, hk _ _ h.2.2⟩
  | Q => exact ⟨hp.trans h.1, h.2.1, hk _ _ h.2.2.1, hk _ _ h.2.2.2⟩

/-- Pair k is turned. -/
def GS.turn (x : GS) (k : Nat) (vs : List Value) (ph : Ph) (cl : Bool) (acc : List Value) (u : Nat) : GS :=
  { x with vs := upd x.vs k vs, ph := upd x.ph k ph, cl := upd x.cl k cl, acc := acc, u := u }
def pendOf (vs : List Value) : Ph → List Value
  | .H v => v :: vs
  | _ => vs
theorem GS.pend_eq (x : GS) (k : Nat) : x.pend k = pendOf (x.vs k) (x.ph k) := by unfold GS.pend pendOf; cases x.ph k <;> rfl
theorem GS.pend_turn (x : GS) (k : Nat) (vs : List Value) (ph : Ph) (cl : Bool) (acc : List Value) (u j : Nat) : (x.turn k vs ph cl acc u).pend j = if j = k then pendOf vs ph else x.pend j := by
  rw [GS.pend_eq, GS.pend_eq]
  simp only [GS.turn]
  split
  · rename_i e; subst e; simp only [upd_same]
  · rename_i e; rw [upd_ne _ _ e, upd_ne _ _ e]

theorem sumTo_one {f g : Nat → Nat} {k : Nat} : ∀ {m : Nat}, k < m → (∀ j, j ≠ k → f j = g j) → sumTo m f + g k = sumTo m g + f k
  | m + 1, hk, h => by
    rcases Nat.lt_or_ge k m with hl | hl
    · have := sumTo_one hl h
      simp only [sumTo]
      rw [h m (by omega)]
      omega
    · obtain rfl : k = m := by omega
      simp only [sumTo]
      rw [sumTo_congr (fun j hj => h j (by omega))]
      omega

theorem JG.turn {x : GS} {W W' n k : Nat} {A A' : Abs} {vs' : List Value} {ph' : Ph} {cl' : Bool} {acc' : List Value} {u' : Nat} (h : JG zi zd rows (x, W) n A) (hk : k < x.m)
    (hmain : A'.pr 0 ≠ .quit) (hst : St zi zd rows (x.turn k vs' ph' cl' acc' u') n A' W')
    (hsnd : SndOK A' (x.n0 + 2 * k) (x.c k) vs' cl') (hpas : PasOK zi A' (x.n0 + 2 * k) (x.n0 + 2 * k + 1) (x.c k) x.all x.dn vs'.length cl' ph')
    (hpr : ∀ i, i ≠ 0 → i ≠ x.n0 + 2 * k → i ≠ x.n0 + 2 * k + 1 → A'.pr i = A.pr i) (hch : ∀ c, c ≠ x.c k → A'.ch c = A.ch c) (hkn : ∀ y z, A.kn y z → A'.kn y z)
    (hck : ∀ y, A'.ch (x.c k) = some (some y) → y = x.n0 + 2 * k ∨ A.ch (x.c k) = some (some y))
    (hmet : ∀ i j, A'.pk i = true → A'.pk j = true → ¬ Meets A' i j) (hopn : ∀ i, A'.pk i = true → (A'.pr i).offers.isSome = true ∧ ∀ c, (A'.pr i).at c → A'.ch c = some none)
    (hu : u' = sumTo n (fun i => if A'.pk i then 0 else 1)) (hhas : ∀ ω, wt ω acc' + wt ω (pendOf vs' ph') = wt ω x.acc + wt ω (x.pend k)) :
    JG zi zd rows (x.turn k vs' ph' cl' acc' u', W') n A' := by
  have hn0 : 0 < x.n0 := h.n0
  have hn : x.n0 + 2 * x.m ≤ n := by
    obtain ⟨W, hW⟩ : ∃ W, St zi zd rows x n A W := ⟨_, h.st⟩
    cases hW <;> omega
  refine { n0 := h.n0, main := hmain, le := h.le, st := hst, snd := fun j hj => ?_, pas := fun j hj => ?_, chd := h.chd, chn := h.chn, out := fun y hy hy2 => ?_, met := hmet, opn := hopn, u := hu, has := fun ω => ?_ }
  · by_cases e : j = k
    · subst e
      simp only [GS.turn, upd_same]
      exact hsnd
    · simp only [GS.turn]
      rw [upd_ne _ _ e, upd_ne _ _ e]
      have hj' : j < x.m := hj
      have hs : SndOK A (x.n0 + 2 * j) (x.c j) (x.vs j) (x.cl j) := h.snd j hj
      exact hs.keep (hpr _ (by omega) (by omega) (by omega)) (hch _ (h.chd j k hj hk e))
  · by_cases e : j = k
    · subst e
      simp only [GS.turn, upd_same]
      exact hpas
    · simp only [GS.turn]
      rw [upd_ne _ _ e, upd_ne _ _ e, upd_ne _ _ e]
      have hj' : j < x.m := hj
      have hs : PasOK zi A (x.n0 + 2 * j) (x.n0 + 2 * j + 1) (x.c j) x.all x.dn (x.vs j).length (x.cl j) (x.ph j) := h.pas j hj
      exact hs.keep (hpr _ (by omega) (by omega) (by omega)) hkn
  · obtain ⟨a1, a2, a3⟩ := h.out y hy hy2
    have hy3 : y < x.n0 ∨ n ≤ y := hy2
    refine ⟨by rw [hpr y hy (by omega) (by omega)]; exact a1, hkn _ _ a2, fun c hc => ?_⟩
    by_cases e : c = x.c k
    · subst e
      rcases hck y hc with e2 | e2
      · omega
      · exact a3 _ e2
    · rw [hch c e] at hc
      exact a3 c hc
  · have h1 := h.has ω
    have h2 := hhas ω
    have h3 := sumTo_one (f := fun j => wt ω ((x.turn k vs' ph' cl' acc' u').pend j)) (g := fun j => wt ω (x.pend j)) (m := x.m) hk (fun j hj => by simp only [GS.pend_turn, if_neg hj])
    simp only [GS.pend_turn, if_true] at h3
    simp only [GS.pend_turn] at h3 ⊢
    simp only [GS.turn] at h1 ⊢
    omega

/-- What goroutine 0 is at hangs on little. -/
theorem St.keep {x : GS} {n k W : Nat} {A A' : Abs} {vs' : List Value} {ph' : Ph} {cl' : Bool} {u' : Nat} (h : St zi zd rows x n A W) (hk : k < x.m) (hopen : ph'.open = (x.ph k).open) (hlen : wt (fun _ => 1) (pendOf vs' ph') = wt (fun _ => 1) (x.pend k))
    (hp0 : A'.pr 0 = A.pr 0) (hpm : A'.pr (x.n0 + 2 * x.m) = A.pr (x.n0 + 2 * x.m)) (hch : ∀ c, c ≠ x.c k → A'.ch c = A.ch c) (hchn : x.c k ≠ x.all ∧ x.c k ≠ x.dn) : St zi zd rows (x.turn k vs' ph' cl' x.acc u') n A' W := by
  have hopen' : ∀ j, ((x.turn k vs' ph' cl' x.acc u').ph j).open = (x.ph j).open := fun j => by
    simp only [GS.turn]
    by_cases e : j = k
    · subst e; rw [upd_same]; exact hopen
    · rw [upd_ne _ _ e]
  have hall : A'.ch x.all = A.ch x.all := hch _ hchn.1.symm
  have hdn : A'.ch x.dn = A.ch x.dn := hch _ hchn.2.symm
  cases h with
  | m0 e1 e2 => omega
  | m1 e1 e2 => omega
  | s e1 e2 e3 e4 e5 e6 e7 e8 => exact .s e1 (hp0.trans e2) e3 (hall.trans e4) (hdn.trans e5) e6 e7 (fun j hj => (hopen' j).trans (e8 j hj))
  | s1 c r rs e0 e2 e3 e4 e5 e6 e7 e8 e9 f1 f2 f3 => exact .s1 c r rs e0 (hp0.trans e2) e3 (hall.trans e4) (hdn.trans e5) e6 e7 (fun j hj => (hopen' j).trans (e8 j hj)) ((hch c (f3 k hk)).trans e9) f1 f2 f3
  | s2 c r rs cl e0 e2 e3 e4 e5 e6 e7 e8 e9 f1 f2 f3 => exact .s2 c r rs cl e0 (hp0.trans e2) e3 (hall.trans e4) (hdn.trans e5) e6 e7 (fun j hj => (hopen' j).trans (e8 j hj)) (e9.keep hpm (hch c (f3 k hk))) f1 f2 f3
  | l f left e1 e2 e3 e4 e5 e6 e7 e8 =>
    refine .l f left e1 (hp0.trans e2) e3 (hall.trans e4) (hdn.trans e5) e6 (e7.trans (sumTo_congr fun j _ => (hopen' j).symm)) (e8.trans ?_)
    congr 1
    refine sumTo_congr fun j _ => ?_
    rw [GS.pend_turn]
    split
    · rename_i e; subst e; exact hlen.symm
    · rfl

/-! ### who waits, behind a step -/
theorem sum_unpark {n i : Nat} {pk : Nat → Bool} (hi : i < n) (h : pk i = true) : sumTo n (fun a => if upd pk i false a then 0 else 1) = sumTo n (fun a => if pk a then 0 else 1) + 1 := by
  have := sumTo_one (f := fun a => if upd pk i false a then 0 else 1) (g := fun a => if pk a then 0 else 1) hi (fun j hj => by rw [upd_ne _ _ hj])
  simp only [upd_same, h, if_true, Bool.false_eq_true, if_false] at this
  omega
theorem sum_same {n i : Nat} {pk : Nat → Bool} (h : pk i = false) : sumTo n (fun a => if upd pk i false a then 0 else 1) = sumTo n (fun a => if pk a then 0 else 1) :=
  sumTo_congr fun a _ => by
    by_cases e : a = i
    · subst e; rw [upd_same, h]
    · rw [upd_ne _ _ e]
theorem sum_park {n i : Nat} {pk : Nat → Bool} (hi : i < n) (h : pk i = false) : sumTo n (fun a => if upd pk i true a then 0 else 1) + 1 = sumTo n (fun a => if pk a then 0 else 1) := by
  have := sumTo_one (f := fun a => if upd pk i true a then 0 else 1) (g := fun a => if pk a then 0 else 1) hi (fun j hj => by rw [upd_ne _ _ hj])
  simp only [upd_same, h, if_true, Bool.false_eq_true, if_false] at this
  omega

/-- Behind a meeting. -/
theorem meet_rest {A : Abs} {n s r : Nat} {k p' : Proc} {kn' : Nat → Nat → Prop} (hs : s < n) (hr : r < n) (hne : s ≠ r) (hx : A.pk s = true ∧ A.pk r = false ∨ A.pk s = false ∧ A.pk r = true)
    (hmet : ∀ i j, A.pk i = true → A.pk j = true → ¬ Meets A i j) (hopn : ∀ i, A.pk i = true → (A.pr i).offers.isSome = true ∧ ∀ c, (A.pr i).at c → A.ch c = some none) :
    (∀ i j, (upd (upd A.pk s false) r false) i = true → (upd (upd A.pk s false) r false) j = true → ¬ Meets { A with pr := upd (upd A.pr s k) r p', pk := upd (upd A.pk s false) r false, kn := kn' } i j) ∧
    (∀ i, (upd (upd A.pk s false) r false) i = true → ((upd (upd A.pr s k) r p') i).offers.isSome = true ∧ ∀ c, ((upd (upd A.pr s k) r p') i).at c → A.ch c = some none) ∧
    sumTo n (fun i => if upd (upd A.pk s false) r false i then 0 else 1) = sumTo n (fun i => if A.pk i then 0 else 1) + 1 := by
  have hpk : ∀ i, (upd (upd A.pk s false) r false) i = true → A.pk i = true ∧ (upd (upd A.pr s k) r p') i = A.pr i := fun i hi => by
    have h1 : i ≠ r := fun e => by rw [e, upd_same] at hi; cases hi
    have h2 : i ≠ s := fun e => by rw [e, upd_ne _ _ hne, upd_same] at hi; cases hi
    rw [upd_ne _ _ h1, upd_ne _ _ h2] at hi
    exact ⟨hi, by rw [upd_ne _ _ h1, upd_ne _ _ h2]⟩
  refine ⟨fun i j hi hj hm => ?_, fun i hi => ?_, ?_⟩
  · obtain ⟨c, v, z, k2, p2, e1, e2⟩ := hm
    simp only at e1 e2
    rw [(hpk i hi).2] at e1
    rw [(hpk j hj).2] at e2
    exact hmet i j (hpk i hi).1 (hpk j hj).1 ⟨c, v, z, k2, p2, e1, e2⟩
  · rw [(hpk i hi).2]
    exact hopn i (hpk i hi).1
  · rcases hx with ⟨h1, h2⟩ | ⟨h1, h2⟩
    · rw [sum_same (i := r) (pk := upd A.pk s false) (by rw [upd_ne _ _ (Ne.symm hne)]; exact h2), sum_unpark hs h1]
    · rw [sum_unpark (i := r) (pk := upd A.pk s false) hr (by rw [upd_ne _ _ (Ne.symm hne)]; exact h2), sum_same h1]

/-- What goroutine 0 may receive. -/
theorem JG.gets0 {x : GS} {W n : Nat} {A : Abs} (h : JG zi zd rows (x, W) n A) {c : Nat} {v : Value} {p' : Proc} (hg : Gets (A.pr 0) c v p') :
    ∃ f left, x.m = rows.length ∧ n = x.n0 + 2 * x.m ∧ A.ch x.all = some none ∧ A.ch x.dn = some none ∧ x.all ≠ x.dn ∧ left + 1 = sumTo x.m (fun k => (x.ph k).open) ∧ f + 1 = sumTo x.m (fun k => wt (fun _ => 1) (x.pend k)) + (left + 1) ∧ W = 0 ∧
      ((c = x.all ∧ p' = if isItem v then selP zi zd x.all x.dn f (left + 1) (x.acc ++ [v]) else .bad) ∨ (c = x.dn ∧ p' = if isOne v then selP zi zd x.all x.dn f left x.acc else .bad)) := by
  have hst := h.st
  simp only at hst
  cases hst with
  | m0 e => rw [e] at hg; cases hg
  | m1 e => rw [e] at hg; cases hg
  | s hlt e =>
    obtain ⟨r, rs, hr⟩ : ∃ r rs, rows.drop x.m = r :: rs := by
      cases hd : rows.drop x.m with
      | nil => have := congrArg List.length hd; simp at this; omega
      | cons r rs => exact ⟨r, rs, rfl⟩
    rw [hr, spnP] at e
    rw [e] at hg; cases hg
  | s1 _ _ _ _ e => rw [e] at hg; cases hg
  | s2 _ _ _ _ _ e => rw [e] at hg; cases hg
  | l f left hm e hn a b d hl hf =>
    cases left with
    | zero => rw [e] at hg; cases f <;> cases hg
    | succ left =>
      cases f with
      | zero => omega
      | succ f =>
        refine ⟨f, left, hm, hn, a, b, d, hl, hf, rfl, ?_⟩
        rw [e, selP] at hg
        cases hg with
        | fst => exact .inl ⟨rfl, rfl⟩
        | snd => exact .inr ⟨rfl, rfl⟩

theorem GS.mu_turn {x : GS} {W W' k : Nat} {vs' : List Value} {ph' : Ph} {cl' : Bool} {acc' : List Value} {u' : Nat} (hk : k < x.m) (hw : W' + wOf vs' cl' ph' + 1 ≤ W + x.weight k) (hu : u' ≤ x.u + 1) :
    GS.mu (x.turn k vs' ph' cl' acc' u', W') < GS.mu (x, W) := by
  have h1 := sumTo_one (f := (x.turn k vs' ph' cl' acc' u').weight) (g := x.weight) (m := x.m) hk (fun j hj => by
    simp only [GS.weight, GS.turn]
    rw [upd_ne _ _ hj, upd_ne _ _ hj, upd_ne _ _ hj])
  have h2 : (x.turn k vs' ph' cl' acc' u').weight k = wOf vs' cl' ph' := by
    simp only [GS.weight, GS.turn, upd_same]
  rw [h2] at h1
  unfold GS.mu
  show 2 * (W' + sumTo x.m (x.turn k vs' ph' cl' acc' u').weight) + u' < 2 * (W + sumTo x.m x.weight) + x.u
  omega

theorem gets_recv {c0 c : Nat} {z v : Value} {k : Value → Proc} {k0 p' : Proc} (h : Gets (.recv c0 z k k0) c v p') : c = c0 ∧ p' = k v := by cases h; exact ⟨rfl, rfl⟩
theorem gets_pas {c0 all dn m c : Nat} {v : Value} {p' : Proc} (h : Gets (pasP zi c0 all dn m) c v p') : c = c0 := by
  cases m <;> exact (gets_recv h).1

/-- What is still to come is an item. -/
theorem JG.item {x : GS} {W n : Nat} {A : Abs} (h : JG zi zd rows (x, W) n A) (hrow : ∀ v ∈ rows.flatten, isItem v = true) {k : Nat} (hk : k < x.m) {v : Value} (hv : v ∈ x.pend k) : isItem v = true := by
  have h1 := h.has fun v => if isItem v then 0 else 1
  have h2 : wt (fun v => if isItem v then 0 else 1) rows.flatten = 0 := by
    generalize rows.flatten = l at hrow
    induction l with
    | nil => rfl
    | cons a l ih => rw [wt_cons, hrow a (by simp), ih fun v hv => hrow v (by simp [hv])]; rfl
  have h3 : wt (fun v => if isItem v then 0 else 1) (x.pend k) ≤ sumTo x.m (fun k => wt (fun v => if isItem v then 0 else 1) (x.pend k)) := le_sumTo (f := fun k => wt (fun v => if isItem v then 0 else 1) (x.pend k)) hk
  have h4 : wt (fun v => if isItem v then 0 else 1) (x.pend k) = 0 := by
    simp only at h1
    omega
  generalize x.pend k = l at h4 hv
  induction l with
  | nil => cases hv
  | cons a l ih =>
    rw [wt_cons] at h4
    rcases List.mem_cons.1 hv with rfl | hv
    · apply Classical.byContradiction
      intro e
      rw [if_neg e] at h4
      omega
    · exact ih (by omega) hv

theorem JG.meet {x : GS} {W n s r c : Nat} {A : Abs} {v z : Value} {k p' : Proc} {kn' : Nat → Nat → Prop} (h : JG zi zd rows (x, W) n A) (hrow : ∀ v ∈ rows.flatten, isItem v = true) (hs : s < n) (hr : r < n) (hne : s ≠ r) (hps : A.pr s = .send c v z k) (hgr : Gets (A.pr r) c v p')
    (hx : A.pk s = true ∧ A.pk r = false ∨ A.pk s = false ∧ A.pk r = true) (hkn : ∀ a b, kn' a b ↔ A.kn a b ∨ (a = r ∧ (A.kn s b ∨ (b = s ∧ k = .quit)))) :
    ∃ x', JG zi zd rows x' n { A with pr := upd (upd A.pr s k) r p', pk := upd (upd A.pk s false) r false, kn := kn' } ∧ GS.mu x' < GS.mu (x, W) := by
  obtain ⟨hmet, hopn, hsum⟩ := meet_rest (A := A) (k := k) (p' := p') (kn' := kn') hs hr hne hx h.met h.opn
  have hqr : A.pr r ≠ .quit := fun e => by rw [e] at hgr; cases hgr
  have hn0 : 0 < x.n0 := h.n0
  have hu : x.u + 1 = sumTo n (fun i => if upd (upd A.pk s false) r false i then 0 else 1) := by
    have : x.u = _ := h.u
    rw [hsum, ← this]
  have hmono : ∀ y z, A.kn y z → kn' y z := fun y z e => (hkn y z).2 (.inl e)
  -- who sends
  rcases h.term (i := s) (by rw [hps]; simp) with rfl | ⟨c', l, e2, hc, hwho⟩ | ⟨j, hj, _, _, e2⟩ | ⟨j, v', hj, es, ep, e2⟩ | ⟨j, hj, es, ep, e2, ecl, ekn⟩
  · rcases h.main0 with ⟨_, e2⟩ | ⟨_, _, e2⟩ | ⟨_, e2⟩ | ⟨_, _, _, e2, _⟩ <;> rw [hps] at e2 <;> cases e2
  · -- a sender
    rw [hps] at e2
    cases l with
    | nil => cases e2
    | cons v' l =>
      simp only [sndP, Proc.send.injEq] at e2
      obtain ⟨rfl, rfl, hz, rfl⟩ := e2
      have hz := hz.symm
      subst hz
      -- who receives: a passer
      have hrec : ∃ j, j < x.m ∧ r = x.n0 + 2 * j + 1 ∧ x.ph j = .R ∧ c = x.c j ∧ A.pr r = pasP zi (x.c j) x.all x.dn (x.vs j).length := by
        rcases h.term hqr with rfl | ⟨c', l', e2, _⟩ | ⟨j, hj, e3, e4, e2⟩ | ⟨j, v', hj, es, ep, e2⟩ | ⟨j, hj, es, ep, e2, _⟩
        · exfalso
          obtain ⟨f, left, _, _, _, _, _, _, _, _, hcc⟩ := h.gets0 hgr
          rcases hwho with ⟨j, hj, _, _, rfl, _⟩ | ⟨_, _, h1, h2, _⟩
          · rcases hcc with ⟨e, _⟩ | ⟨e, _⟩
            · exact (h.chn j hj).1 e
            · exact (h.chn j hj).2 e
          · rcases hcc with ⟨e, _⟩ | ⟨e, _⟩
            · exact h1 e
            · exact h2 e
        · rw [e2] at hgr; cases l' <;> cases hgr
        · refine ⟨j, hj, e3, e4, ?_, e2⟩
          rw [e2] at hgr
          exact gets_pas hgr
        · rw [e2] at hgr; cases hgr
        · rw [e2] at hgr; cases hgr
      obtain ⟨j, hj, rfl, hph, rfl, hpr⟩ := hrec
      have hsj : s = x.n0 + 2 * j ∧ x.cl j = false ∧ v :: l = x.vs j := by
        rcases hwho with ⟨j', hj', h1, h2, h3, h4⟩ | ⟨_, _, _, _, h5⟩
        · have : j' = j := by
            apply Classical.byContradiction
            intro e
            exact h.chd j' j hj' hj e h3.symm
          subst this
          exact ⟨h1, h2, h4⟩
        · exact absurd rfl (h5 j hj)
      obtain ⟨rfl, hcl, hvs⟩ := hsj
      have hit : isItem v = true := h.item hrow hj (by rw [GS.pend_eq, hph, ← hvs]; simp [pendOf])
      have hp' : p' = .send x.all v zs (pasP zi (x.c j) x.all x.dn l.length) := by
        rw [hpr, ← hvs] at hgr
        simp only [List.length_cons, pasP] at hgr
        have := (gets_recv hgr).2
        rw [if_pos hit] at this
        exact this
      subst hp'
      have hn0' : x.n0 + 2 * j ≠ 0 := by omega
      have hpr0 : upd (upd A.pr (x.n0 + 2 * j) (sndP (x.c j) l)) (x.n0 + 2 * j + 1) (.send x.all v zs (pasP zi (x.c j) x.all x.dn l.length)) 0 = A.pr 0 := by
        rw [upd_ne _ _ (by omega), upd_ne _ _ (by omega)]
      refine ⟨(x.turn j l (.H v) false x.acc (x.u + 1), W), h.turn hj ?_ ?_ ?_ ?_ ?_ (fun _ _ => rfl) hmono (fun y e => .inr e) hmet hopn hu ?_, GS.mu_turn hj ?_ (Nat.le_refl _)⟩
      · simp only; rw [hpr0]; exact h.main
      · refine St.keep h.st hj ?_ ?_ hpr0 ?_ (fun _ _ => rfl) (h.chn j hj)
        · show 1 = (x.ph j).open
          rw [hph]; rfl
        · rw [GS.pend_eq]
          show _ = wt _ (pendOf (x.vs j) (x.ph j))
          rw [hph, ← hvs]; rfl
        · simp only
          have : x.m ≠ j := by omega
          rw [upd_ne _ _ (by omega), upd_ne _ _ (by omega)]
      · refine ⟨fun _ => ⟨?_, hc⟩, fun e => (by cases e)⟩
        simp only
        rw [upd_ne _ _ (by omega), upd_same]
      · show upd _ _ _ _ = _
        rw [upd_same]
      · intro i h1 h2 h3
        simp only
        rw [upd_ne _ _ h3, upd_ne _ _ h2]
      · intro ω
        rw [GS.pend_eq, hph, ← hvs]
        rfl
      · rw [GS.weight, hcl, hph, ← hvs]
        simp only [wOf, List.length_cons, Bool.false_eq_true, if_false]
        omega
  · exfalso
    rw [hps] at e2
    generalize (x.vs j).length = len at e2
    cases len <;> cases e2
  · -- a passer that holds one
    rw [hps] at e2
    simp only [Proc.send.injEq] at e2
    obtain ⟨rfl, rfl, hz, rfl⟩ := e2
    have hz := hz.symm
    subst hz
    dsimp only at hj es ep
    subst es
    have hr0 : r = 0 := by
      rcases h.term hqr with e | ⟨c', l', e2, _⟩ | ⟨j', hj', e3, e4, e2⟩ | ⟨j', v', hj', _, _, e2⟩ | ⟨j', hj', _, _, e2, _⟩
      · exact e
      · rw [e2] at hgr; cases l' <;> cases hgr
      · exfalso
        rw [e2] at hgr
        exact (h.chn j' hj').1 (gets_pas hgr).symm
      · rw [e2] at hgr; cases hgr
      · rw [e2] at hgr; cases hgr
    subst hr0
    obtain ⟨f, left, hm, hn, ha, hd, had, hl, hf, hW, hcc⟩ := h.gets0 hgr
    have hit : isItem v = true := h.item hrow hj (by rw [GS.pend_eq, ep]; simp [pendOf])
    rw [if_pos hit] at hcc
    rcases hcc with ⟨_, rfl⟩ | ⟨e, _⟩
    · have hpr0 : upd (upd A.pr (x.n0 + 2 * j + 1) (pasP zi (x.c j) x.all x.dn (x.vs j).length)) 0 (selP zi zd x.all x.dn f (left + 1) (x.acc ++ [v])) 0 = selP zi zd x.all x.dn f (left + 1) (x.acc ++ [v]) := upd_same _ _ _
      refine ⟨(x.turn j (x.vs j) .R (x.cl j) (x.acc ++ [v]) (x.u + 1), 0), h.turn hj ?_ ?_ ?_ ?_ ?_ (fun _ _ => rfl) hmono (fun y e => .inr e) hmet hopn hu ?_, GS.mu_turn hj ?_ (Nat.le_refl _)⟩
      · simp only; rw [hpr0]; exact selP_ne_quit zi zd
      · refine .l f (left + 1) hm hpr0 hn ha hd had ?_ ?_
        · refine hl.trans (sumTo_congr fun i _ => ?_)
          simp only [GS.turn]
          by_cases e : i = j
          · subst e; rw [upd_same, ep]; rfl
          · rw [upd_ne _ _ e]
        · have h3 := sumTo_one (f := fun i => wt (fun _ => 1) ((x.turn j (x.vs j) .R (x.cl j) (x.acc ++ [v]) (x.u + 1)).pend i)) (g := fun i => wt (fun _ => 1) (x.pend i)) (m := x.m) hj (fun i hi => by simp only [GS.pend_turn, if_neg hi])
          simp only [GS.pend_turn, if_true] at h3
          have h4 : wt (fun _ => 1) (x.pend j) = wt (fun _ => 1) (pendOf (x.vs j) .R) + 1 := by
            rw [GS.pend_eq, ep]
            show wt _ (v :: x.vs j) = wt _ (x.vs j) + 1
            rw [wt_cons]; omega
          simp only [GS.pend_turn]
          simp only [GS.turn]
          omega
      · refine SndOK.keep (h.snd j hj) ?_ rfl
        simp only
        rw [upd_ne _ _ (by omega), upd_ne _ _ (by omega)]
      · show upd (upd A.pr (x.n0 + 2 * j + 1) (pasP zi (x.c j) x.all x.dn (x.vs j).length)) 0 (selP zi zd x.all x.dn f (left + 1) (x.acc ++ [v])) (x.n0 + 2 * j + 1) = _
        rw [upd_ne _ _ (by omega), upd_same]
      · intro i h1 h2 h3
        simp only
        rw [upd_ne _ _ h1, upd_ne _ _ h3]
      · intro ω
        rw [GS.pend_eq, ep, wt_append]
        simp only [pendOf, wt_cons, wt_nil]
        omega
      · rw [GS.weight, ep, hW]
        simp only [wOf]
        omega
    · exact absurd e had
  · -- a passer that is done
    rw [hps] at e2
    simp only [Proc.send.injEq] at e2
    obtain ⟨rfl, rfl, hz, rfl⟩ := e2
    have hz := hz.symm
    subst hz
    dsimp only at hj es ep
    subst es
    have hr0 : r = 0 := by
      rcases h.term hqr with e | ⟨c', l', e2, _⟩ | ⟨j', hj', e3, e4, e2⟩ | ⟨j', v', hj', _, _, e2⟩ | ⟨j', hj', _, _, e2, _⟩
      · exact e
      · rw [e2] at hgr; cases l' <;> cases hgr
      · exfalso
        rw [e2] at hgr
        exact (h.chn j' hj').2 (gets_pas hgr).symm
      · rw [e2] at hgr; cases hgr
      · rw [e2] at hgr; cases hgr
    subst hr0
    obtain ⟨f, left, hm, hn, ha, hd, had, hl, hf, hW, hcc⟩ := h.gets0 hgr
    rcases hcc with ⟨e, _⟩ | ⟨_, hp'⟩
    · exact absurd e.symm had
    · have hp2 : p' = selP zi zd x.all x.dn f left x.acc := hp'
      subst hp2
      have hvs : x.vs j = [] := ((h.snd j hj).gone ecl).2.1
      have hpr0 : upd (upd A.pr (x.n0 + 2 * j + 1) .quit) 0 (selP zi zd x.all x.dn f left x.acc) 0 = selP zi zd x.all x.dn f left x.acc := upd_same _ _ _
      refine ⟨(x.turn j (x.vs j) .Q (x.cl j) x.acc (x.u + 1), 0), h.turn hj ?_ ?_ ?_ ?_ ?_ (fun _ _ => rfl) hmono (fun y e => .inr e) hmet hopn hu ?_, GS.mu_turn hj ?_ (Nat.le_refl _)⟩
      · simp only; rw [hpr0]; exact selP_ne_quit zi zd
      · have hop := sumTo_one (f := fun i => (upd x.ph j .Q i).open) (g := fun i => (x.ph i).open) (m := x.m) hj (fun i hi => by rw [upd_ne _ _ hi])
        simp only [upd_same, ep, Ph.open] at hop
        have hpe : ∀ i, ((x.turn j (x.vs j) .Q (x.cl j) x.acc (x.u + 1)).pend i) = x.pend i := fun i => by
          rw [GS.pend_turn]
          split
          · rename_i e; subst e; rw [GS.pend_eq, ep]; rfl
          · rfl
        refine .l f left hm hpr0 hn ha hd had ?_ ?_
        · simp only [GS.turn, Ph.open] at hl ⊢
          omega
        · simp only [hpe]
          simp only [GS.turn]
          omega
      · refine SndOK.keep (h.snd j hj) ?_ rfl
        simp only
        rw [upd_ne _ _ (by omega), upd_ne _ _ (by omega)]
      · refine ⟨?_, ecl, (hkn _ _).2 (.inr ⟨rfl, .inl ekn⟩), (hkn _ _).2 (.inr ⟨rfl, .inr ⟨rfl, rfl⟩⟩)⟩
        simp only
        rw [upd_ne _ _ (by omega), upd_same]
      · intro i h1 h2 h3
        simp only
        rw [upd_ne _ _ h1, upd_ne _ _ h3]
      · intro ω
        rw [GS.pend_eq, ep]
        rfl
      · rw [GS.weight, ep, hW, ecl]
        simp only [wOf]
        omega
end
end Go.Gat
