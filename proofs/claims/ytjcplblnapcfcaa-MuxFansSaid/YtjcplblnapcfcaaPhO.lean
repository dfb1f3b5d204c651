/-
  GATHER's TERMS: the invariant is kept: a new channel; a go statement. All together; the start.
-/
import Derived.Test.YtjcplblnapcfcaaPhN
set_option linter.unusedSimpArgs false
namespace Go.Gat
open Go.Conc
open Go.ConcN (sumTo upd sumTo_upd upd_ne upd_same sumTo_congr le_sumTo)

section
variable {zi zd : Value} {rows : List (List Value)}

theorem wt_two (l : List Value) : wt (fun _ => 2) l = 2 * l.length := by
  induction l with
  | nil => rfl
  | cons v l ih => rw [wt_cons, ih, List.length_cons]; omega
theorem spnP_ne_quit {all dn f n : Nat} {l : List (List Value)} : spnP zi zd all dn f n l ≠ .quit := by
  cases l with
  | nil => exact selP_ne_quit zi zd
  | cons r l => simp [spnP]
theorem acc_nil {l : List Value} (h : wt (fun _ => 1) l = 0) : l = [] := by
  rw [wt_len] at h
  exact List.length_eq_zero_iff.1 h

theorem JG.chan {x : GS} {W n i c : Nat} {A : Abs} {k : Nat → Proc} (h : JG zi zd rows (x, W) n A) (hpk : A.pk i = false) (hp : A.pr i = .chan k) (hc : A.ch c = none) :
    ∃ x', JG zi zd rows x' n { A with pr := upd A.pr i (k c), ch := upd A.ch c (some none) } ∧ GS.mu x' < GS.mu (x, W) := by
  have hn0 : 0 < x.n0 := h.n0
  have hi0 : i = 0 := by
    rcases h.term (i := i) (by rw [hp]; simp) with e | ⟨c', l, e2, hc', hwho⟩ | ⟨j, hj, ei, ep, e2⟩ | ⟨j, v', hj, _, _, e2⟩ | ⟨j, hj, _, _, e2, _⟩
    · exact e
    · rw [hp] at e2; cases l <;> cases e2
    · rw [hp] at e2
      generalize (x.vs j).length = len at e2
      cases len <;> cases e2
    · rw [hp] at e2; cases e2
    · rw [hp] at e2; cases e2
  subst hi0
  have hmet : ∀ a b, A.pk a = true → A.pk b = true → ¬ Meets { A with pr := upd A.pr 0 (k c), ch := upd A.ch c (some none) } a b := fun a b ha hb hm => by
    have e1 : a ≠ 0 := fun e => by rw [e, hpk] at ha; cases ha
    have e2 : b ≠ 0 := fun e => by rw [e, hpk] at hb; cases hb
    obtain ⟨c1, v1, z1, k1, p1, f1, f2⟩ := hm
    simp only at f1 f2
    rw [upd_ne _ _ e1] at f1
    rw [upd_ne _ _ e2] at f2
    exact h.met a b ha hb ⟨c1, v1, z1, k1, p1, f1, f2⟩
  have hne : ∀ c', A.ch c' ≠ none → c' ≠ c := fun c' h1 e => h1 (e ▸ hc)
  have hch : ∀ c', c' ≠ c → upd A.ch c (some none) c' = A.ch c' := fun c' e => upd_ne _ _ e
  have hopn : ∀ a, A.pk a = true → (upd A.pr 0 (k c) a).offers.isSome = true ∧ ∀ c', (upd A.pr 0 (k c) a).at c' → upd A.ch c (some none) c' = some none := fun a ha => by
    have e1 : a ≠ 0 := fun e => by rw [e, hpk] at ha; cases ha
    rw [upd_ne _ _ e1]
    refine ⟨(h.opn a ha).1, fun c' hc' => ?_⟩
    have h2 := (h.opn a ha).2 c' hc'
    rw [hch c' (hne c' (by rw [h2]; simp))]
    exact h2
  have hck : ∀ j, j < x.m → x.c j ≠ c := fun j hj => hne _ (by
    cases e : x.cl j with
    | false => rw [((h.snd j hj).live e).2]; simp
    | true => rw [((h.snd j hj).gone e).2.2]; simp)
  have hsnd : ∀ j, j < x.m → SndOK { A with pr := upd A.pr 0 (k c), ch := upd A.ch c (some none) } (x.n0 + 2 * j) (x.c j) (x.vs j) (x.cl j) := fun j hj => by
    have h1 : SndOK A (x.n0 + 2 * j) (x.c j) (x.vs j) (x.cl j) := h.snd j hj
    exact h1.keep (upd_ne A.pr (k c) (show x.n0 + 2 * j ≠ 0 by omega)) (hch _ (hck j hj))
  have hpas : ∀ j, j < x.m → PasOK zi { A with pr := upd A.pr 0 (k c), ch := upd A.ch c (some none) } (x.n0 + 2 * j) (x.n0 + 2 * j + 1) (x.c j) x.all x.dn (x.vs j).length (x.cl j) (x.ph j) := fun j hj => by
    have h1 : PasOK zi A (x.n0 + 2 * j) (x.n0 + 2 * j + 1) (x.c j) x.all x.dn (x.vs j).length (x.cl j) (x.ph j) := h.pas j hj
    exact h1.keep (upd_ne A.pr (k c) (show x.n0 + 2 * j + 1 ≠ 0 by omega)) (fun _ _ e => e)
  have hout : ∀ y, y ≠ 0 → y < x.n0 ∨ n ≤ y → upd A.pr 0 (k c) y = .quit ∧ A.kn 0 y ∧ ∀ c', upd A.ch c (some none) c' ≠ some (some y) := fun y hy hy2 => by
    obtain ⟨a1, a2, a3⟩ := h.out y hy hy2
    refine ⟨by rw [upd_ne _ _ hy]; exact a1, a2, fun c' hc' => ?_⟩
    by_cases e : c' = c
    · subst e; rw [upd_same] at hc'; simp at hc'
    · rw [hch c' e] at hc'; exact a3 c' hc'
  have hst := h.st
  simp only at hst
  have hmu : ∀ {x' : GS} {W' : Nat}, x'.m = x.m → (∀ j, x'.weight j = x.weight j) → x'.u = x.u → W' < W → GS.mu (x', W') < GS.mu (x, W) := fun {x' W'} e1 e2 e3 e4 => by
    unfold GS.mu
    simp only
    rw [e1, e3, show x'.weight = x.weight from funext e2]
    omega
  cases hst with
  | m0 e1 e2 e3 e4 =>
    rw [e1] at hp
    simp only [gatP, Proc.chan.injEq] at hp
    subst hp
    refine ⟨({ x with all := c }, 1 + wt (fun _ => 2) rows.flatten + 6 * rows.length), ?_, hmu rfl (fun _ => rfl) rfl (by omega)⟩
    exact { n0 := h.n0, main := by simp [upd_same], le := h.le, st := .m1 (by simp only [upd_same]) e2 e3 (by simp only [upd_same]), snd := hsnd, pas := fun j hj => absurd (show j < x.m from hj) (by omega), chd := h.chd, chn := fun j hj => absurd (show j < x.m from hj) (by omega), out := hout, met := hmet, opn := hopn, u := h.u, has := h.has }
  | m1 e1 e2 e3 e4 =>
    rw [e1] at hp
    simp only [Proc.chan.injEq] at hp
    subst hp
    have hall : x.all ≠ c := hne _ (by rw [e4]; simp)
    have hacc : x.acc = [] := acc_nil (by have := h.has (fun _ => 1); simp only [e2, List.drop_zero, sumTo] at this; omega)
    have hmain : ∀ {p : Proc}, p ≠ .quit → upd A.pr 0 p 0 ≠ .quit := fun hp => by rw [upd_same]; exact hp
    cases hrows : rows with
    | nil =>
      subst hrows
      refine ⟨({ x with dn := c }, 0), ?_, hmu rfl (fun _ => rfl) rfl (by omega)⟩
      refine { n0 := h.n0, main := hmain (selP_ne_quit zi zd), le := h.le, st := .l 0 0 e2 ?_ (by show n = x.n0 + 2 * x.m; omega) ((hch _ hall).trans e4) (upd_same _ _ _) hall (by show 0 = sumTo x.m _; rw [e2]; rfl) (by show 0 = sumTo x.m _ + 0; rw [e2]; rfl), snd := hsnd, pas := fun j hj => absurd (show j < x.m from hj) (by omega), chd := h.chd, chn := fun j hj => absurd (show j < x.m from hj) (by omega), out := hout, met := hmet, opn := hopn, u := h.u, has := h.has }
      show upd A.pr 0 (selP zi zd x.all c 0 0 []) 0 = selP zi zd x.all c 0 0 x.acc
      rw [hacc]
      exact upd_same _ _ _
    | cons r rs =>
      rw [← hrows]
      have hlen : 0 < rows.length := by rw [hrows]; simp
      refine ⟨({ x with dn := c }, wt (fun _ => 2) (rows.drop x.m).flatten + 6 * (rows.drop x.m).length), ?_, hmu rfl (fun _ => rfl) rfl (by rw [e2, List.drop_zero]; omega)⟩
      refine { n0 := h.n0, main := hmain spnP_ne_quit, le := h.le, st := .s (show x.m < _ by omega) ?_ (by show n = x.n0 + 2 * x.m; omega) ((hch _ hall).trans e4) (upd_same _ _ _) hall hacc (fun j hj => absurd (show j < x.m from hj) (by omega)), snd := hsnd, pas := fun j hj => absurd (show j < x.m from hj) (by omega), chd := h.chd, chn := fun j hj => absurd (show j < x.m from hj) (by omega), out := hout, met := hmet, opn := hopn, u := h.u, has := h.has }
      show upd A.pr 0 _ 0 = spnP zi zd x.all c _ _ (rows.drop x.m)
      rw [e2, List.drop_zero]
      exact upd_same _ _ _
  | s e1 e2 e3 e4 e5 e6 e7 e8 =>
    obtain ⟨r, rs, hr⟩ : ∃ r rs, rows.drop x.m = r :: rs := by
      cases hd : rows.drop x.m with
      | nil => have := congrArg List.length hd; simp at this; omega
      | cons r rs => exact ⟨r, rs, rfl⟩
    rw [hr, spnP] at e2
    rw [e2] at hp
    simp only [Proc.chan.injEq] at hp
    subst hp
    have hall : x.all ≠ c := hne _ (by rw [e4]; simp)
    have hdn : x.dn ≠ c := hne _ (by rw [e5]; simp)
    refine ⟨(x, 2 * r.length + 5 + wt (fun _ => 2) rs.flatten + 6 * rs.length), ?_, hmu rfl (fun _ => rfl) rfl ?_⟩
    · exact { n0 := h.n0, main := by simp [upd_same], le := h.le, st := .s1 c r rs hr (by simp only [upd_same]) e3 ((hch _ hall).trans e4) ((hch _ hdn).trans e5) e6 e7 e8 (upd_same _ _ _) hall.symm hdn.symm (fun j hj => (hck j hj).symm), snd := hsnd, pas := hpas, chd := h.chd, chn := h.chn, out := hout, met := hmet, opn := hopn, u := h.u, has := h.has }
    · rw [hr, List.flatten_cons, wt_append, List.length_cons]
      have := wt_two r
      omega
  | s1 _ _ _ _ e => rw [e] at hp; cases hp
  | s2 _ _ _ _ _ e => rw [e] at hp; cases hp
  | l f left _ e => rw [e] at hp; cases f <;> cases left <;> cases hp

theorem JG.go {x : GS} {W n : Nat} {A : Abs} {ch k : Proc} {kn' : Nat → Nat → Prop} (h : JG zi zd rows (x, W) n A) (hpk : A.pk 0 = false) (hp : A.pr 0 = .go ch k) (hkn : ∀ a b, kn' a b ↔ A.kn a b ∧ b ≠ n) :
    ∃ x', JG zi zd rows x' (n + 1) { A with pr := upd (upd A.pr 0 k) n ch, kn := kn' } ∧ GS.mu x' < GS.mu (x, W) := by
  have hn0 : 0 < x.n0 := h.n0
  have hnpos := h.npos
  have hle : x.n0 + 2 * x.m ≤ n := by
    obtain ⟨W, hW⟩ : ∃ W, St zi zd rows x n A W := ⟨_, h.st⟩
    cases hW <;> omega
  have hpkn : A.pk n = false := by
    cases e : A.pk n with
    | false => rfl
    | true =>
      have := (h.opn n e).1
      rw [(h.out n (by omega) (.inr (Nat.le_refl _))).1] at this
      cases this
  have hpr : ∀ a, a ≠ 0 → a ≠ n → upd (upd A.pr 0 k) n ch a = A.pr a := fun a h1 h2 => by rw [upd_ne _ _ h2, upd_ne _ _ h1]
  have hpr0 : upd (upd A.pr 0 k) n ch 0 = k := by rw [upd_ne _ _ (by omega), upd_same]
  have hmet : ∀ a b, A.pk a = true → A.pk b = true → ¬ Meets { A with pr := upd (upd A.pr 0 k) n ch, kn := kn' } a b := fun a b ha hb hm => by
    have e1 : a ≠ 0 := fun e => by rw [e, hpk] at ha; cases ha
    have e2 : b ≠ 0 := fun e => by rw [e, hpk] at hb; cases hb
    have e3 : a ≠ n := fun e => by rw [e, hpkn] at ha; cases ha
    have e4 : b ≠ n := fun e => by rw [e, hpkn] at hb; cases hb
    obtain ⟨c1, v1, z1, k1, p1, f1, f2⟩ := hm
    simp only at f1 f2
    rw [hpr a e1 e3] at f1
    rw [hpr b e2 e4] at f2
    exact h.met a b ha hb ⟨c1, v1, z1, k1, p1, f1, f2⟩
  have hopn : ∀ a, A.pk a = true → (upd (upd A.pr 0 k) n ch a).offers.isSome = true ∧ ∀ c', (upd (upd A.pr 0 k) n ch a).at c' → A.ch c' = some none := fun a ha => by
    have e1 : a ≠ 0 := fun e => by rw [e, hpk] at ha; cases ha
    have e3 : a ≠ n := fun e => by rw [e, hpkn] at ha; cases ha
    rw [hpr a e1 e3]
    exact h.opn a ha
  have hsnd : ∀ j, j < x.m → SndOK { A with pr := upd (upd A.pr 0 k) n ch, kn := kn' } (x.n0 + 2 * j) (x.c j) (x.vs j) (x.cl j) := fun j hj => by
    have h1 : SndOK A (x.n0 + 2 * j) (x.c j) (x.vs j) (x.cl j) := h.snd j hj
    exact h1.keep (hpr _ (show x.n0 + 2 * j ≠ 0 by omega) (show x.n0 + 2 * j ≠ n by omega)) rfl
  have hpas : ∀ j, j < x.m → PasOK zi { A with pr := upd (upd A.pr 0 k) n ch, kn := kn' } (x.n0 + 2 * j) (x.n0 + 2 * j + 1) (x.c j) x.all x.dn (x.vs j).length (x.cl j) (x.ph j) := fun j hj => by
    have h1 : PasOK zi A (x.n0 + 2 * j) (x.n0 + 2 * j + 1) (x.c j) x.all x.dn (x.vs j).length (x.cl j) (x.ph j) := h.pas j hj
    have hb : upd (upd A.pr 0 k) n ch (x.n0 + 2 * j + 1) = A.pr (x.n0 + 2 * j + 1) := hpr _ (by omega) (by omega)
    cases e : x.ph j with
    | R => rw [e] at h1; exact hb.trans h1
    | H v => rw [e] at h1; exact hb.trans h1
    | D => rw [e] at h1; exact ⟨hb.trans h1.1, h1.2.1, (hkn _ _).2 ⟨h1.2.2, by omega⟩⟩
    | Q => rw [e] at h1; exact ⟨hb.trans h1.1, h1.2.1, (hkn _ _).2 ⟨h1.2.2.1, by omega⟩, (hkn _ _).2 ⟨h1.2.2.2, by omega⟩⟩
  have hout : ∀ y, y ≠ 0 → y < x.n0 ∨ n + 1 ≤ y → upd (upd A.pr 0 k) n ch y = .quit ∧ kn' 0 y ∧ ∀ c', A.ch c' ≠ some (some y) := fun y hy hy2 => by
    obtain ⟨a1, a2, a3⟩ := h.out y hy (show y < x.n0 ∨ n ≤ y by omega)
    exact ⟨by rw [hpr y hy (by omega)]; exact a1, (hkn _ _).2 ⟨a2, by omega⟩, a3⟩
  have husum : sumTo (n + 1) (fun a => if A.pk a then 0 else 1) = x.u + 1 := by
    have hu : x.u = sumTo n (fun a => if A.pk a then 0 else 1) := h.u
    rw [sumTo, ← hu, hpkn]; rfl
  have hst := h.st
  simp only at hst
  cases hst with
  | m0 e => rw [e] at hp; cases hp
  | m1 e => rw [e] at hp; cases hp
  | s hlt e =>
    obtain ⟨r, rs, hr⟩ : ∃ r rs, rows.drop x.m = r :: rs := by
      cases hd : rows.drop x.m with
      | nil => have := congrArg List.length hd; simp at this; omega
      | cons r rs => exact ⟨r, rs, rfl⟩
    rw [hr, spnP] at e
    rw [e] at hp; cases hp
  | l f left _ e => rw [e] at hp; cases f <;> cases left <;> cases hp
  | s1 c r rs e0 e2 e3 e4 e5 e6 e7 e8 e9 f1 f2 f3 =>
    rw [e2] at hp
    simp only [Proc.go.injEq] at hp
    obtain ⟨rfl, rfl⟩ := hp
    refine ⟨({ x with u := x.u + 1 }, 2 * r.length + 1 + 3 + wt (fun _ => 2) rs.flatten + 6 * rs.length), ?_, ?_⟩
    · refine { n0 := h.n0, main := by simp only; rw [hpr0]; simp, le := h.le, st := .s2 c r rs false e0 hpr0 (by show n + 1 = x.n0 + 2 * x.m + 1; omega) e4 e5 e6 e7 e8 ⟨fun _ => ⟨?_, e9⟩, fun e => (by cases e)⟩ f1 f2 f3, snd := hsnd, pas := hpas, chd := h.chd, chn := h.chn, out := hout, met := hmet, opn := hopn, u := husum.symm, has := h.has }
      show upd _ n _ (x.n0 + 2 * x.m) = _
      rw [← e3]
      exact upd_same _ _ _
    · unfold GS.mu
      show 2 * (2 * r.length + 1 + 3 + wt (fun _ => 2) rs.flatten + 6 * rs.length + sumTo x.m x.weight) + (x.u + 1) < 2 * (2 * r.length + 5 + wt (fun _ => 2) rs.flatten + 6 * rs.length + sumTo x.m x.weight) + x.u
      omega
  | s2 c r rs cl e0 e2 e3 e4 e5 e6 e7 e8 e9 f1 f2 f3 =>
    rw [e2] at hp
    simp only [Proc.go.injEq] at hp
    obtain ⟨rfl, rfl⟩ := hp
    have hltm : ∀ {j}, j < x.m + 1 → j ≠ x.m → j < x.m := fun h1 h2 => by omega
    have hprm := hpr (x.n0 + 2 * x.m) (by omega) (by omega)
    let x' : GS := { x with m := x.m + 1, c := upd x.c x.m c, vs := upd x.vs x.m r, ph := upd x.ph x.m .R, cl := upd x.cl x.m cl, u := x.u + 1 }
    have hold : ∀ j, j < x.m → x'.c j = x.c j ∧ x'.vs j = x.vs j ∧ x'.ph j = x.ph j ∧ x'.cl j = x.cl j := fun j hj => ⟨upd_ne _ _ (by omega), upd_ne _ _ (by omega), upd_ne _ _ (by omega), upd_ne _ _ (by omega)⟩
    have hnew : x'.c x.m = c ∧ x'.vs x.m = r ∧ x'.ph x.m = .R ∧ x'.cl x.m = cl := ⟨upd_same _ _ _, upd_same _ _ _, upd_same _ _ _, upd_same _ _ _⟩
    have hpj : ∀ j, j < x.m → x'.pend j = x.pend j := fun j hj => by
      rw [GS.pend_eq, GS.pend_eq, (hold j hj).2.1, (hold j hj).2.2.1]
    have hpm : x'.pend x.m = r := by rw [GS.pend_eq, hnew.2.1, hnew.2.2.1]; rfl
    have hpend : ∀ ω, sumTo (x.m + 1) (fun j => wt ω (x'.pend j)) = sumTo x.m (fun j => wt ω (x.pend j)) + wt ω r := fun ω => by
      rw [sumTo, hpm, sumTo_congr (fun j hj => by rw [hpj j hj])]
    have hw : sumTo (x.m + 1) x'.weight = sumTo x.m x.weight + (2 * r.length + (if cl then 0 else 1) + 2) := by
      rw [sumTo]
      congr 1
      · exact sumTo_congr fun j hj => by rw [GS.weight, GS.weight, (hold j hj).2.1, (hold j hj).2.2.1, (hold j hj).2.2.2]
      · rw [GS.weight, hnew.2.1, hnew.2.2.1, hnew.2.2.2]; rfl
    have hlen : rows.length = x.m + 1 + rs.length := by
      have h1 := congrArg List.length e0
      have h2 := h.le
      simp at h1
      simp only at h2
      omega
    have hdrop : rows.drop (x.m + 1) = rs := by
      rw [← List.drop_drop, e0]; rfl
    have hopen : ∀ j, j < x.m + 1 → (x'.ph j).open = 1 := fun j hj => by
      by_cases e : j = x.m
      · subst e; rw [hnew.2.2.1]; rfl
      · rw [(hold j (hltm hj e)).2.2.1]; exact e8 j (hltm hj e)
    have hhas : ∀ ω, wt ω x.acc + sumTo (x.m + 1) (fun j => wt ω (x'.pend j)) + wt ω (rows.drop (x.m + 1)).flatten = wt ω rows.flatten := fun ω => by
      have h1 := h.has ω
      simp only at h1
      rw [e0, List.flatten_cons, wt_append] at h1
      rw [hpend, hdrop]
      omega
    have build : ∀ W', St zi zd rows x' (n + 1) { A with pr := upd (upd A.pr 0 (spnP zi zd x.all x.dn (rows.flatten.length + rows.length) rows.length rs)) n (pasP zi c x.all x.dn r.length), kn := kn' } W' → JG zi zd rows (x', W') (n + 1) { A with pr := upd (upd A.pr 0 (spnP zi zd x.all x.dn (rows.flatten.length + rows.length) rows.length rs)) n (pasP zi c x.all x.dn r.length), kn := kn' } := fun W' hst' => by
      refine { n0 := h.n0, main := by simp only; rw [hpr0]; exact spnP_ne_quit, le := by show x.m + 1 ≤ _; omega, st := hst', snd := fun j hj => ?_, pas := fun j hj => ?_, chd := fun j j' hj hj' hne => ?_, chn := fun j hj => ?_, out := hout, met := hmet, opn := hopn, u := husum.symm, has := hhas }
      · have hj2 : j < x.m + 1 := hj
        by_cases e : j = x.m
        · subst e
          show SndOK _ (x.n0 + 2 * x.m) (x'.c x.m) (x'.vs x.m) (x'.cl x.m)
          rw [hnew.1, hnew.2.1, hnew.2.2.2]
          exact e9.keep hprm rfl
        · show SndOK _ (x.n0 + 2 * j) (x'.c j) (x'.vs j) (x'.cl j)
          obtain ⟨a1, a2, a3, a4⟩ := hold j (hltm hj2 e)
          rw [a1, a2, a4]
          exact hsnd j (hltm hj2 e)
      · have hj2 : j < x.m + 1 := hj
        by_cases e : j = x.m
        · subst e
          show PasOK zi _ (x.n0 + 2 * x.m) (x.n0 + 2 * x.m + 1) (x'.c x.m) x.all x.dn (x'.vs x.m).length (x'.cl x.m) (x'.ph x.m)
          rw [hnew.1, hnew.2.1, hnew.2.2.1, hnew.2.2.2]
          show upd _ n _ (x.n0 + 2 * x.m + 1) = _
          rw [← e3]
          exact upd_same _ _ _
        · show PasOK zi _ (x.n0 + 2 * j) (x.n0 + 2 * j + 1) (x'.c j) x.all x.dn (x'.vs j).length (x'.cl j) (x'.ph j)
          obtain ⟨a1, a2, a3, a4⟩ := hold j (hltm hj2 e)
          rw [a1, a2, a3, a4]
          exact hpas j (hltm hj2 e)
      · have hj2 : j < x.m + 1 := hj
        have hj3 : j' < x.m + 1 := hj'
        show x'.c j ≠ x'.c j'
        by_cases e : j = x.m
        · subst e
          have hj4 := hltm hj3 (Ne.symm hne)
          rw [hnew.1, (hold j' hj4).1]
          exact f3 j' hj4
        · by_cases e' : j' = x.m
          · subst e'
            rw [hnew.1, (hold j (hltm hj2 e)).1]
            exact (f3 j (hltm hj2 e)).symm
          · rw [(hold j (hltm hj2 e)).1, (hold j' (hltm hj3 e')).1]
            exact h.chd j j' (hltm hj2 e) (hltm hj3 e') hne
      · have hj2 : j < x.m + 1 := hj
        show x'.c j ≠ x.all ∧ x'.c j ≠ x.dn
        by_cases e : j = x.m
        · subst e; rw [hnew.1]; exact ⟨f1, f2⟩
        · rw [(hold j (hltm hj2 e)).1]; exact h.chn j (hltm hj2 e)
    cases hrs : rs with
    | nil =>
      rw [hrs] at hlen hdrop
      simp only [List.length_nil] at hlen
      have hst' := build 0 (.l (rows.flatten.length + rows.length) rows.length (by show x.m + 1 = rows.length; omega) ?_ (by show n + 1 = x.n0 + 2 * (x.m + 1); omega) e4 e5 e6 ?_ ?_)
      · refine ⟨(x', 0), by rw [hrs] at hst'; exact hst', ?_⟩
        unfold GS.mu
        show 2 * (0 + sumTo (x.m + 1) x'.weight) + (x.u + 1) < 2 * (2 * r.length + (if cl = true then 0 else 1) + 3 + wt (fun _ => 2) ([] : List (List Value)).flatten + 6 * ([] : List (List Value)).length + sumTo x.m x.weight) + x.u
        rw [hw]
        simp only [List.length_nil]
        omega
      · show upd (upd A.pr 0 _) n _ 0 = selP zi zd x.all x.dn _ _ x.acc
        rw [hpr0, hrs, e7]; rfl
      · show rows.length = sumTo (x.m + 1) (fun j => (x'.ph j).open)
        rw [sumTo_congr (g := fun _ => 1) hopen]
        have : ∀ m, sumTo m (fun _ => 1) = m := fun m => by
          induction m with
          | zero => rfl
          | succ m ih => rw [sumTo, ih]
        rw [this]; omega
      · show _ = sumTo (x.m + 1) (fun j => wt (fun _ => 1) (x'.pend j)) + rows.length
        have h1 := hhas (fun _ => 1)
        rw [hdrop, e7, wt_len rows.flatten] at h1
        simp only [wt_nil, List.flatten_nil] at h1
        omega
    | cons r' rs' =>
      have hpos : 0 < rs.length := by rw [hrs]; simp
      have hst' := build (wt (fun _ => 2) (rows.drop (x.m + 1)).flatten + 6 * (rows.drop (x.m + 1)).length) (.s (by show x.m + 1 < rows.length; omega) ?_ (by show n + 1 = x.n0 + 2 * (x.m + 1); omega) e4 e5 e6 e7 hopen)
      · refine ⟨(x', _), by rw [hrs] at hst'; exact hst', ?_⟩
        unfold GS.mu
        rw [hdrop, ← hrs]
        show 2 * (wt (fun _ => 2) rs.flatten + 6 * rs.length + sumTo (x.m + 1) x'.weight) + (x.u + 1) < 2 * (2 * r.length + (if cl = true then 0 else 1) + 3 + wt (fun _ => 2) rs.flatten + 6 * rs.length + sumTo x.m x.weight) + x.u
        rw [hw]
        omega
      · show upd (upd A.pr 0 _) n _ 0 = spnP zi zd x.all x.dn _ _ (rows.drop (x.m + 1))
        rw [hpr0, hdrop]

/-- ████ GATHER's TERMS COME TO THEIR END, with all the values, each as often as it was sent. ████ -/
theorem gather_holds (hrow : ∀ v ∈ rows.flatten, isItem v = true) : Holds (JG zi zd rows) GS.mu (fun acc => ∀ ω, wt ω acc = wt ω rows.flatten) where
  wf _ _ _ h := h.wf
  main _ _ _ h := ⟨h.npos, h.main⟩
  goes _ _ _ h := h.goes
  ends _ _ _ _ h he := h.ends he
  step x n A A' n' h ha := by
    obtain ⟨x, W⟩ := x
    cases ha with
    | park i h1 h2 h3 h4 h5 => exact h.park h1 h2 h3 h4 h5
    | meet s r c v z k p' kn' h1 h2 h3 h4 h5 h6 h7 => exact h.meet hrow h1 h2 h3 h4 h5 h6 h7
    | shut i c y z k k0 kn' h1 h2 h3 h4 h5 => exact h.shut h1 h2 h3 h4 h5
    | close i c pk' h1 h2 h3 h4 => exact h.close h1 h2 h3 h4
    | chan i c k h1 h2 h3 h4 => exact h.chan h2 h3 h4
    | go ch k kn' h1 h2 h3 h4 => exact h.go h2 h3 h4

theorem gather_start (zi zd : Value) (rows : List (List Value)) (n : Nat) (hn : 0 < n) : ∃ x, JG zi zd rows x n (Abs.start (gatP zi zd rows)) := by
  refine ⟨({ n0 := n, all := 0, dn := 0, m := 0, c := fun _ => 0, vs := fun _ => [], ph := fun _ => .R, cl := fun _ => false, acc := [], u := sumTo n (fun _ => 1) }, 2 + wt (fun _ => 2) rows.flatten + 6 * rows.length), ?_⟩
  exact { n0 := hn, main := by simp [Abs.start, gatP], le := Nat.zero_le _, st := .m0 rfl rfl rfl (fun _ => rfl), snd := fun k hk => absurd hk (Nat.not_lt_zero _), pas := fun k hk => absurd hk (Nat.not_lt_zero _), chd := fun k _ hk => absurd hk (Nat.not_lt_zero _), chn := fun k hk => absurd hk (Nat.not_lt_zero _),
          out := fun y hy _ => ⟨by simp [Abs.start, hy], hy, fun c h => (by cases h)⟩, met := fun i j h => (by cases h), opn := fun i h => (by cases h), u := rfl, has := fun ω => by simp [sumTo, wt_nil] }

/-- ████ GATHER, of goroutine 0 beside leavers. ████ -/
theorem gos_gather {P : Program} {fin : List Value → Own → Goroutine → World → Prop} {g : Goroutine} {w : World} (hrow : ∀ v ∈ rows.flatten, isItem v = true) (hD : Does P w.heap.size fin (gatP zi zd rows) true (fun _ => False) g w) :
    Gos P g w fun g' w' => ∃ own acc, g'.status = .running ∧ (∀ ω, wt ω acc = wt ω rows.flatten) ∧ fin acc own g' w' :=
  gos_phase (J := JG zi zd rows) (gather_holds hrow) (gather_start zi zd rows) hD

/-- Equal weights: the same values, each as often. -/
theorem perm_of_wt {a b : List Value} (h : ∀ ω, wt ω a = wt ω b) : a.Perm b := by
  letI i0 : DecidableEq Value := fun a b => Classical.propDecidable (a = b)
  letI i1 : BEq Value := @instBEqOfDecidableEq Value i0
  haveI i2 : LawfulBEq Value := inferInstance
  rw [List.perm_iff_count]
  intro v
  have hc : ∀ l : List Value, wt (fun x => if x = v then 1 else 0) l = l.count v := fun l => by
    induction l with
    | nil => rfl
    | cons x l ih =>
      rw [wt_cons, ih, List.count_cons]
      by_cases e : x = v
      · subst e; simp; omega
      · simp [e]
  rw [← hc, ← hc]
  exact h _
end
end Go.Gat
