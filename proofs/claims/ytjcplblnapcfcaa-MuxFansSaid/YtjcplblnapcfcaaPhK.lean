/-
  GATHER's TERMS: n senders, n passers, and who gathers; their invariant.
-/
import Derived.Test.YtjcplblnapcfcaaPhJ
set_option linter.unusedSimpArgs false
namespace Go.Gat
open Go.Conc
open Go.ConcN (sumTo upd sumTo_upd upd_ne upd_same sumTo_congr)

/-! ### the terms -/
def isOne : Value → Bool
  | .int .i64 n => n == 1
  | _ => false
def one : Value := .int .i64 1
/-- Three cells. -/
def isItem : Value → Bool
  | .agg c => c.size == 3 && c.all (·.oneCell')
  | _ => false
/-- What a send bears for a zero. -/
def zs : Value := .tuple #[]

section
variable (zi zd : Value)
def sndP (c : Nat) : List Value → Proc
  | [] => .close c
  | v :: vs => .send c v zs (sndP c vs)
def pasP (c all dn : Nat) : Nat → Proc
  | 0 => .recv c zi (fun _ => .bad) (.send dn one zs .quit)
  | m + 1 => .recv c zi (fun v => if isItem v then .send all v zs (pasP c all dn m) else .bad) (.send dn one zs .quit)
def selP (all dn : Nat) : Nat → Nat → List Value → Proc
  | _, 0, acc => .stop acc
  | 0, _ + 1, _ => .bad
  | f + 1, left + 1, acc => .sel all dn zi zd (fun v => if isItem v then selP all dn f (left + 1) (acc ++ [v]) else .bad) (fun d => if isOne d then selP all dn f left acc else .bad)
def spnP (all dn f n : Nat) : List (List Value) → Proc
  | [] => selP zi zd all dn f n []
  | r :: rs => .chan fun c => .go (sndP c r) (.go (pasP zi c all dn r.length) (spnP all dn f n rs))
def gatP (rows : List (List Value)) : Proc :=
  .chan fun all => .chan fun dn => spnP zi zd all dn (rows.flatten.length + rows.length) rows.length rows

/-! ### the record -/
inductive Ph
  | R | H (v : Value) | D | Q

structure GS where
  n0 : Nat
  all : Nat
  dn : Nat
  /-- pairs whose two goroutines are started -/
  m : Nat
  c : Nat → Nat
  vs : Nat → List Value
  ph : Nat → Ph
  cl : Nat → Bool
  acc : List Value
  u : Nat

/-- The sender at place a over c: it has 'vs' to send; it has closed c. -/
structure SndOK (A : Abs) (a c : Nat) (vs : List Value) (cl : Bool) : Prop where
  live : cl = false → A.pr a = sndP c vs ∧ A.ch c = some none
  gone : cl = true → A.pr a = .quit ∧ vs = [] ∧ A.ch c = some (some a)

/-- The passer at place b, its sender at a. -/
def PasOK (A : Abs) (a b c all dn : Nat) (len : Nat) (cl : Bool) : Ph → Prop
  | .R => A.pr b = pasP zi c all dn len
  | .H v => A.pr b = .send all v zs (pasP zi c all dn len)
  | .D => A.pr b = .send dn one zs .quit ∧ cl = true ∧ A.kn b a
  | .Q => A.pr b = .quit ∧ cl = true ∧ A.kn 0 a ∧ A.kn 0 b

/-- What a pair has still to hand over. -/
def GS.pend (x : GS) (k : Nat) : List Value := match x.ph k with
  | .H v => v :: x.vs k
  | _ => x.vs k
def wt (ω : Value → Nat) (l : List Value) : Nat := (l.map ω).sum
theorem wt_append (ω : Value → Nat) (a b : List Value) : wt ω (a ++ b) = wt ω a + wt ω b := by simp [wt]
theorem wt_cons (ω : Value → Nat) (v : Value) (b : List Value) : wt ω (v :: b) = ω v + wt ω b := by simp [wt]
theorem wt_nil (ω : Value → Nat) : wt ω [] = 0 := rfl
theorem wt_len (l : List Value) : wt (fun _ => 1) l = l.length := by
  induction l with
  | nil => rfl
  | cons v l ih => rw [wt_cons, ih, List.length_cons]; omega

def Ph.open : Ph → Nat
  | .Q => 0
  | _ => 1
/-- The steps that a pair has still ahead. -/
def wOf (vs : List Value) (cl : Bool) (ph : Ph) : Nat := 2 * vs.length + (if cl then 0 else 1) + (match ph with | .R => 2 | .H _ => 3 | .D => 1 | .Q => 0)
def GS.weight (x : GS) (k : Nat) : Nat := wOf (x.vs k) (x.cl k) (x.ph k)

variable (rows : List (List Value))
/-- What goroutine 0 is at; the steps that are not any pair's. -/
inductive St (x : GS) (n : Nat) (A : Abs) : Nat → Prop
  | m0 : A.pr 0 = gatP zi zd rows → x.m = 0 → n = x.n0 → (∀ c, A.ch c = none) → St x n A (2 + wt (fun _ => 2) rows.flatten + 6 * rows.length)
  | m1 : A.pr 0 = .chan (fun dn => spnP zi zd x.all dn (rows.flatten.length + rows.length) rows.length rows) → x.m = 0 → n = x.n0 → A.ch x.all = some none → St x n A (1 + wt (fun _ => 2) rows.flatten + 6 * rows.length)
  | s : x.m < rows.length → A.pr 0 = spnP zi zd x.all x.dn (rows.flatten.length + rows.length) rows.length (rows.drop x.m) → n = x.n0 + 2 * x.m → A.ch x.all = some none → A.ch x.dn = some none → x.all ≠ x.dn → x.acc = [] → (∀ k, k < x.m → (x.ph k).open = 1) →
      St x n A (wt (fun _ => 2) (rows.drop x.m).flatten + 6 * (rows.drop x.m).length)
  | s1 (c : Nat) (r : List Value) (rs : List (List Value)) : rows.drop x.m = r :: rs → A.pr 0 = .go (sndP c r) (.go (pasP zi c x.all x.dn r.length) (spnP zi zd x.all x.dn (rows.flatten.length + rows.length) rows.length rs)) → n = x.n0 + 2 * x.m →
      A.ch x.all = some none → A.ch x.dn = some none → x.all ≠ x.dn → x.acc = [] → (∀ k, k < x.m → (x.ph k).open = 1) → A.ch c = some none → c ≠ x.all → c ≠ x.dn → (∀ k, k < x.m → c ≠ x.c k) →
      St x n A (2 * r.length + 5 + wt (fun _ => 2) rs.flatten + 6 * rs.length)
  | s2 (c : Nat) (r : List Value) (rs : List (List Value)) (cl : Bool) : rows.drop x.m = r :: rs → A.pr 0 = .go (pasP zi c x.all x.dn r.length) (spnP zi zd x.all x.dn (rows.flatten.length + rows.length) rows.length rs) → n = x.n0 + 2 * x.m + 1 →
      A.ch x.all = some none → A.ch x.dn = some none → x.all ≠ x.dn → x.acc = [] → (∀ k, k < x.m → (x.ph k).open = 1) → SndOK A (x.n0 + 2 * x.m) c r cl → c ≠ x.all → c ≠ x.dn → (∀ k, k < x.m → c ≠ x.c k) →
      St x n A (2 * r.length + (if cl then 0 else 1) + 3 + wt (fun _ => 2) rs.flatten + 6 * rs.length)
  | l (f left : Nat) : x.m = rows.length → A.pr 0 = selP zi zd x.all x.dn f left x.acc → n = x.n0 + 2 * x.m → A.ch x.all = some none → A.ch x.dn = some none → x.all ≠ x.dn →
      left = sumTo x.m (fun k => (x.ph k).open) → f = sumTo x.m (fun k => wt (fun _ => 1) (x.pend k)) + left → St x n A 0

structure JG (x : GS × Nat) (n : Nat) (A : Abs) : Prop where
  n0 : 0 < x.1.n0
  main : A.pr 0 ≠ .quit
  le : x.1.m ≤ rows.length
  st : St zi zd rows x.1 n A x.2
  snd : ∀ k, k < x.1.m → SndOK A (x.1.n0 + 2 * k) (x.1.c k) (x.1.vs k) (x.1.cl k)
  pas : ∀ k, k < x.1.m → PasOK zi A (x.1.n0 + 2 * k) (x.1.n0 + 2 * k + 1) (x.1.c k) x.1.all x.1.dn (x.1.vs k).length (x.1.cl k) (x.1.ph k)
  chd : ∀ k k', k < x.1.m → k' < x.1.m → k ≠ k' → x.1.c k ≠ x.1.c k'
  chn : ∀ k, k < x.1.m → x.1.c k ≠ x.1.all ∧ x.1.c k ≠ x.1.dn
  out : ∀ y, y ≠ 0 → y < x.1.n0 ∨ n ≤ y → A.pr y = .quit ∧ A.kn 0 y ∧ ∀ c, A.ch c ≠ some (some y)
  met : ∀ i j, A.pk i = true → A.pk j = true → ¬ Meets A i j
  opn : ∀ i, A.pk i = true → (A.pr i).offers.isSome = true ∧ ∀ c, (A.pr i).at c → A.ch c = some none
  u : x.1.u = sumTo n (fun i => if A.pk i then 0 else 1)
  has : ∀ ω, wt ω x.1.acc + sumTo x.1.m (fun k => wt ω (x.1.pend k)) + wt ω (rows.drop x.1.m).flatten = wt ω rows.flatten

/-- The measure. -/
def GS.mu (x : GS × Nat) : Nat := 2 * (x.2 + sumTo x.1.m x.1.weight) + x.1.u

theorem selP_ne_quit {all dn f left : Nat} {acc : List Value} : selP zi zd all dn f left acc ≠ .quit := by
  cases f <;> cases left <;> simp [selP]
theorem sndP_ne_quit {c : Nat} {l : List Value} : sndP c l ≠ .quit := by cases l <;> simp [sndP]
theorem pasP_ne_quit {c all dn m : Nat} : pasP zi c all dn m ≠ .quit := by cases m <;> simp [pasP]

variable {zi zd rows}
/-- Who is not only leaving. -/
theorem JG.who {x : GS × Nat} {n : Nat} {A : Abs} (h : JG zi zd rows x n A) {i : Nat} (hi : A.pr i ≠ .quit) :
    i = 0 ∨ (∃ k, k < x.1.m ∧ i = x.1.n0 + 2 * k ∧ x.1.cl k = false) ∨ (∃ k, k < x.1.m ∧ i = x.1.n0 + 2 * k + 1 ∧ (x.1.ph k).open = 1) ∨ (i = x.1.n0 + 2 * x.1.m ∧ n = x.1.n0 + 2 * x.1.m + 1) := by
  by_cases h0 : i = 0
  · exact .inl h0
  have h1 : x.1.n0 ≤ i ∧ i < n := by
    constructor
    · apply Classical.byContradiction
      intro e
      exact hi (h.out i h0 (.inl (by omega))).1
    · apply Classical.byContradiction
      intro e
      exact hi (h.out i h0 (.inr (by omega))).1
  have hn : n ≤ x.1.n0 + 2 * x.1.m + 1 := by
    obtain ⟨W, hW⟩ : ∃ W, St zi zd rows x.1 n A W := ⟨_, h.st⟩
    cases hW <;> omega
  have hcase : (∃ k, i = x.1.n0 + 2 * k) ∨ ∃ k, i = x.1.n0 + 2 * k + 1 := by
    rcases Nat.mod_two_eq_zero_or_one (i - x.1.n0) with e | e
    · exact .inl ⟨(i - x.1.n0) / 2, by omega⟩
    · exact .inr ⟨(i - x.1.n0) / 2, by omega⟩
  rcases hcase with ⟨k, hk⟩ | ⟨k, hk⟩
  · by_cases hkm : k < x.1.m
    · refine .inr (.inl ⟨k, hkm, hk, ?_⟩)
      cases e : x.1.cl k with
      | false => rfl
      | true => exact absurd (hk ▸ ((h.snd k hkm).gone e).1) hi
    · exact .inr (.inr (.inr ⟨by omega, by omega⟩))
  · have hkm : k < x.1.m := by omega
    refine .inr (.inr (.inl ⟨k, hkm, hk, ?_⟩))
    have hp := h.pas k hkm
    cases e : x.1.ph k with
    | Q => rw [e] at hp; exact absurd (hk ▸ hp.1) hi
    | _ => rfl

theorem JG.chans {x : GS × Nat} {n : Nat} {A : Abs} (h : JG zi zd rows x n A) (hm : 0 < x.1.m) : A.ch x.1.all = some none ∧ A.ch x.1.dn = some none ∧ x.1.all ≠ x.1.dn := by
  obtain ⟨W, hW⟩ : ∃ W, St zi zd rows x.1 n A W := ⟨_, h.st⟩
  cases hW with
  | m0 _ e => omega
  | m1 _ e => omega
  | s _ _ _ a b c => exact ⟨a, b, c⟩
  | s1 _ _ _ _ _ _ a b c => exact ⟨a, b, c⟩
  | s2 _ _ _ _ _ _ _ a b c => exact ⟨a, b, c⟩
  | l _ _ _ _ _ a b c => exact ⟨a, b, c⟩

/-- What goroutine 0's term is. -/
theorem JG.main0 {x : GS × Nat} {n : Nat} {A : Abs} (h : JG zi zd rows x n A) :
    (∃ k, A.pr 0 = .chan k) ∨ (∃ a b, A.pr 0 = .go a b) ∨ (∃ acc, A.pr 0 = .stop acc) ∨
    ∃ f left, x.1.m = rows.length ∧ A.pr 0 = .sel x.1.all x.1.dn zi zd (fun v => if isItem v then selP zi zd x.1.all x.1.dn f (left + 1) (x.1.acc ++ [v]) else .bad) (fun d => if isOne d then selP zi zd x.1.all x.1.dn f left x.1.acc else .bad) ∧
      A.ch x.1.all = some none ∧ A.ch x.1.dn = some none ∧ x.1.all ≠ x.1.dn := by
  obtain ⟨W, hW⟩ : ∃ W, St zi zd rows x.1 n A W := ⟨_, h.st⟩
  cases hW with
  | m0 e => exact .inl ⟨_, e⟩
  | m1 e => exact .inl ⟨_, e⟩
  | s hlt e =>
    obtain ⟨r, rs, hr⟩ : ∃ r rs, rows.drop x.1.m = r :: rs := by
      cases hd : rows.drop x.1.m with
      | nil => have := congrArg List.length hd; simp at this; omega
      | cons r rs => exact ⟨r, rs, rfl⟩
    rw [hr, spnP] at e
    exact .inl ⟨_, e⟩
  | s1 _ _ _ _ e => exact .inr (.inl ⟨_, _, e⟩)
  | s2 _ _ _ _ _ e => exact .inr (.inl ⟨_, _, e⟩)
  | l f left hm e _ a b c hl hf =>
    cases left with
    | zero => exact .inr (.inr (.inl ⟨x.1.acc, by rw [e]; cases f <;> rfl⟩))
    | succ left =>
      cases f with
      | zero => omega
      | succ f => exact .inr (.inr (.inr ⟨f, left, hm, e, a, b, c⟩))

/-- Whose term is what. -/
theorem JG.term {x : GS × Nat} {n : Nat} {A : Abs} (h : JG zi zd rows x n A) {i : Nat} (hi : A.pr i ≠ .quit) : i = 0 ∨
    (∃ c l, A.pr i = sndP c l ∧ A.ch c = some none ∧ ((∃ k, k < x.1.m ∧ i = x.1.n0 + 2 * k ∧ x.1.cl k = false ∧ c = x.1.c k ∧ l = x.1.vs k) ∨
      (i = x.1.n0 + 2 * x.1.m ∧ n = x.1.n0 + 2 * x.1.m + 1 ∧ c ≠ x.1.all ∧ c ≠ x.1.dn ∧ ∀ k, k < x.1.m → c ≠ x.1.c k))) ∨
    (∃ k, k < x.1.m ∧ i = x.1.n0 + 2 * k + 1 ∧ x.1.ph k = .R ∧ A.pr i = pasP zi (x.1.c k) x.1.all x.1.dn (x.1.vs k).length) ∨
    (∃ k v, k < x.1.m ∧ i = x.1.n0 + 2 * k + 1 ∧ x.1.ph k = .H v ∧ A.pr i = .send x.1.all v zs (pasP zi (x.1.c k) x.1.all x.1.dn (x.1.vs k).length)) ∨
    (∃ k, k < x.1.m ∧ i = x.1.n0 + 2 * k + 1 ∧ x.1.ph k = .D ∧ A.pr i = .send x.1.dn one zs .quit ∧ x.1.cl k = true ∧ A.kn i (x.1.n0 + 2 * k)) := by
  rcases h.who hi with h0 | ⟨k, hk, e, hc⟩ | ⟨k, hk, e, ho⟩ | ⟨e, hn⟩
  · exact .inl h0
  · obtain ⟨h1, h2⟩ := (h.snd k hk).live hc
    exact .inr (.inl ⟨_, _, e ▸ h1, h2, .inl ⟨k, hk, e, hc, rfl, rfl⟩⟩)
  · have hp := h.pas k hk
    cases e2 : x.1.ph k with
    | R => rw [e2] at hp; exact .inr (.inr (.inl ⟨k, hk, e, e2, e ▸ hp⟩))
    | H v => rw [e2] at hp; exact .inr (.inr (.inr (.inl ⟨k, v, hk, e, e2, e ▸ hp⟩)))
    | D => rw [e2] at hp; exact .inr (.inr (.inr (.inr ⟨k, hk, e, e2, e ▸ hp.1, hp.2.1, e ▸ hp.2.2⟩)))
    | Q => rw [e2] at ho; cases ho
  · obtain ⟨W, hW⟩ : ∃ W, St zi zd rows x.1 n A W := ⟨_, h.st⟩
    cases hW with
    | s2 c r rs cl _ _ _ _ _ _ _ _ hs h1 h2 h3 =>
      cases cl with
      | true => exact absurd (e ▸ (hs.gone rfl).1) hi
      | false =>
        obtain ⟨h4, h5⟩ := hs.live rfl
        exact .inr (.inl ⟨c, r, e ▸ h4, h5, .inr ⟨e, hn, h1, h2, h3⟩⟩)
    | _ => omega

theorem JG.wf {x : GS × Nat} {n : Nat} {A : Abs} (h : JG zi zd rows x n A) : Wf n A := by
  have hne : ∀ {i p}, A.pr i = p → p ≠ .quit → A.pr i ≠ .quit := fun e h => e ▸ h
  refine ⟨fun i c v z k e => ?_, fun i c z k k0 e => ?_, fun i c d zc zd' kc kd e => ?_, fun i c e => ?_, fun i ch k e => ?_, fun i acc e => ?_, fun c => ?_, fun i e => ?_⟩
  · rcases h.term (i := i) (by rw [e]; simp) with rfl | ⟨c', l, e2, hc, _⟩ | ⟨k', _, _, _, e2⟩ | ⟨k', v', hk, _, _, e2⟩ | ⟨k', hk, _, _, e2, _⟩
    · rcases h.main0 with ⟨_, e2⟩ | ⟨_, _, e2⟩ | ⟨_, e2⟩ | ⟨_, _, _, e2, _⟩ <;> rw [e] at e2 <;> cases e2
    · rw [e] at e2
      cases l with
      | nil => cases e2
      | cons v' l => simp only [sndP, Proc.send.injEq] at e2; rw [e2.1]; exact hc
    · rw [e] at e2
      generalize (x.1.vs k').length = len at e2
      cases len <;> cases e2
    · rw [e] at e2; cases e2; exact (h.chans (by omega)).1
    · rw [e] at e2; cases e2; exact (h.chans (by omega)).2.1
  · rcases h.term (i := i) (by rw [e]; simp) with rfl | ⟨c', l, e2, hc, _⟩ | ⟨k', hk, _, _, e2⟩ | ⟨k', v', hk, _, _, e2⟩ | ⟨k', hk, _, _, e2, _⟩
    · rcases h.main0 with ⟨_, e2⟩ | ⟨_, _, e2⟩ | ⟨_, e2⟩ | ⟨_, _, _, e2, _⟩ <;> rw [e] at e2 <;> cases e2
    · rw [e] at e2
      cases l <;> cases e2
    · rw [e] at e2
      have hcc : c = x.1.c k' := by
        generalize (x.1.vs k').length = len at e2
        cases len <;> (simp only [pasP, Proc.recv.injEq] at e2; exact e2.1)
      subst hcc
      cases hcl : x.1.cl k' with
      | false => rw [((h.snd k' hk).live hcl).2]; rfl
      | true => rw [((h.snd k' hk).gone hcl).2.2]; rfl
    · rw [e] at e2; cases e2
    · rw [e] at e2; cases e2
  · rcases h.term (i := i) (by rw [e]; simp) with rfl | ⟨c', l, e2, hc, _⟩ | ⟨k', hk, _, _, e2⟩ | ⟨k', v', hk, _, _, e2⟩ | ⟨k', hk, _, _, e2, _⟩
    · rcases h.main0 with ⟨_, e2⟩ | ⟨_, _, e2⟩ | ⟨_, e2⟩ | ⟨_, _, _, e2, a, b, _⟩ <;> rw [e] at e2
      · cases e2
      · cases e2
      · cases e2
      · simp only [Proc.sel.injEq] at e2
        rw [e2.1, e2.2.1]; exact ⟨a, b⟩
    · rw [e] at e2; cases l <;> cases e2
    · rw [e] at e2
      generalize (x.1.vs k').length = len at e2
      cases len <;> cases e2
    · rw [e] at e2; cases e2
    · rw [e] at e2; cases e2
  · rcases h.term (i := i) (by rw [e]; simp) with rfl | ⟨c', l, e2, hc, _⟩ | ⟨k', hk, _, _, e2⟩ | ⟨k', v', hk, _, _, e2⟩ | ⟨k', hk, _, _, e2, _⟩
    · rcases h.main0 with ⟨_, e2⟩ | ⟨_, _, e2⟩ | ⟨_, e2⟩ | ⟨_, _, _, e2, _⟩ <;> rw [e] at e2 <;> cases e2
    · rw [e] at e2
      cases l with
      | nil => simp only [sndP, Proc.close.injEq] at e2; rw [e2]; exact hc
      | cons v' l => cases e2
    · rw [e] at e2
      generalize (x.1.vs k').length = len at e2
      cases len <;> cases e2
    · rw [e] at e2; cases e2
    · rw [e] at e2; cases e2
  · rcases h.term (i := i) (by rw [e]; simp) with rfl | ⟨c', l, e2, hc, _⟩ | ⟨k', hk, _, _, e2⟩ | ⟨k', v', hk, _, _, e2⟩ | ⟨k', hk, _, _, e2, _⟩
    · rfl
    · rw [e] at e2; cases l <;> cases e2
    · rw [e] at e2
      generalize (x.1.vs k').length = len at e2
      cases len <;> cases e2
    · rw [e] at e2; cases e2
    · rw [e] at e2; cases e2
  · rcases h.term (i := i) (by rw [e]; simp) with rfl | ⟨c', l, e2, hc, _⟩ | ⟨k', hk, _, _, e2⟩ | ⟨k', v', hk, _, _, e2⟩ | ⟨k', hk, _, _, e2, _⟩
    · rfl
    · rw [e] at e2; cases l <;> cases e2
    · rw [e] at e2
      generalize (x.1.vs k').length = len at e2
      cases len <;> cases e2
    · rw [e] at e2; cases e2
    · rw [e] at e2; cases e2
  · have hn : 0 < n := by
      have := h.n0
      obtain ⟨W, hW⟩ : ∃ W, St zi zd rows x.1 n A W := ⟨_, h.st⟩
      cases hW <;> omega
    exact (h.out n (by omega) (.inr (Nat.le_refl _))).2.2 c
  · rcases h.term (i := i) (by rw [e]; simp) with rfl | ⟨c', l, e2, hc, _⟩ | ⟨k', hk, _, _, e2⟩ | ⟨k', v', hk, _, _, e2⟩ | ⟨k', hk, _, _, e2, _⟩
    · rcases h.main0 with ⟨_, e2⟩ | ⟨_, _, e2⟩ | ⟨_, e2⟩ | ⟨_, _, _, e2, _⟩ <;> rw [e] at e2 <;> cases e2
    · rw [e] at e2; cases l <;> cases e2
    · rw [e] at e2
      generalize (x.1.vs k').length = len at e2
      cases len <;> cases e2
    · rw [e] at e2; cases e2
    · rw [e] at e2; cases e2
end
end Go.Gat
