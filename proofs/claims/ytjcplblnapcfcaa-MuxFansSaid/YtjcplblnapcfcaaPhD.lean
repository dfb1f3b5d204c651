/-
  THE CROWD THAT CARRIES OUT PROTOCOL TERMS: its invariant, and one step of it: an own step; or a step of the terms ('ATo').
-/
import Derived.Test.YtjcplblnapcfcaaPhC
set_option linter.unusedSimpArgs false
namespace Go.Gat
open Go.Conc
open Go.ConcN (sumTo upd sumTo_upd upd_ne upd_same)

structure Abs where
  pr : Nat → Proc
  pk : Nat → Bool
  ch : Nat → Option (Option Nat)
  kn : Nat → Nat → Prop

/-- Where one stands. -/
def Stand (P : Program) (B : Nat) (fin : List Value → Own → Goroutine → World → Prop) (p : Proc) (pk m : Bool) (d : Nat) (own : Own) (n : Nat) (g : Goroutine) (w : World) : Prop :=
  (p = .quit → pk = false ∧ QuitsD P n d g) ∧ (p ≠ .quit → d = 0 ∧ (pk = true → Waiting P B fin p m own g w) ∧ (pk = false → Way P B m (AtP P B fin p m) n own g w))

/-- The channels of a waiting term. -/
def Proc.at (p : Proc) (c : Nat) : Prop :=
  match p with
  | .send c' _ _ _ | .recv c' _ _ _ => c = c'
  | .sel c' d' _ _ _ _ => c = c' ∨ c = d'
  | _ => False

structure Inv (P : Program) (B T0 : Nat) (fin : List Value → Own → Goroutine → World → Prop) (A : Abs) (gs : Array Goroutine) (w : World) (t : Trace) (ow : Nat → Own) (ns : Nat → Nat) : Prop where
  stand : ∀ i g, gs[i]? = some g → Stand P B fin (A.pr i) (A.pk i) (i == 0) (Deaf t i) (ow i) (ns i) g w
  out : ∀ j, gs.size ≤ j → Deaf t j = 0 ∧ A.pr j = .quit ∧ A.pk j = false ∧ ∀ b, ¬ ow j b
  low : ∀ i b, ow i b → B ≤ b ∧ b < w.heap.size ∧ A.ch b = none
  disj : ∀ i j b, i ≠ j → ow i b → ¬ ow j b
  chans : ∀ c x, A.ch c = some x → B ≤ c ∧ Chan w c x.isSome
  shown : ∀ i, A.pk i = true → ∀ c, (A.pr i).at c → A.ch c = some none
  room : B ≤ w.heap.size
  tr : TInv B T0 ow (fun i => A.pr i ≠ .quit) A.kn (fun c => (A.ch c).join) t
  knq : ∀ x y, A.kn x y → A.pr y = .quit
  clq : ∀ c y, A.ch c = some (some y) → A.pr y = .quit

section
variable {P : Program} {B T0 : Nat} {fin : List Value → Own → Goroutine → World → Prop} {A : Abs} {gs : Array Goroutine} {w : World} {t : Trace} {ow : Nat → Own} {ns : Nat → Nat}

theorem AtP.running {p : Proc} {m : Bool} {own : Own} {g : Goroutine} (hp : p ≠ .quit) (h : AtP P B fin p m own g w) : g.status = .running := by
  cases p <;> first | exact absurd rfl hp | (unfold AtP at h; first | exact h.1 | exact h)
theorem Way.running {p : Proc} {m : Bool} {own : Own} {g : Goroutine} {n : Nat} (hp : p ≠ .quit) (h : Way P B m (AtP P B fin p m) n own g w) : g.status = .running := by
  cases n with
  | zero => exact (h w (.refl _ _ _)).running hp
  | succ n => exact h.elim (fun h => (h w (.refl _ _ _)).running hp) (·.1)

theorem Stand.cases {p : Proc} {pk m : Bool} {d : Nat} {own : Own} {n : Nat} {g : Goroutine} (h : Stand P B fin p pk m d own n g w) :
    (g.status = .running ∨ g.status = .finished) ∨ (p ≠ .quit ∧ pk = true ∧ Waiting P B fin p m own g w) := by
  by_cases hp : p = .quit
  · exact .inl (h.1 hp).2.status
  · obtain ⟨_, h1, h2⟩ := h.2 hp
    cases pk with
    | true => exact .inr ⟨hp, rfl, h1 rfl⟩
    | false => exact .inl (.inl ((h2 rfl).running hp))

/-- Who waits at open channels waits on. -/
theorem Waiting.again {p : Proc} {m : Bool} {own : Own} {g : Goroutine} {w' : World} (h : Waiting P B fin p m own g w) (ho : ∀ c, p.at c → Chan w' c false) : g.again w' = g := by
  have hb := h.blocked
  have hof := h.offers
  have hs := h.some
  unfold Goroutine.again
  cases p with
  | send c v z k =>
    obtain ⟨s, hc⟩ := ho c rfl
    rw [hof, hb]
    simp [Proc.offers, scase, hc]
  | recv c z k k0 =>
    obtain ⟨s, hc⟩ := ho c rfl
    rw [hof, hb]
    simp [Proc.offers, rcase, hc]
  | sel c e zc zd kc kd =>
    obtain ⟨s, hc⟩ := ho c (.inl rfl)
    obtain ⟨s', hd⟩ := ho e (.inr rfl)
    rw [hof, hb]
    simp [Proc.offers, rcase, hc, hd]
  | _ => simp [Proc.offers] at hs

/-- A step that leaves the channels open wakes nobody. -/
theorem Inv.woken (h : Inv P B T0 fin A gs w t ow ns) {g g' : Goroutine} {w' : World} (hc : ∀ c, A.ch c = some none → Chan w' c false) : gs.map (woken P g g' w') = gs := by
  apply Array.ext_getElem?
  intro j
  rw [Array.getElem?_map]
  cases hj : gs[j]? with
  | none => rfl
  | some o =>
    rcases (h.stand j o hj).cases with h1 | ⟨_, hk, h1⟩
    · simp [woken_calm h1]
    · have : Conc.woken P g g' w' o = o := by
        unfold Conc.woken
        split
        · exact h1.again fun c hcc => hc c (h.shown j hk c hcc)
        · rfl
      simp [this]

theorem Chan.at {w : World} {c : Nat} {cl : Bool} (h : Chan w c cl) (d : Nat) : Chan (w.at d) c cl := h
theorem rely_at (B : Nat) (own : Own) (w : World) (d : Nat) : Rely B own w (w.at d) := ⟨Nat.le_refl _, fun _ _ _ => rfl, rfl, rfl⟩

theorem Stand.rely {p : Proc} {pk m : Bool} {d : Nat} {own : Own} {n : Nat} {g : Goroutine} {w₁ : World} (h : Stand P B fin p pk m d own n g w) (hr : Rely B own w w₁) : Stand P B fin p pk m d own n g w₁ :=
  ⟨h.1, fun hp => let ⟨a, b, c⟩ := h.2 hp; ⟨a, fun e => (b e).rely hr, fun e => (c e).rely hr⟩⟩

theorem Inv.at (h : Inv P B T0 fin A gs w t ow ns) (d : Nat) : Inv P B T0 fin A gs (w.at d) t ow ns :=
  { h with stand := fun i g hi => (h.stand i g hi).rely (rely_at _ _ _ _), low := h.low, chans := h.chans, room := h.room }

/-! ### the steps of the terms -/
/-- 'p' receives v from c. -/
inductive Gets : Proc → Nat → Value → Proc → Prop
  | recv (c z k k0 v) : Gets (.recv c z k k0) c v (k v)
  | fst (c d zc zd kc kd v) : Gets (.sel c d zc zd kc kd) c v (kc v)
  | snd (c d zc zd kc kd v) : Gets (.sel c d zc zd kc kd) d v (kd v)

/-- i could meet j. -/
def Meets (A : Abs) (s r : Nat) : Prop := ∃ c v z k p', A.pr s = .send c v z k ∧ Gets (A.pr r) c v p'

inductive ATo (n : Nat) (A : Abs) : Abs → Nat → Prop
  | park (i : Nat) : i < n → A.pk i = false → (A.pr i).offers.isSome = true → (∀ j, A.pk j = true → ¬ Meets A i j ∧ ¬ Meets A j i) → (∀ c, (A.pr i).at c → A.ch c = some none) →
      ATo n A { A with pk := upd A.pk i true } n
  | meet (s r c : Nat) (v z : Value) (k p' : Proc) (kn' : Nat → Nat → Prop) : s < n → r < n → s ≠ r → A.pr s = .send c v z k → Gets (A.pr r) c v p' → (A.pk s = true ∧ A.pk r = false ∨ A.pk s = false ∧ A.pk r = true) →
      (∀ a b, kn' a b ↔ A.kn a b ∨ (a = r ∧ (A.kn s b ∨ (b = s ∧ k = .quit)))) →
      ATo n A { A with pr := upd (upd A.pr s k) r p', pk := upd (upd A.pk s false) r false, kn := kn' } n
  | shut (i c y : Nat) (z : Value) (k : Value → Proc) (k0 : Proc) (kn' : Nat → Nat → Prop) : i < n → A.pk i = false → A.pr i = .recv c z k k0 → A.ch c = some (some y) → (∀ a b, kn' a b ↔ A.kn a b ∨ (a = i ∧ b = y)) →
      ATo n A { A with pr := upd A.pr i k0, kn := kn' } n
  | close (i c : Nat) (pk' : Nat → Bool) : i < n → A.pk i = false → A.pr i = .close c → (∀ j, pk' j = true ↔ A.pk j = true ∧ ¬ (A.pr j).at c) →
      ATo n A { A with pr := upd A.pr i .quit, ch := upd A.ch c (some (some i)), pk := pk' } n
  | chan (i c : Nat) (k : Nat → Proc) : i < n → A.pk i = false → A.pr i = .chan k → A.ch c = none →
      ATo n A { A with pr := upd A.pr i (k c), ch := upd A.ch c (some none) } n
  | go (ch k : Proc) (kn' : Nat → Nat → Prop) : 0 < n → A.pk 0 = false → A.pr 0 = .go ch k → (∀ a b, kn' a b ↔ A.kn a b ∧ b ≠ n) →
      ATo n A { A with pr := upd (upd A.pr 0 k) n ch, kn := kn' } (n + 1)

/-- What is asked of the terms. -/
structure Wf (n : Nat) (A : Abs) : Prop where
  send : ∀ i c v z k, A.pr i = .send c v z k → A.ch c = some none
  recv : ∀ i c z k k0, A.pr i = .recv c z k k0 → (A.ch c).isSome = true
  sel : ∀ i c d zc zd kc kd, A.pr i = .sel c d zc zd kc kd → A.ch c = some none ∧ A.ch d = some none
  close : ∀ i c, A.pr i = .close c → A.ch c = some none
  go : ∀ i ch k, A.pr i = .go ch k → i = 0
  stop : ∀ i acc, A.pr i = .stop acc → i = 0
  cl : ∀ c, A.ch c ≠ some (some n)
  bad : ∀ i, A.pr i ≠ .bad
end
end Go.Gat
