/-
  PROTOCOL TERMS, and what it is that a goroutine carries one out ('AtP', 'Nx'): its own steps ('Way') under the rely that the blocks below B and its own blocks stay as they are; what they write is its own, what they read is its own or below B.
-/
import Derived.Test.YtjcplblnapcfcaaPhA
import Derived.Conc.Token
set_option linter.unusedSimpArgs false
namespace Go.Gat
open Go.Conc

inductive Proc : Type
  /-- only leaving -/
  | quit
  /-- the end of the phase, with what has come -/
  | stop (acc : List Value)
  | send (c : Nat) (v z : Value) (k : Proc)
  | recv (c : Nat) (z : Value) (k : Value → Proc) (k0 : Proc)
  | sel (c d : Nat) (zc zd : Value) (kc kd : Value → Proc)
  /-- close, and leave -/
  | close (c : Nat)
  | chan (k : Nat → Proc)
  | go (child k : Proc)
  /-- whatever: never come to -/
  | bad

def Proc.isQuit : Proc → Bool
  | .quit => true
  | _ => false
theorem Proc.isQuit_iff {p : Proc} : p.isQuit = true ↔ p = .quit := by cases p <;> simp [Proc.isQuit]

/-- What it waits with, if it waits. -/
def Proc.offers : Proc → Option (Array CommCase × CommShape)
  | .send c v z _ => some (#[scase c v z], .send)
  | .recv c z _ _ => some (#[rcase c z], .recv true)
  | .sel c d zc zd _ _ => some (#[rcase c zc, rcase d zd], .select)
  | _ => none

abbrev Own := Nat → Prop

structure Rely (B : Nat) (own : Own) (w w₁ : World) : Prop where
  size : w.heap.size ≤ w₁.heap.size
  keep : ∀ b, b < B ∨ own b → b < w.heap.size → w₁.heap[b]? = w.heap[b]?
  os : w₁.os = w.os
  output : w₁.output = w.output
theorem Rely.refl (B : Nat) (own : Own) (w : World) : Rely B own w w := ⟨Nat.le_refl _, fun _ _ _ => rfl, rfl, rfl⟩
theorem Rely.trans {B : Nat} {own : Own} {w w₁ w₂ : World} (h : Rely B own w w₁) (k : Rely B own w₁ w₂) : Rely B own w w₂ :=
  ⟨Nat.le_trans h.size k.size, fun b hb hl => (k.keep b hb (Nat.lt_of_lt_of_le hl h.size)).trans (h.keep b hb hl), k.os.trans h.os, k.output.trans h.output⟩

/-- An access that is allowed. -/
def EvOK (B : Nat) (own : Own) (e : Event) : Prop := ((MemAct.ofEvent e).touch? = none ∧ silent e) ∨ ∃ a wr, e = ⟨.cell a, wr, false⟩ ∧ (own a.block ∨ (wr = false ∧ a.block < B))
theorem EvOK.mono {B : Nat} {own own' : Own} {e : Event} (h : EvOK B own e) (hg : ∀ b, own b → own' b) : EvOK B own' e :=
  h.imp id fun ⟨a, wr, he, ha⟩ => ⟨a, wr, he, ha.imp (hg _) id⟩

theorem evOK_mark {B : Nat} {own : Own} {m : Mark} (h : Neutral m) : EvOK B own ⟨.mark m, false, true⟩ := by
  unfold Neutral at h
  subst h
  exact .inl ⟨rfl, by simp [silent]⟩

/-- What an own step may do. -/
structure Guar (B : Nat) (own own' : Own) (w w' : World) (es : Array Event) : Prop where
  size : w.heap.size ≤ w'.heap.size
  grow : ∀ b, own b → own' b
  new : ∀ b, own' b → own b ∨ (w.heap.size ≤ b ∧ b < w'.heap.size)
  keep : ∀ b, b < w.heap.size → ¬ own b → w'.heap[b]? = w.heap[b]?
  evs : ∀ e ∈ es, EvOK B own' e
  os : w'.os = w.os
  output : w'.output = w.output

def Way (P : Program) (B : Nat) (m : Bool) (T : Own → Goroutine → World → Prop) : Nat → Own → Goroutine → World → Prop
  | 0, own, g, w => ∀ w₁, Rely B own w w₁ → T own g w₁
  | n + 1, own, g, w => (∀ w₁, Rely B own w w₁ → T own g w₁) ∨ (g.status = .running ∧ ∀ w₁, Rely B own w w₁ → ∃ g' w' es own', stepG P m g w₁ = .go g' w' es ∧ g'.status = .running ∧ Guar B own own' w₁ w' es ∧ Way P B m T n own' g' w')

theorem Way.rely {P : Program} {B : Nat} {m : Bool} {T : Own → Goroutine → World → Prop} {n : Nat} {own : Own} {g : Goroutine} {w w₁ : World} (h : Way P B m T n own g w) (hr : Rely B own w w₁) : Way P B m T n own g w₁ := by
  cases n with
  | zero => exact fun w₂ h₂ => h w₂ (hr.trans h₂)
  | succ n => exact h.imp (fun h w₂ h₂ => h w₂ (hr.trans h₂)) fun ⟨h1, h2⟩ => ⟨h1, fun w₂ h₂ => h2 w₂ (hr.trans h₂)⟩
theorem Way.mono {P : Program} {B : Nat} {m : Bool} {T T' : Own → Goroutine → World → Prop} (ht : ∀ own g w, T own g w → T' own g w) : ∀ {n : Nat} {own : Own} {g : Goroutine} {w : World}, Way P B m T n own g w → Way P B m T' n own g w
  | 0, _, _, _, h => fun w₁ h₁ => ht _ _ _ (h w₁ h₁)
  | _ + 1, _, _, _, h => h.imp (fun h w₁ h₁ => ht _ _ _ (h w₁ h₁)) fun ⟨h1, h2⟩ => ⟨h1, fun w₁ h₁ => let ⟨g', w', es, own', a, b, c, d⟩ := h2 w₁ h₁; ⟨g', w', es, own', a, b, c, Way.mono ht d⟩⟩

/-- Its record without what it offered. -/
def bare (g : Goroutine) : Goroutine := { frame := g.frame, callers := g.callers, status := .running, dying := g.dying }
theorem stepG_bare (P : Program) (m : Bool) (g : Goroutine) (w : World) : stepG P m (bare g) w = stepG P m g w := stepG_same rfl rfl rfl w

/-- From here on as 'T' says: a leaver at once, any other by its own way. -/
def Nx (P : Program) (B : Nat) (m : Bool) (quit : Bool) (T : Own → Goroutine → World → Prop) (own : Own) (g : Goroutine) (w : World) : Prop :=
  (quit = true → T own g w) ∧ (quit = false → ∃ n, Way P B m T n own g w)

def AtP (P : Program) (B : Nat) (fin : List Value → Own → Goroutine → World → Prop) : Proc → Bool → Own → Goroutine → World → Prop
  | .quit, _, _, g, _ => ∃ n, QuitsD P n 0 g
  | .bad, _, _, g, _ => g.status = .running
  | .stop acc, _, own, g, w => g.status = .running ∧ fin acc own g w
  | .send c v z k, m, own, g, w => g.status = .running ∧ ∃ es, (∀ e ∈ es, EvOK B own e) ∧ stepG P m g w = .comm (bare g) #[scase c v z] true .send w es ∧
      Nx P B m k.isQuit (AtP P B fin k m) own (Conc.served (bare g) undef) w
  | .recv c z k k0, m, own, g, w => g.status = .running ∧ ∃ es, (∀ e ∈ es, EvOK B own e) ∧ stepG P m g w = .comm (bare g) #[rcase c z] true (.recv true) w es ∧
      (∀ v, Nx P B m (k v).isQuit (AtP P B fin (k v) m) own (Conc.served (bare g) (.tuple #[v, .bool true])) w) ∧ Nx P B m k0.isQuit (AtP P B fin k0 m) own (Conc.served (bare g) (.tuple #[z, .bool false])) w
  | .sel c d zc zd kc kd, m, own, g, w => g.status = .running ∧ ∃ es, (∀ e ∈ es, EvOK B own e) ∧ stepG P m g w = .comm (bare g) #[rcase c zc, rcase d zd] true .select w es ∧
      (∀ v, Nx P B m (kc v).isQuit (AtP P B fin (kc v) m) own (Conc.served (bare g) (.tuple #[goInt 0, .bool true, v, zd])) w) ∧
      (∀ v, Nx P B m (kd v).isQuit (AtP P B fin (kd v) m) own (Conc.served (bare g) (.tuple #[goInt 1, .bool true, zc, v])) w)
  | .close c, m, _, g, w => g.status = .running ∧ mayWake P g = true ∧ ∀ s, w.heap[c]? = some (.chan 0 #[] false s s false) → ∃ g', stepG P m g w = .go g' (w.setChan c 0 #[] true s s false) (closeEvents c) ∧ ∃ n, QuitsD P n 0 g'
  | .chan k, m, own, g, w => g.status = .running ∧ ∃ g', stepG P m g w = .go g' { w with heap := w.heap.push (.chan 0 #[] false 0 0 false) } #[] ∧
      Nx P B m (k w.heap.size).isQuit (AtP P B fin (k w.heap.size) m) own g' { w with heap := w.heap.push (.chan 0 #[] false 0 0 false) }
  | .go ch k, m, own, g, w => g.status = .running ∧ ∃ g' cg es, (∀ e ∈ es, EvOK B own e) ∧ stepG P m g w = .spawn g' cg w es ∧ g'.status = .running ∧
      Nx P B m k.isQuit (AtP P B fin k m) own g' w ∧ Nx P B false ch.isQuit (AtP P B fin ch false) (fun _ => False) cg w

section
variable {P : Program} {B : Nat} {fin : List Value → Own → Goroutine → World → Prop}

/-- It carries 'p' out. -/
def Does (P : Program) (B : Nat) (fin : List Value → Own → Goroutine → World → Prop) (p : Proc) (m : Bool) (own : Own) (g : Goroutine) (w : World) : Prop := Nx P B m p.isQuit (AtP P B fin p m) own g w

theorem Does.rely {p : Proc} {m : Bool} {own : Own} {g : Goroutine} {w w₁ : World} (h : Does P B fin p m own g w) (hr : Rely B own w w₁) : Does P B fin p m own g w₁ :=
  ⟨fun e => by
    have := h.1 e
    rw [Proc.isQuit_iff] at e
    subst e
    exact this, fun e => let ⟨n, hn⟩ := h.2 e; ⟨n, hn.rely hr⟩⟩

/-- It waits to carry 'p' out. -/
structure Waiting (P : Program) (B : Nat) (fin : List Value → Own → Goroutine → World → Prop) (p : Proc) (m : Bool) (own : Own) (g : Goroutine) (w : World) : Prop where
  blocked : g.status = .blocked
  offers : g.offers = p.offers
  some : p.offers.isSome = true
  back : ∀ w₁, Rely B own w w₁ → AtP P B fin p m own (bare g) w₁
theorem Waiting.rely {p : Proc} {m : Bool} {own : Own} {g : Goroutine} {w w₁ : World} (h : Waiting P B fin p m own g w) (hr : Rely B own w w₁) : Waiting P B fin p m own g w₁ :=
  ⟨h.blocked, h.offers, h.some, fun w₂ h₂ => h.back w₂ (hr.trans h₂)⟩

theorem bare_bare (g : Goroutine) : bare (bare g) = bare g := rfl
/-- At a communication: so is the record without its offers. -/
theorem AtP.bare {p : Proc} {m : Bool} {own : Own} {g : Goroutine} {w : World} (h : AtP P B fin p m own g w) (hp : p.offers.isSome = true) : AtP P B fin p m own (bare g) w := by
  cases p <;> simp [Proc.offers] at hp
  all_goals
    unfold AtP at h ⊢
    rw [stepG_bare, bare_bare]
    exact ⟨rfl, h.2⟩

/-- What a communicating goroutine's step is. -/
theorem AtP.comm {p : Proc} {m : Bool} {own : Own} {g : Goroutine} {w : World} {cs : Array CommCase} {sh : CommShape} (h : AtP P B fin p m own g w) (hp : p.offers = some (cs, sh)) :
    g.status = .running ∧ ∃ es, (∀ e ∈ es, EvOK B own e) ∧ stepG P m g w = .comm (Gat.bare g) cs true sh w es := by
  cases p <;> simp [Proc.offers] at hp
  all_goals
    obtain ⟨rfl, rfl⟩ := hp
    unfold AtP at h
    obtain ⟨h1, es, h2, h3, _⟩ := h
    exact ⟨h1, es, h2, h3⟩
end
end Go.Gat
