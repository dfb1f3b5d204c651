/-
  WORDS FOR WALKING A GOROUTINE ON ITS WAY ('Way', PhB): steps that leave the world; steps that read what stays; steps that make a block of its own.
-/
import Derived.Test.YtjcplblnapcfcaaPhO
set_option linter.unusedSimpArgs false
namespace Go.Gat
open Go.Conc

/-- It comes to T by its own steps. -/
def Wy (P : Program) (B : Nat) (m : Bool) (T : Own → Goroutine → World → Prop) (own : Own) (g : Goroutine) (w : World) : Prop := ∃ n, Way P B m T n own g w

section
variable {P : Program} {B : Nat} {m : Bool} {T : Own → Goroutine → World → Prop} {own : Own} {g g' : Goroutine} {w : World}

theorem Wy.rely {w₁ : World} (h : Wy P B m T own g w) (hr : Rely B own w w₁) : Wy P B m T own g w₁ := let ⟨n, hn⟩ := h; ⟨n, hn.rely hr⟩
theorem wy_stop (h : ∀ w₁, Rely B own w w₁ → T own g w₁) : Wy P B m T own g w := ⟨0, h⟩
theorem guar_same {es : Array Event} (hes : ∀ e ∈ es, EvOK B own e) : Guar B own own w w es :=
  ⟨Nat.le_refl _, fun _ h => h, fun _ h => .inl h, fun _ _ _ => rfl, hes, rfl, rfl⟩

/-- A step that leaves the world as it is; what it lists it may. -/
theorem wy_go (hg : g.status = .running) (hg' : g'.status = .running) (h : ∀ w₁, Rely B own w w₁ → ∃ es, stepG P m g w₁ = .go g' w₁ es ∧ ∀ e ∈ es, EvOK B own e) (k : Wy P B m T own g' w) : Wy P B m T own g w := by
  obtain ⟨n, hn⟩ := k
  refine ⟨n + 1, .inr ⟨hg, fun w₁ h₁ => ?_⟩⟩
  obtain ⟨es, h1, h2⟩ := h w₁ h₁
  exact ⟨g', w₁, es, own, h1, hg', guar_same h2, hn.rely h₁⟩
/-- .. and lists nothing, whatever the world. -/
theorem wy_pure (hg : g.status = .running) (hg' : g'.status = .running) (h : ∀ w, stepG P m g w = .go g' w #[]) (k : Wy P B m T own g' w) : Wy P B m T own g w :=
  wy_go hg hg' (fun w₁ _ => ⟨#[], h w₁, by simp⟩) k

/-- A step that makes one block, its own from then on. -/
theorem wy_new {o : Obj} {f : Nat → Goroutine} {n : Nat} (hg : g.status = .running) (hf : ∀ b, (f b).status = .running) (h : ∀ w₁, Rely B own w w₁ → stepG P m g w₁ = .go (f w₁.heap.size) { w₁ with heap := w₁.heap.push o } #[])
    (k : ∀ w₁, Rely B own w w₁ → Way P B m T n (fun b => own b ∨ b = w₁.heap.size) (f w₁.heap.size) { w₁ with heap := w₁.heap.push o }) : Wy P B m T own g w := by
  refine ⟨n + 1, .inr ⟨hg, fun w₁ h₁ => ⟨_, _, #[], fun b => own b ∨ b = w₁.heap.size, h w₁ h₁, hf _, ⟨by simp, fun _ h => .inl h, fun b hb => hb.imp id fun e => ⟨by omega, by simp; omega⟩, fun b hb _ => ?_, by simp, rfl, rfl⟩, k w₁ h₁⟩⟩⟩
  show (w₁.heap.push o)[b]? = _
  rw [Array.getElem?_push, if_neg (by omega)]

/-- A step that writes blocks of its own. -/
theorem wy_own {g' : World → Goroutine} {f : World → World} {es : World → Array Event} {n : Nat} (hg : g.status = .running) (hg' : ∀ w, (g' w).status = .running) (h : ∀ w₁, Rely B own w w₁ → stepG P m g w₁ = .go (g' w₁) (f w₁) (es w₁))
    (hf : ∀ w₁, Rely B own w w₁ → (f w₁).heap.size = w₁.heap.size ∧ (∀ b, ¬ own b → (f w₁).heap[b]? = w₁.heap[b]?) ∧ (∀ e ∈ es w₁, EvOK B own e) ∧ (f w₁).os = w₁.os ∧ (f w₁).output = w₁.output)
    (k : ∀ w₁, Rely B own w w₁ → Way P B m T n own (g' w₁) (f w₁)) : Wy P B m T own g w :=
  ⟨n + 1, .inr ⟨hg, fun w₁ h₁ => ⟨_, _, _, own, h w₁ h₁, hg' _, ⟨by rw [(hf w₁ h₁).1]; exact Nat.le_refl _, fun _ h => h, fun _ h => .inl h, fun b _ hb => (hf w₁ h₁).2.1 b hb, (hf w₁ h₁).2.2.1, (hf w₁ h₁).2.2.2.1, (hf w₁ h₁).2.2.2.2⟩, k w₁ h₁⟩⟩⟩

/-- From the kit's walk in company: own blocks as they are. -/
theorem way_of_goes : ∀ {n : Nat} {g : Goroutine} {w : World}, Goes P m (Rely B own) (fun w w' es => Guar B own own w w' es) (fun g w => g.status = .running ∧ T own g w) n g w → Way P B m T n own g w
  | 0, _, _, h => fun w₁ h₁ => (h w₁ h₁).2
  | n + 1, g, w, h => by
    rcases h with h | ⟨hs, h⟩
    · exact .inl fun w₁ h₁ => (h w₁ h₁).2
    · refine .inr ⟨hs, fun w₁ h₁ => ?_⟩
      obtain ⟨g', w', es, e, hd, hk⟩ := goes_elim (h w₁ h₁)
      refine ⟨g', w', es, own, e, ?_, hd, way_of_goes hk⟩
      cases n with
      | zero => exact (hk w' (.refl _ _ _)).1
      | succ n =>
        rcases hk with hk | ⟨hs', _⟩
        · exact (hk w' (.refl _ _ _)).1
        · exact hs'
end
end Go.Gat
