/-
  THE START OF A PHASE: goroutine 0 carries out a term, all others leave.
-/
import Derived.Test.YtjcplblnapcfcaaPhI
set_option linter.unusedSimpArgs false
namespace Go.Gat
open Go.Conc
open Go.ConcN (sumTo upd sumTo_upd upd_ne upd_same)

/-- Goroutine 0 carries 'p' out; all others leave; no channel. -/
def Abs.start (p : Proc) : Abs := { pr := fun i => if i = 0 then p else .quit, pk := fun _ => false, ch := fun _ => none, kn := fun _ y => y ≠ 0 }

section
variable {P : Program} {fin : List Value → Own → Goroutine → World → Prop}

theorem inv_start {p : Proc} {gs : Array Goroutine} {g : Goroutine} {w : World} {t : Trace} {q : Nat → Nat} (h0 : gs[0]? = some g) (hL : Leavers P t gs q) (hP : Past0 t)
    (hD : Does P w.heap.size fin p true (fun _ => False) g w) : ∃ ns, Inv P w.heap.size t.size fin (Abs.start p) gs w t (fun _ _ => False) ns := by
  obtain ⟨B, hP⟩ := hP
  obtain ⟨n, hn⟩ := hD.stand
  have hlt : 0 < gs.size := (Array.getElem?_eq_some_iff.1 h0).1
  refine ⟨fun i => if i = 0 then n else q i, ?_⟩
  refine { stand := fun i y hi => ?_, out := fun j hj => ⟨hL.above j hj, ?_, rfl, fun _ h => h⟩, low := fun _ _ h => h.elim, disj := fun _ _ _ _ h => h.elim, chans := fun c x h => (by cases h), shown := fun i h => (by cases h), room := Nat.le_refl _, tr := ?_, knq := fun x y h => ?_, clq := fun c y h => (by cases h) }
  · by_cases e : i = 0
    · subst e
      rw [h0] at hi
      obtain rfl := Option.some.inj hi
      simp only [Abs.start, if_true, hP.hears]
      exact hn
    · simp only [Abs.start, if_neg e]
      exact ⟨fun _ => ⟨rfl, hL.old i y (by omega) hi⟩, fun h => absurd rfl h⟩
  · simp only [Abs.start]; rw [if_neg (by omega)]
  · refine ⟨hP.clean, Nat.le_refl _, fun i a hi ha hm x hx => ?_, fun i op a hi ho => ?_, fun x y _ i op hi ho => ?_, fun c y h => (by cases h)⟩
    · have : x = 0 := by
        apply Classical.byContradiction
        intro e
        simp only [Abs.start, if_neg e] at hx
        exact hx rfl
      subst this
      exact (hP.known i a ha hm).elim id fun h => h.1.elim
    · exact absurd (lt_size_of_getElem? ho) (by omega)
    · exact absurd (lt_size_of_getElem? ho) (by omega)
  · simp only [Abs.start] at h ⊢
    rw [if_neg h]

/-- A PHASE: from goroutine 0 that carries out 'p'. -/
theorem gosAt_phase {δ : Type} {J : δ → Nat → Abs → Prop} {μ : δ → Nat} {Z : List Value → Prop} (hJ : Holds J μ Z) {p : Proc} {g : Goroutine} {w : World}
    (hstart : ∀ n, 0 < n → ∃ x, J x n (Abs.start p)) (hD : Does P w.heap.size fin p true (fun _ => False) g w) :
    GosAt P g w fun g' w' => ∃ own acc, g'.status = .running ∧ Z acc ∧ fin acc own g' w' := by
  intro gs sl t q h0 hL hPt
  obtain ⟨ns, hI⟩ := inv_start h0 hL hPt hD
  obtain ⟨x, hx⟩ := hstart gs.size (Array.getElem?_eq_some_iff.1 h0).1
  exact phase_run hJ _ x _ gs w sl t _ ns rfl hx hI

theorem gos_phase {δ : Type} {J : δ → Nat → Abs → Prop} {μ : δ → Nat} {Z : List Value → Prop} (hJ : Holds J μ Z) {p : Proc} {g : Goroutine} {w : World}
    (hstart : ∀ n, 0 < n → ∃ x, J x n (Abs.start p)) (hD : Does P w.heap.size fin p true (fun _ => False) g w) :
    Gos P g w fun g' w' => ∃ own acc, g'.status = .running ∧ Z acc ∧ fin acc own g' w' := fun _ _ =>
  gosAt_phase hJ hstart (hD.rely ⟨Nat.le_refl _, fun _ _ _ => rfl, rfl, rfl⟩)
end
end Go.Gat
