/-
  MuxGathers holds: for every input the law returns true, and its arguments read as they did.
-/
import Derived.Test.YtjcplblnapcfcaaLwC
import Derived.Test.YtjcplblnapcfcaaGlB
import Derived.Deep.Matrix
set_option linter.unusedSimpArgs false
namespace Go.Proofs.Ytjcplblnapcfcaa
open Go Go.Gat Go.Conc Go.RowKit Go.ChangeShapes Go.WideShapes Go.ChangeAt

theorem cells22 : Try.prog.cellsOf 22 = 1 := by kernel_rfl

theorem add_none (b off n : Nat) : (⟨b, off, none⟩ : Addr).add n = ⟨b, off + n, none⟩ := by unfold Addr.add; split <;> simp_all
theorem spot_none {w : World} {a : Addr} {v : Value} (h : w.cell? (a.add 0) = some v) : ∃ b off, a = ⟨b, off, none⟩ ∧ b < w.heap.size := by
  have hlt := World.block_lt_of_cell? w _ h
  obtain ⟨b, off, spot⟩ := a
  have hsp : spot = none := by
    cases spot with
    | none => rfl
    | some s =>
      simp [Addr.add, World.cell?] at h
      split at h <;> simp at h
  subst hsp
  exact ⟨b, off, rfl, by rw [add_none] at hlt; exact hlt⟩

section
variable {H : Type} {enc : TypeId × Value → H}
set_option maxRecDepth 100000 in
/-- A slice of slices of ints, read. -/
theorem open_rows {W : World} {v : Value} {d : DataW H} {ps : List MemPlace} {base : Nat} (hval : Value.okWide Try.prog W .any base 26 v) (hd : DataW.Trod enc Try.prog W 0 (fun _ => true) true 26 v d ps) :
    ∃ rvs zss, RowsAt W.heap.size v rvs zss W := by
  obtain ⟨a0, len, cap, rfl⟩ := okWide_slice Try.underlying26 hval
  obtain ⟨fuel, hf⟩ := hd
  rcases Deep.open_int_rows Try.underlying26 Try.underlying22 Try.underlying3 cells22 cells3 hf with ⟨hcs, hx⟩ | ⟨a, len', cap', A, L, C, Z, hcs, _, hl, hm, _, hrow⟩
  · simp [Value.cells] at hcs
    obtain ⟨rfl, rfl, rfl⟩ := hcs
    exact ⟨[], [], ⟨none, 0, rfl, fun h => absurd h (by simp)⟩, Nat.le_refl _, rfl, by simp, fun j _ _ h => by simp at h⟩
  · simp [Value.cells] at hcs
    obtain ⟨rfl, rfl, rfl⟩ := hcs
    refine ⟨(List.range len).map fun r => .slice (A r) (L r) (C r), (List.range len).map fun r => (Z r).take (L r), ⟨some a, cap, by simp, fun h0 => ?_⟩, Nat.le_refl _, by simp, by simp; unfold maxLen at hm; omega, fun j rv zs h1 h2 => ?_⟩
    · have h0 : 0 < len := by simpa using h0
      obtain ⟨b, off, rfl, hb⟩ := spot_none (hrow 0 (by omega)).1
      refine ⟨b, off, rfl, hb, fun j x hx => ?_⟩
      simp only [List.getElem?_map, Option.map_eq_some_iff, List.getElem?_eq_some_iff] at hx
      obtain ⟨r, ⟨hj, rfl⟩, rfl⟩ := hx
      have hj' : j < len := by simpa using hj
      have hc := (hrow j (by omega)).1
      rw [add_none] at hc
      simpa using hc
    · simp only [List.getElem?_map, Option.map_eq_some_iff, List.getElem?_eq_some_iff] at h1 h2
      obtain ⟨r, ⟨hj, rfl⟩, rfl⟩ := h1
      obtain ⟨r', ⟨_, rfl⟩, rfl⟩ := h2
      have hj' : j < len := by simpa using hj
      simp only [List.getElem_range]
      obtain ⟨_, hLC, hC, hZ, _, hA, hin⟩ := hrow j (by omega)
      have hlen : ((Z j).take (L j)).length = L j := by simp; omega
      refine ⟨⟨A j, C j, by rw [hlen], fun h0 => ?_⟩, Nat.le_refl _, by rw [hlen]; omega⟩
      rw [hlen] at h0
      cases hAj : A j with
      | none => have := hA hAj; omega
      | some a' =>
        have hin := (hin a' hAj).2
        obtain ⟨b, off, rfl, hb⟩ := spot_none (hin 0 (by omega))
        refine ⟨b, off, rfl, hb, fun i x hx => ?_⟩
        obtain ⟨hi, rfl⟩ := List.getElem?_eq_some_iff.1 hx
        rw [hlen] at hi
        have hc := hin i (by omega)
        rw [add_none] at hc
        rw [hc]
        simp [List.getD, List.getElem?_eq_getElem (show i < (Z j).length by omega)]
end

set_option maxRecDepth 100000 in
theorem gathers_lifted (os : Os) (started : os.Started) (H : Type) (enc : TypeId × Value → H) :
    ReturnsInLeavingWide {} Try.checked os 5 .any (Rows.muxGathersSpec.pre6 enc Try.prog Try.f5 Rows.muxGathersRow.domain false) (Rows.muxGathersSpec.post enc Try.prog Try.f5 false true false false) := by
  refine returnsInLeavingWide_of_change_sized (C := Try.checked) own started Try.func5
    (ChangeSpec.witness6 (enc := enc) (C := Try.checked) false ⟨#[], #[.slice none 0 0], []⟩ 8 (by kernel_rfl) (by kernel_rfl) (by kernel_rfl) (by kernel_rfl)) ?_
  intro W base args ds gs before hval0 hW _ _ _
  have hval : ∀ (j : Nat) t v, Try.f5.params[j]? = some t → args[j]? = some v → Value.okWide Try.prog W .any base t v := hval0
  have hW' := hW
  obtain ⟨p, q, hA0, _, rfl, _, _⟩ := hW
  have hA : DataW.TrodAll enc Try.prog W 0 (fun _ => true) true Try.f5.params.toList args.toList ds p := hA0
  rw [Try.params5] at hA hval
  obtain ⟨v0, d0, rfl, rfl, h0⟩ := trodAll_one hA
  obtain ⟨rvs, zss, hR⟩ := open_rows (hval 0 26 v0 rfl rfl) h0
  refine law_good (again := false) Try.func5 (c := glB) rfl (by kernel_rfl) ?_ (by kernel_rfl) rfl (fun ds hds => ?_) rfl hW' ?_
  · intro t ht
    rw [Try.params5] at ht
    simp at ht
    subst ht
    exact ⟨by kernel_rfl, of_decide_eq_true (by kernel_rfl)⟩
  · match ds, hds with
    | [d1], _ => rfl
  · rw [Try.ntmps5]
    exact gathers_main hR

theorem gathers_holds : Rows.MuxGathersSaid :=
  OpenClaim.holds_of_wide_leaving 5 Try.f5 rfl rfl rfl rfl rfl rfl rfl ⟨rfl, rfl, rfl, rfl, rfl⟩ rfl rfl rfl rfl rfl (by kernel_rfl) Try.func5 (by kernel_rfl)
    (of_decide_eq_true (by kernel_rfl)) (by unfold Func.isWrapper; first | (rw [if_pos (by decide +kernel)]; kernel_rfl) | (rw [if_neg (by decide +kernel)]; exact ⟨rfl, rfl⟩))
    (fun os started H enc _ => gathers_lifted os started H enc)
#print axioms gathers_holds
end Go.Proofs.Ytjcplblnapcfcaa
