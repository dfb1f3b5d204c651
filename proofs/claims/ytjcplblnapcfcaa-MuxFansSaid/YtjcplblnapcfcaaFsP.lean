/-
  MuxFans holds: for every input the law returns true, and its arguments read as they did.
-/
import Derived.Test.YtjcplblnapcfcaaLwC
import Derived.Test.YtjcplblnapcfcaaFsC
set_option linter.unusedSimpArgs false
namespace Go.Proofs.Ytjcplblnapcfcaa
open Go Go.Gat Go.Conc Go.RowKit Go.ChangeShapes Go.WideShapes Go.ChangeAt

theorem fans_code (W : World) (n m : Int) : Gwp Try.prog fsB (FsPost W) ⟨#[.int .i64 n, .int .i64 m] ++ Array.replicate 103 undef, []⟩ W := by
  by_cases h : n < -5 ∨ 60 < n ∨ m < 0 ∨ 5 < m
  · exact fans_far W n m h
  · obtain ⟨r, rfl⟩ : ∃ r : Nat, m = r := ⟨m.toNat, by omega⟩
    exact fans_main W n r (by omega) (by omega) (by omega)

set_option maxRecDepth 100000 in
theorem fans_lifted (os : Os) (started : os.Started) (H : Type) (enc : TypeId × Value → H) :
    ReturnsInLeavingWide {} Try.checked os 6 .any (Rows.muxFansSpec.pre6 enc Try.prog Try.f6 Rows.muxFansRow.domain false) (Rows.muxFansSpec.post enc Try.prog Try.f6 false true false false) := by
  refine returnsInLeavingWide_of_change_sized (C := Try.checked) own started Try.func6
    (ChangeSpec.witness6 (enc := enc) (C := Try.checked) false ⟨#[], #[.int .i64 0, .int .i64 0], []⟩ 8 (by kernel_rfl) (by kernel_rfl) (by kernel_rfl) (by kernel_rfl)) ?_
  intro W base args ds gs before hval0 hW _ _ _
  have hval : ∀ (j : Nat) t v, Try.f6.params[j]? = some t → args[j]? = some v → Value.okWide Try.prog W .any base t v := hval0
  have hW' := hW
  obtain ⟨p, q, hA0, _, rfl, _, _⟩ := hW
  have hA : DataW.TrodAll enc Try.prog W 0 (fun _ => true) true Try.f6.params.toList args.toList ds p := hA0
  rw [Try.params6] at hA hval
  obtain ⟨v0, v1, d0, d1, p0, p1, rfl, rfl, rfl, h0, h1⟩ := trodAll_two hA
  obtain ⟨n, rfl⟩ := okWide_int Try.underlying3 (hval 0 3 v0 rfl rfl)
  obtain ⟨m, rfl⟩ := okWide_int Try.underlying3 (hval 1 3 v1 rfl rfl)
  refine law_good (again := false) Try.func6 (c := fsB) rfl (by kernel_rfl) ?_ (by kernel_rfl) rfl (fun ds hds => ?_) rfl hW' ?_
  · intro t ht
    rw [Try.params6] at ht
    simp at ht
    subst ht
    exact ⟨by kernel_rfl, of_decide_eq_true (by kernel_rfl)⟩
  · match ds, hds with
    | [d1, d2], _ => rfl
  · rw [Try.ntmps6]
    exact fans_code W n m

theorem fans_holds : Rows.MuxFansSaid :=
  OpenClaim.holds_of_wide_leaving 6 Try.f6 rfl rfl rfl rfl rfl rfl rfl ⟨rfl, rfl, rfl, rfl, rfl⟩ rfl rfl rfl rfl rfl (by kernel_rfl) Try.func6 (by kernel_rfl)
    (of_decide_eq_true (by kernel_rfl)) (by unfold Func.isWrapper; first | (rw [if_pos (by decide +kernel)]; kernel_rfl) | (rw [if_neg (by decide +kernel)]; exact ⟨rfl, rfl⟩))
    (fun os started H enc _ => fans_lifted os started H enc)
#print axioms fans_holds
end Go.Proofs.Ytjcplblnapcfcaa
