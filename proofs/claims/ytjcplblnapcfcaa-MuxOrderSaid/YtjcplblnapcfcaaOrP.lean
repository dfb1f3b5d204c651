/-
  MuxOrder holds: for every input the law returns true, and its arguments read as they did.
-/
import Derived.Test.YtjcplblnapcfcaaLwC
import Derived.Test.YtjcplblnapcfcaaLoB
set_option linter.unusedSimpArgs false
namespace Go.Proofs.Ytjcplblnapcfcaa
open Go Go.Gat Go.Conc Go.RowKit Go.ChangeShapes Go.WideShapes Go.ChangeAt

theorem order_code {W : World} {a0 b0 : Option Addr} {za zb : List Int} {room : Int} (ca cb : Nat) (ha : IntsAt W W.heap.size a0 za) (hb : IntsAt W W.heap.size b0 zb) (hn : za.length ≤ 9223372036854775807) (hm : zb.length ≤ 9223372036854775807) :
    Gwp Try.prog orB (OrPost W) ⟨#[.slice a0 za.length ca, .slice b0 zb.length cb, .int .i64 room] ++ Array.replicate 181 undef, []⟩ W := by
  by_cases h : 500 < za.length ∨ 500 < zb.length ∨ room < 0 ∨ 1000 < room
  · exact order_far W a0 b0 za.length zb.length ca cb room hn hm h
  · obtain ⟨r, rfl⟩ : ∃ r : Nat, room = r := ⟨room.toNat, by omega⟩
    exact order_main a0 b0 ca cb (by omega) (by omega) (by omega) ha hb

set_option maxRecDepth 100000 in
theorem order_lifted (os : Os) (started : os.Started) (H : Type) (enc : TypeId × Value → H) :
    ReturnsInLeavingWide {} Try.checked os 4 .any (Rows.muxOrderSpec.pre6 enc Try.prog Try.f4 Rows.muxOrderRow.domain false) (Rows.muxOrderSpec.post enc Try.prog Try.f4 false true false false) := by
  refine returnsInLeavingWide_of_change_sized (C := Try.checked) own started Try.func4
    (ChangeSpec.witness6 (enc := enc) (C := Try.checked) false ⟨#[], #[.slice none 0 0, .slice none 0 0, .int .i64 0], []⟩ 8 (by kernel_rfl) (by kernel_rfl) (by kernel_rfl) (by kernel_rfl)) ?_
  intro W base args ds gs before hval0 hW _ _ _
  have hval : ∀ (j : Nat) t v, Try.f4.params[j]? = some t → args[j]? = some v → Value.okWide Try.prog W .any base t v := hval0
  have hW' := hW
  have hlt : ∀ x ∈ before, x.block < W.heap.size := hW'.lt
  obtain ⟨p, q, hA0, _, rfl, _, _⟩ := hW
  have hA : DataW.TrodAll enc Try.prog W 0 (fun _ => true) true Try.f4.params.toList args.toList ds p := hA0
  rw [Try.params4] at hA hval
  obtain ⟨v0, v1, v2, d0, d1, d2, p0, p1, p2, rfl, rfl, rfl, h0, h1, h2⟩ := trodAll_three hA
  obtain ⟨a0, ca, za, rfl, ha, hna⟩ := open_at (hval 0 22 v0 rfl rfl) h0 (fun x hx => hlt x (by simp [hx]))
  obtain ⟨b0, cb, zb, rfl, hb, hnb⟩ := open_at (hval 1 22 v1 rfl rfl) h1 (fun x hx => hlt x (by simp [hx]))
  obtain ⟨room, rfl⟩ := okWide_int Try.underlying3 (hval 2 3 v2 rfl rfl)
  refine law_good (again := false) Try.func4 (c := orB) rfl (by kernel_rfl) ?_ (by kernel_rfl) rfl (fun ds hds => ?_) rfl hW' ?_
  · intro t ht
    rw [Try.params4] at ht
    simp at ht
    rcases ht with rfl | rfl <;> exact ⟨by kernel_rfl, of_decide_eq_true (by kernel_rfl)⟩
  · match ds, hds with
    | [d1, d2, d3], _ => rfl
  · rw [Try.ntmps4]
    exact order_code ca cb ha hb hna hnb

theorem order_holds : Rows.MuxOrderSaid :=
  OpenClaim.holds_of_wide_leaving 4 Try.f4 rfl rfl rfl rfl rfl rfl rfl ⟨rfl, rfl, rfl, rfl, rfl⟩ rfl rfl rfl rfl rfl (by kernel_rfl) Try.func4 (by kernel_rfl)
    (of_decide_eq_true (by kernel_rfl)) (by unfold Func.isWrapper; first | (rw [if_pos (by decide +kernel)]; kernel_rfl) | (rw [if_neg (by decide +kernel)]; exact ⟨rfl, rfl⟩))
    (fun os started H enc _ => order_lifted os started H enc)
#print axioms order_holds
end Go.Proofs.Ytjcplblnapcfcaa
