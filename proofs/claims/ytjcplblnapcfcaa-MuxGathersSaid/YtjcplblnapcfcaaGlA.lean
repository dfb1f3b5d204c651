/-
  MuxGathers: 'total'.
-/
import Derived.Test.YtjcplblnapcfcaaFnA
set_option linter.unusedSimpArgs false
namespace Go.Proofs.Ytjcplblnapcfcaa
open Go Go.Gat Go.Conc Go.RowKit

/-- Sum of three, from what is at most 500. -/
def sum3 (n m : Nat) : Nat := if m > 1099511627776 - n then 1099511627776 else if 1 > 1099511627776 - (n + m) then 1099511627776 else n + m + 1

set_option maxRecDepth 100000 in
set_option maxHeartbeats 2000000 in
theorem sum25 (n m blk : Nat) (w : World) (hn : n ≤ 500) (hm : m ≤ 9223372036854775807) (h0 : w.cell? ⟨blk, 0, none⟩ = some (.int .i64 m)) (h1 : w.cell? ⟨blk, 1, none⟩ = some (.int .i64 1)) :
    Calls Try.prog 25 #[.int .i64 n, .slice (some ⟨blk, 0, none⟩) 2 2] w fun e w' => e = .returned (.int .i64 (sum3 n m)) ∧ w = w' := by
  by_cases c1 : m > 1099511627776 - n
  · have e : sum3 n m = 1099511627776 := by simp [sum3, c1]
    rw [e]; clear e
    have d1 : ¬ (1099511627776 : Int) < n := by omega
    have d2 : (1099511627776 : Int) - n < m := by omega
    go_enter Try.func25, Try.ntmps25
    go_wp2
    refine wp_loop_rounds 1 ?_
    rw [rounds_succ]
    go_wp2
    go_ret
    exact ⟨rfl, rfl⟩
  · by_cases c2 : 1 > 1099511627776 - (n + m)
    · have e : sum3 n m = 1099511627776 := by simp [sum3, c1, c2]
      rw [e]; clear e
      have d1 : ¬ (1099511627776 : Int) < n := by omega
      have d2 : ¬ (1099511627776 : Int) - n < m := by omega
      have d3 : ¬ (1099511627776 : Int) < (n : Int) + m := by omega
      have d4 : (1099511627776 : Int) - ((n : Int) + m) < 1 := by omega
      go_enter Try.func25, Try.ntmps25
      go_wp2
      refine wp_loop_rounds 2 ?_
      rw [rounds_succ]
      go_wp2
      rw [rounds_succ]
      go_wp2
      go_ret
      exact ⟨rfl, rfl⟩
    · have e : sum3 n m = n + m + 1 := by simp [sum3, c1, c2]
      rw [e]; clear e
      have d1 : ¬ (1099511627776 : Int) < n := by omega
      have d2 : ¬ (1099511627776 : Int) - n < m := by omega
      have d3 : ¬ (1099511627776 : Int) < (n : Int) + m := by omega
      have d4 : ¬ (1099511627776 : Int) - ((n : Int) + m) < 1 := by omega
      go_enter Try.func25, Try.ntmps25
      go_wp2
      refine wp_loop_rounds 3 ?_
      rw [rounds_succ]
      go_wp2
      rw [rounds_succ]
      go_wp2
      rw [rounds_succ]
      go_wp2
      go_ret
      exact ⟨by simp, rfl⟩

def cost (zss : List (List El)) : Nat := zss.flatten.length + zss.length
theorem cost_succ {zss : List (List El)} {k : Nat} (hk : k < zss.length) : cost (zss.take (k + 1)) = cost (zss.take k) + zss[k].length + 1 := by
  have h1 : (zss.take (k + 1)).flatten.length = (zss.take k).flatten.length + zss[k].length := by
    rw [List.take_succ_eq_append_getElem hk, List.flatten_append, List.length_append]
    simp
  have h2 : (zss.take (k + 1)).length = k + 1 := by rw [List.length_take]; omega
  have h3 : (zss.take k).length = k := by rw [List.length_take]; omega
  unfold cost
  rw [h1, h2, h3]
  omega
theorem cost_le {zss : List (List El)} (k : Nat) : cost (zss.take k) ≤ cost zss := by
  have h : zss = zss.take k ++ zss.drop k := (List.take_append_drop k zss).symm
  have e : cost zss = cost (zss.take k) + cost (zss.drop k) := by
    conv => lhs; rw [h]
    simp only [cost, List.flatten_append, List.length_append]
    omega
  omega
/-- What 'total' tells of a cost. -/
def Tells (c n : Nat) : Prop := (n ≤ 500 ∧ n = c) ∨ (500 < n ∧ 500 < c ∧ n ≤ 1099511627776)
theorem tells_sum {c n m : Nat} (h : Tells c n) (hn : n ≤ 500) : Tells (c + m + 1) (sum3 n m) := by
  unfold Tells at *
  unfold sum3
  split
  · right; omega
  · split <;> omega

set_option maxRecDepth 100000 in
set_option maxHeartbeats 2000000 in
theorem total16 {W : World} {lv : Value} {rvs : List Value} {zss : List (List El)} (hR : RowsAt W.heap.size lv rvs zss W) {w : World} (hk : KP W w) : Calls Try.prog 16 #[lv] w fun e w' => ∃ n : Nat, e = .returned (.int .i64 n) ∧ Tells (cost zss) n ∧ KP W w' := by
  obtain ⟨⟨a, cap, rfl, hc⟩, hlow, hlen, hmax, hrow⟩ := id hR
  have hlen1 : rvs.length ≤ zss.length := by omega
  have hlen2 : zss.length ≤ rvs.length := by omega
  clear hlen
  go_enter Try.func16, Try.ntmps16
  go_wp2
  go_loopw [4, 3] (fun i t w' => ∃ (k n : Nat), k ≤ zss.length ∧ i = .int .i64 k ∧ t = .int .i64 n ∧ Tells (cost (zss.take k)) n ∧ KP W w') (fun i _ _ => zss.length - (intOf i).toNat)
  case atStart => exact ⟨0, 0, by omega, rfl, rfl, .inl ⟨by omega, rfl⟩, hk⟩
  case round =>
    obtain ⟨k, n, hkl, rfl, rfl, hT, hk⟩ := hrel
    have HT := Lib.hid hT
    have hn40 : n ≤ 1099511627776 := by unfold Tells at hT; omega
    by_cases h5 : n ≤ 500
    · by_cases hlt : k < zss.length
      · have hRr := hR.kp (KP.refl W) hk
        have hkr : k < rvs.length := by omega
        obtain ⟨blk, off, rfl, hb, _⟩ := hc (by omega)
        obtain ⟨a1, cap1, e1, hc1⟩ := hRr.val
        have hrow1 := hRr.row
        clear hRr
        obtain ⟨blk', off', e2, _, hcell⟩ := hc1 (by omega)
        cases e1
        cases e2
        have hr := hcell k rvs[k] (List.getElem?_eq_getElem hkr)
        obtain ⟨⟨ra, rc, er, _⟩, _, hml⟩ := hrow1 k rvs[k] zss[k] (List.getElem?_eq_getElem hkr) (List.getElem?_eq_getElem hlt)
        rw [er] at hr
        clear hcell hc hc1 hrow hrow1 hR er hT hlow
        have hm : zss[k].length ≤ 9223372036854775807 := by unfold maxLen at hml; omega
        have hs := fun (blk : Nat) (W' : World) => sum25 n zss[k].length blk W' h5 hm
        have hnew := tells_sum (m := zss[k].length) HT.out h5
        rw [← cost_succ hlt] at hnew
        have HN := Lib.hid hnew
        clear hnew hml
        generalize sum3 n zss[k].length = q at hs HN
        have hkn : k < rvs.length := hkr
        go_wp2_with fail
        refine (hs _ _ (by simp) (by simp)).mono ?_
        rintro e w' ⟨rfl, rfl⟩
        go_wp2
        go_roundw
        case rel => exact ⟨k + 1, q, by omega, by go_num, rfl, HN.out, kp_trans hk ⟨by simp, fun b _ hl => Below.heap_alloc _ _ _ hl, rfl, rfl⟩⟩
        case measure => simp [intOf]; omega
      · obtain rfl : k = zss.length := by omega
        rw [List.take_of_length_le (Nat.le_refl _)] at hT
        have HT := Lib.hid hT
        clear hT hlt
        have hkn : ¬ zss.length < rvs.length := by omega
        go_wp2
        go_ret
        exact ⟨n, rfl, HT.out, hk⟩
    · have hT2 : Tells (cost zss) n := by
        have := cost_le (zss := zss) k
        unfold Tells at hT ⊢
        omega
      have HT := Lib.hid hT2
      clear hT hT2
      by_cases hlt : k < rvs.length
      · go_wp2
        go_ret
        exact ⟨n, rfl, HT.out, hk⟩
      · go_wp2
        go_ret
        exact ⟨n, rfl, HT.out, hk⟩
end Go.Proofs.Ytjcplblnapcfcaa
