/-
  THE COMPARISON OF ITEMS (Gather's closure), in whatever world.
-/
import Derived.Test.YtjcplblnapcfcaaRows
import Derived.WalkKit
import Derived.StillTailTactics
import Derived.Sort.Grow
import Derived.Deep.QuietTactic
import Derived.Lib.Hide
set_option linter.unusedSimpArgs false
namespace Go.Proofs.Ytjcplblnapcfcaa.S
open Go Go.RowKit Go.Sort

def cmpI (a b : Int) : Int := if a < b then -1 else if b < a then 1 else 0
def orI (a b : Int) : Int := if a = 0 then b else a

theorem nan38 (a : Int) (W : World) : Calls Try.prog 38 #[.int .i64 a] W fun e w' => e = .returned (.bool false) ∧ w' = W := by
  go_enter Try.func38, Try.ntmps38
  go_wp2
  go_ret
  exact ⟨by simp, rfl⟩

set_option maxHeartbeats 1000000 in
theorem cmp31 (a b : Int) (W : World) : Calls Try.prog 31 #[.int .i64 a, .int .i64 b] W fun e w' => e = .returned (.int .i64 (cmpI a b)) ∧ w' = W := by
  by_cases h1 : a < b
  · have e : cmpI a b = -1 := by simp [cmpI, h1]
    rw [e]; clear e
    go_enter Try.func31, Try.ntmps31
    go_wp2_with (go_at_call 38; refine (nan38 _ _).mono ?_; rintro e w' ⟨rfl, rfl⟩)
    go_ret
    exact ⟨rfl, rfl⟩
  · by_cases h2 : b < a
    · have e : cmpI a b = 1 := by simp [cmpI, h1, h2]
      rw [e]; clear e
      go_enter Try.func31, Try.ntmps31
      go_wp2_with (go_at_call 38; refine (nan38 _ _).mono ?_; rintro e w' ⟨rfl, rfl⟩)
      go_ret
      exact ⟨rfl, rfl⟩
    · have e : cmpI a b = 0 := by simp [cmpI, h1, h2]
      rw [e]; clear e
      go_enter Try.func31, Try.ntmps31
      go_wp2_with (go_at_call 38; refine (nan38 _ _).mono ?_; rintro e w' ⟨rfl, rfl⟩)
      go_ret
      exact ⟨rfl, rfl⟩

set_option maxHeartbeats 1000000 in
theorem or30 (a b : Int) (blk : Nat) (W : World) (h0 : W.cell? ⟨blk, 0, none⟩ = some (.int .i64 a)) (h1 : W.cell? ⟨blk, 1, none⟩ = some (.int .i64 b)) :
    Calls Try.prog 30 #[.slice (some ⟨blk, 0, none⟩) 2 2] W fun e w' => e = .returned (.int .i64 (orI a b)) ∧ w' = W := by
  by_cases ha : a = 0
  · subst ha
    have e : orI 0 b = b := by simp [orI]
    rw [e]; clear e
    by_cases hb : b = 0
    · subst hb
      go_enter Try.func30, Try.ntmps30
      go_wp2
      go_loop [8, 5] (fun i _ => ∃ k : Nat, k ≤ 2 ∧ i = .int .i64 k) (fun i _ => 2 - (intOf i).toNat)
      case atStart => exact ⟨0, by omega, rfl⟩
      case round =>
        obtain ⟨k, hk, rfl⟩ := hrel
        by_cases hk2 : k = 2
        · subst hk2
          go_wp2
          go_ret
          exact ⟨rfl, rfl⟩
        · have hcell : W.cell? ⟨blk, k, none⟩ = some (.int .i64 0) := by
            rcases (by omega : k = 0 ∨ k = 1) with rfl | rfl
            · exact h0
            · exact h1
          have hlt : k < 2 := by omega
          clear h0 h1 hk2
          go_wp2
          go_round
          case rel => exact ⟨k + 1, by omega, by go_num⟩
          case measure => simp [intOf]; omega
    · go_enter Try.func30, Try.ntmps30
      go_wp2
      go_loop [8, 5] (fun i _ => ∃ k : Nat, k ≤ 1 ∧ i = .int .i64 k) (fun i _ => 2 - (intOf i).toNat)
      case atStart => exact ⟨0, by omega, rfl⟩
      case round =>
        obtain ⟨k, hk, rfl⟩ := hrel
        by_cases hk2 : k = 1
        · subst hk2
          have hb' : (b == 0) = false := by simpa using hb
          have hb2 : (b != 0) = true := by simpa using hb
          go_wp2
          go_ret
          exact ⟨rfl, rfl⟩
        · obtain rfl : k = 0 := by omega
          go_wp2
          go_round
          case rel => exact ⟨1, by omega, rfl⟩
          case measure => simp [intOf]
  · have e : orI a b = a := by simp [orI, ha]
    rw [e]; clear e
    have hb' : (a == 0) = false := by simpa using ha
    have hb2 : (a != 0) = true := by simpa using ha
    go_enter Try.func30, Try.ntmps30
    go_wp2
    refine wp_loop_rounds 1 ?_
    rw [rounds_succ]
    go_wp2
    go_ret
    exact ⟨rfl, rfl⟩

set_option maxRecDepth 100000 in
set_option maxHeartbeats 1000000 in
theorem clo29 (f n g m : Int) (x y : Value) (W : World) :
    Calls Try.prog 42 #[.agg #[.int .i64 f, .int .i64 n, x], .agg #[.int .i64 g, .int .i64 m, y]] W fun e w' => e = .returned (.int .i64 (orI (cmpI f g) (cmpI n m))) ∧ ∃ q os', w' = grow (W.drewN q) os' := by
  have hc1 := fun W' => cmp31 f g W'
  have hc2 := fun W' => cmp31 n m W'
  have ho := fun blk W' h0 h1 => or30 (cmpI f g) (cmpI n m) blk W' h0 h1
  generalize cmpI f g = p at hc1 ho ⊢
  generalize cmpI n m = q at hc2 ho ⊢
  generalize orI p q = r at ho ⊢
  go_enter Try.func42, Try.ntmps42
  go_wp2
  have e1 : (W.alloc (.cells #[.int .i64 f, .int .i64 n, x] 57)).alloc (.cells #[.int .i64 g, .int .i64 m, y] 57) = grow W #[.cells #[.int .i64 f, .int .i64 n, x] 57, .cells #[.int .i64 g, .int .i64 m, y] 57] := by rw [alloc_eq_grow, alloc_eq_grow, grow_grow]; rfl
  rw [e1]
  clear e1
  refine wp_region_still_tail 10 (by kernel_rfl) (by kernel_rfl) ?_
  simp only [List.take_succ_cons, List.take_zero, List.drop_succ_cons, List.drop_zero]
  change wpStill _ _ (grow W.drew #[.cells #[.int .i64 f, .int .i64 n, x] 57, .cells #[.int .i64 g, .int .i64 m, y] 57]) _ _ _
  have hb0 : (grow W.drew #[.cells #[.int .i64 f, .int .i64 n, x] 57, .cells #[.int .i64 g, .int .i64 m, y] 57]).heap[W.heap.size]? = some (.cells #[.int .i64 f, .int .i64 n, x] 57) := by
    show (W.heap ++ #[Obj.cells #[.int .i64 f, .int .i64 n, x] 57, .cells #[.int .i64 g, .int .i64 m, y] 57])[W.heap.size]? = _
    simp
  have hb1 : (grow W.drew #[.cells #[.int .i64 f, .int .i64 n, x] 57, .cells #[.int .i64 g, .int .i64 m, y] 57]).heap[W.heap.size + 1]? = some (.cells #[.int .i64 g, .int .i64 m, y] 57) := by
    show (W.heap ++ #[Obj.cells #[.int .i64 f, .int .i64 n, x] 57, .cells #[.int .i64 g, .int .i64 m, y] 57])[W.heap.size + 1]? = _
    simp
  generalize hw2 : grow W.drew #[.cells #[.int .i64 f, .int .i64 n, x] 57, .cells #[.int .i64 g, .int .i64 m, y] 57] = w2 at hb0 hb1 ⊢
  have k0 : w2.cell? ⟨W.heap.size, 0, none⟩ = some (.int .i64 f) := by simp [World.cell?, hb0]
  have k1 : w2.cell? ⟨W.heap.size, 1, none⟩ = some (.int .i64 n) := by simp [World.cell?, hb0]
  have k2 : w2.cell? ⟨W.heap.size + 1, 0, none⟩ = some (.int .i64 g) := by simp [World.cell?, hb1]
  have k3 : w2.cell? ⟨W.heap.size + 1, 1, none⟩ = some (.int .i64 m) := by simp [World.cell?, hb1]
  clear hb0 hb1
  have HW := Lib.hid hw2
  clear hw2
  still_step
  still_step
  still_step
  still_step
  still_call (hc1 _)
  still_step
  still_step
  still_step
  still_step
  still_call (hc2 _)
  refine wpStill_nil ?_
  change wpList _ _ _ _ _ (grow W.drew #[.cells #[.int .i64 f, .int .i64 n, x] 57, .cells #[.int .i64 g, .int .i64 m, y] 57])
  rw [HW.out]
  go_wp2_with (go_at_call 30; refine (ho _ _ (by simp) (by simp)).mono ?_; rintro e w' ⟨rfl, rfl⟩)
  go_ret
  refine ⟨rfl, 1, #[.cells #[.int .i64 f, .int .i64 n, x] 57, .cells #[.int .i64 g, .int .i64 m, y] 57] ++ #[.cells #[.int .i64 p, .int .i64 q] 3], ?_⟩
  rw [← HW.out, alloc_eq_grow, grow_grow]
  rfl
end Go.Proofs.Ytjcplblnapcfcaa.S
