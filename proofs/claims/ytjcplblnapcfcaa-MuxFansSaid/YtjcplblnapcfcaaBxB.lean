/-
  THE BOXES: First, Drain.
-/
import Derived.Test.YtjcplblnapcfcaaBxA
import Derived.Deep.LoopGhost
import Derived.Lib.Hide
set_option linter.unusedSimpArgs false
namespace Go.Proofs.Ytjcplblnapcfcaa
open Go Go.RowKit Go.Conc

def iv (z : Int) : Value := .int .i64 z

/-- A box that holds l, or nil (that holds nothing). -/
structure BoxAt (w : World) (b c cap s r : Nat) (l : List Int) : Prop where
  cell : w.cell? ⟨b, 0, none⟩ = some (.chan (some c))
  chan : w.heap[c]? = some (.chan cap (l.map iv).toArray false s r false)
def Empty (w : World) (p : Value) : Prop := p = .pointer none ∨ ∃ b c cap s r, p = .pointer (some ⟨b, 0, none⟩) ∧ BoxAt w b c cap s r []

theorem take_empty {w : World} {p : Value} (h : Empty w p) : Calls Try.prog 11 #[p] w fun e w' => e = .returned (.tuple #[.int .i64 0, .bool false]) ∧ w = w' := by
  rcases h with rfl | ⟨b, c, cap, s, r, rfl, h⟩
  · exact take_nil w
  · exact take_none b c cap s r w h.cell h.chan
theorem take_cons {w : World} {b c cap s r : Nat} {x : Int} {l : List Int} (h : BoxAt w b c cap s r (x :: l)) :
    Calls Try.prog 11 #[.pointer (some ⟨b, 0, none⟩)] w fun e w' => e = .returned (.tuple #[.int .i64 x, .bool true]) ∧ w' = w.setChan c cap (l.map iv).toArray false s (r + 1) false := by
  have := take_some b c cap s r _ w h.cell h.chan (by simp)
  have e : (l.map iv).take l.length = l.map iv := List.take_of_length_le (by simp)
  simpa [iv, e] using this

set_option maxRecDepth 100000 in
set_option maxHeartbeats 1000000 in
theorem first_none (a : Option Addr) (ps : List Value) (cap : Nat) (w : World) (hps : ps.length ≤ 1000) (ha : 0 < ps.length → ∃ blk off, a = some ⟨blk, off, none⟩ ∧ ∀ j x, ps[j]? = some x → w.cell? ⟨blk, off + j, none⟩ = some x)
    (hE : ∀ p ∈ ps, Empty w p) : Calls Try.prog 14 #[.slice a ps.length cap] w fun e w' => e = .returned (.tuple #[.int .i64 (-1), .int .i64 0, .bool false]) ∧ w = w' := by
  have hmax : ps.length ≤ 9223372036854775807 := by omega
  clear hps
  go_enter Try.func14, Try.ntmps14
  go_wp2
  go_loop [9, 3, 4] (fun i v ok => ∃ k : Nat, k ≤ ps.length ∧ i = .int .i64 k ∧ v = .int .i64 0 ∧ ok = .bool false) (fun i _ _ => ps.length - (intOf i).toNat)
  case atStart => exact ⟨0, by omega, rfl, rfl, rfl⟩
  case round =>
    obtain ⟨k, hk, rfl, rfl, rfl⟩ := hrel
    by_cases hlt : k < ps.length
    · obtain ⟨blk, off, rfl, hc⟩ := ha (by omega)
      have hcell := hc k ps[k] (List.getElem?_eq_getElem hlt)
      have ht := take_empty (hE ps[k] (List.getElem_mem hlt))
      clear hc hE ha
      go_wp2_with (go_at_call 11; refine ht.mono ?_; rintro e w' ⟨rfl, rfl⟩)
      go_round
      case rel => exact ⟨k + 1, by omega, by go_num, rfl, rfl⟩
      case measure => simp [intOf]; omega
    · clear hE ha
      go_wp2
      go_ret3
      exact ⟨rfl, rfl⟩

set_option maxRecDepth 100000 in
set_option maxHeartbeats 1000000 in
theorem first_some (blk off : Nat) (ps : List Value) (cap : Nat) (w : World) (hps : ps.length ≤ 1000) (hc : ∀ j x, ps[j]? = some x → w.cell? ⟨blk, off + j, none⟩ = some x)
    (i : Nat) (b c bc s r : Nat) (x : Int) (l : List Int) (hi : ps[i]? = some (.pointer (some ⟨b, 0, none⟩))) (hE : ∀ j p, j < i → ps[j]? = some p → Empty w p) (hB : BoxAt w b c bc s r (x :: l)) :
    Calls Try.prog 14 #[.slice (some ⟨blk, off, none⟩) ps.length cap] w fun e w' => e = .returned (.tuple #[.int .i64 i, .int .i64 x, .bool true]) ∧ w' = w.setChan c bc (l.map iv).toArray false s (r + 1) false := by
  have hmax : ps.length ≤ 9223372036854775807 := by omega
  have hil : i < ps.length := (List.getElem?_eq_some_iff.1 hi).1
  have htc := take_cons hB
  clear hps hB
  go_enter Try.func14, Try.ntmps14
  go_wp2
  go_loop [9, 3, 4] (fun j v ok => ∃ k : Nat, k ≤ i ∧ j = .int .i64 k ∧ v = .int .i64 0 ∧ ok = .bool false) (fun j _ _ => i - (intOf j).toNat)
  case atStart => exact ⟨0, by omega, rfl, rfl, rfl⟩
  case round =>
    obtain ⟨k, hk, rfl, rfl, rfl⟩ := hrel
    by_cases hlt : k < i
    · have hkl : k < ps.length := by omega
      have hcell := hc k ps[k] (List.getElem?_eq_getElem hkl)
      have ht := take_empty (hE k ps[k] hlt (List.getElem?_eq_getElem hkl))
      clear hc hE hi htc hk
      go_wp2_with (go_at_call 11; refine ht.mono ?_; rintro e w' ⟨rfl, rfl⟩)
      go_round
      case rel => exact ⟨k + 1, by omega, by go_num, rfl, rfl⟩
      case measure => simp [intOf]; omega
    · obtain rfl : k = i := by omega
      have hcell := hc k _ hi
      clear hc hE hi hk hlt
      go_wp2_with (go_at_call 11; refine htc.mono ?_; rintro e w' ⟨rfl, hw⟩; have HW := Lib.hid hw; clear hw)
      go_ret3
      exact ⟨rfl, HW.out⟩

theorem drain_nil (n : Int) (hn : 0 < n) (w : World) : Calls Try.prog 13 #[.pointer none, .int .i64 n] w fun e w' => e = .returned (.slice none 0 0) ∧ w = w' := by
  have ht := take_nil w
  go_enter Try.func13, Try.ntmps13
  go_wp2
  refine wp_loop_rounds 1 ?_
  rw [rounds_succ]
  go_wp2_with (go_at_call 11; refine ht.mono ?_; rintro e w' ⟨rfl, rfl⟩)
  go_ret
  exact ⟨rfl, rfl⟩
end Go.Proofs.Ytjcplblnapcfcaa
