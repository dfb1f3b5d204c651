/-
  'awake': what the document fixes: true, beside leavers.
-/
import Derived.Test.YtjcplblnapcfcaaGaA
import Derived.Test.YtjcplblnapcfcaaBxA
import Derived.Test.YtjcplblnapcfcaaBxS
set_option linter.unusedSimpArgs false
namespace Go.Gat
open Go Go.Conc
/-- A piece of lone code ahead of the rest. -/
theorem gwp_cut {P : Program} (hP : Plain P) {x y : Code} {Q : Exit → Act → World → Prop} {a : Act} {w : World} (Mid : Act → World → Prop) (hx : ∀ τ d, x.wp P (fun e a' w' => e = .normal ∧ Mid a' w') a (re w τ d)) (hy : ∀ a' w', Mid a' w' → Gwp P y Q a' w') : Gwp P (.seq x y) Q a w := by
  refine gwp_seq hP (gwp_mono (gwp_of_wp hP (fun _ _ h => by cases h.1) (fun _ _ _ h => by cases h.1) hx) ?_)
  rintro e a' w' ⟨rfl, h⟩
  exact hy a' w' h
end Go.Gat

namespace Go.Proofs.Ytjcplblnapcfcaa
open Go Go.Gat Go.Conc Go.RowKit

theorem KP.refl (w : World) : KP w w := Rely.refl _ _ w
theorem kp_trans {w₀ w₁ w₂ : World} (h : KP w₀ w₁) (k : KP w₁ w₂) : KP w₀ w₂ :=
  ⟨Nat.le_trans h.size k.size, fun b hb hl => (k.keep b (.inl (Nat.lt_of_lt_of_le hl h.size)) (Nat.lt_of_lt_of_le hl h.size)).trans (h.keep b hb hl), k.os.trans h.os, k.output.trans h.output⟩
theorem kp_alloc (w : World) (o : Obj) : KP w (w.alloc o) := ⟨by simp, fun b _ hl => Below.heap_alloc _ _ _ hl, rfl, rfl⟩
theorem kp_below {w w' : World} (h : Below w.heap.size w w') : KP w w' := ⟨h.size, fun b _ hl => h.block b hl, h.os, h.output⟩
theorem kp_setChan {w₀ w : World} (h : KP w₀ w) {c cap s r : Nat} {buf : Array Value} {cl tm : Bool} (hc : w₀.heap.size ≤ c) : KP w₀ (w.setChan c cap buf cl s r tm) :=
  ⟨by rw [size_setChan]; exact h.size, fun b hb hl => by rw [← h.keep b hb hl]; show (w.heap.setIfInBounds c _)[b]? = _; rw [Array.getElem?_setIfInBounds_ne (by omega)], h.os, h.output⟩
theorem cell_setChan {w : World} {b c o cap s r : Nat} {buf : Array Value} {cl tm : Bool} (h : b ≠ c) : (w.setChan c cap buf cl s r tm).cell? ⟨b, o, none⟩ = w.cell? ⟨b, o, none⟩ :=
  World.cell?_of_block (by show (w.heap.setIfInBounds c _)[b]? = _; rw [Array.getElem?_setIfInBounds_ne (Ne.symm h)])

/-- A new box: its pointer's block b, its channel c. -/
structure Fresh (w : World) (b c cap : Nat) (w' : World) : Prop where
  cell : w'.cell? ⟨b, 0, none⟩ = some (.chan (some c))
  chan : w'.heap[c]? = some (.chan cap #[] false 0 0 false)
  kp : KP w w'
  newc : w.heap.size ≤ c
  newb : w.heap.size ≤ b
  ne : b ≠ c
  lt : b < w'.heap.size
theorem fresh_made (w : World) (n : Nat) (t : TypeId) : Fresh w (w.heap.size + 1) w.heap.size n ((w.alloc (.chan n #[] false 0 0 false)).alloc (.cells #[.chan (some w.heap.size)] t)) := by
  have e : (w.alloc (.chan n #[] false 0 0 false)).heap.size = w.heap.size + 1 := by simp
  refine ⟨?_, ?_, kp_trans (kp_alloc _ _) (kp_alloc _ _), Nat.le_refl _, by omega, by omega, by simp⟩
  · have := heap_alloc_at (w.alloc (.chan n #[] false 0 0 false)) (.cells #[.chan (some w.heap.size)] t)
    rw [e] at this
    simp only [World.cell?, this]
    rfl
  · rw [Below.heap_alloc _ _ _ (by rw [e]; omega)]
    exact heap_alloc_at _ _

theorem S.new_fresh (n : Nat) (hn : n ≤ 10000) (w : World) : Calls Try.prog 22 #[.int .i64 n] w fun e w' => ∃ b c, e = .returned (.tuple #[.pointer (some ⟨b, 0, none⟩), .int .i64 0]) ∧ Fresh w b c n w' :=
  (S.new_ok n hn w).mono fun _ _ ⟨he, hw⟩ => ⟨_, _, he, hw ▸ fresh_made w n 82⟩

def rows0 : List (List El) := [[1, 2], [], [3]]

noncomputable def awB : Code := Try.f7.body.getD .skip
noncomputable def awT : Code := match awB with | .seq _ (.seq _ t) => t | _ => .skip

set_option maxRecDepth 100000 in
set_option maxHeartbeats 1000000 in
theorem awake_tail {w w₁ : World} {v : Value} (hG : Gathered w rows0 v w₁) (u10 u11 u12 u13 : Value) (τ : Nat → Question → Nat) (d : Nat) :
    awT.wp Try.prog (gPost Try.prog Try.f7 fun v w' => v = .bool true ∧ KP w w') ⟨#[.bool false, v, undef, undef, undef, undef, undef, undef, undef, undef, u10, u11, u12, u13, undef, undef, undef, undef, undef, undef, undef, undef, undef, undef, undef, undef, undef, undef, undef, undef, undef, undef, undef, undef, undef, undef, undef, undef, undef, undef, undef, undef, undef, undef, undef, undef, undef, undef, undef, undef, undef, undef, undef, undef, undef, undef, undef, undef, undef, undef, undef, undef, undef, undef, undef, undef, undef, undef, undef, undef, undef, undef, undef, undef, undef, undef, undef, undef, undef], []⟩ (re w₁ τ d) := by
  obtain ⟨hown, hk⟩ := hG
  have hown : (re w₁ τ d).ownsRow w.heap.size 49 3 v 3 _ := hown
  have hk : KP w (re w₁ τ d) := hk.trans (rely_re τ d)
  generalize re w₁ τ d = w₂ at hown hk ⊢
  rcases hown.2 with ⟨_, h0⟩ | ⟨g, cap, cur, rfl, hbg, hg, hnc, hcm, hcs, htake⟩
  · cases h0
  have hcell : ∀ j x, ((tripsOf 0 rows0).flatMap enc3)[j]? = some x → w₂.cell? ⟨g, j, none⟩ = some x := fun j x hx => by
    have := hown.cells (g := g) rfl j x hx
    rwa [show (⟨g, 0, none⟩ : Addr).add j = ⟨g, j, none⟩ by unfold Addr.add; split <;> simp_all] at this
  have c5 := hcell 5 (.int .i64 2) rfl
  have c6 := hcell 6 (.int .i64 2) rfl
  have c7 := hcell 7 (.int .i64 0) rfl
  have hglt : g < w₂.heap.size := (Array.getElem?_eq_some_iff.1 hg).1
  clear hcell hg htake hown
  simp only [awT, awB, Try.f7, Option.getD_some]
  go_wp2_with fail
  refine (S.new_fresh 1 (by decide) _).mono ?_
  rintro e w₃ ⟨b, c, rfl, hF⟩
  obtain ⟨f1, f2, f3, f4, f5, f6, f7⟩ := hF
  have hk3 := kp_trans hk f3
  have hc4 : w.heap.size ≤ c := Nat.le_trans hk.size f4
  have hb4 : w.heap.size ≤ b := Nat.le_trans hk.size f5
  have g5 := (World.cell?_of_block (a := ⟨g, 5, none⟩) (f3.keep g (.inl hglt) hglt)).trans c5
  have g6 := (World.cell?_of_block (a := ⟨g, 6, none⟩) (f3.keep g (.inl hglt) hglt)).trans c6
  have g7 := (World.cell?_of_block (a := ⟨g, 7, none⟩) (f3.keep g (.inl hglt) hglt)).trans c7
  have hgc : g ≠ c := by omega
  clear c5 c6 c7 f3 f4 f5 f7 hk
  go_wp2_with (go_at_call 8; refine (new_bad (-1) (by decide) _).mono ?_; rintro e w' ⟨rfl, rfl⟩)
  refine (S.offer_room b c 1 0 0 #[] (.string ⟨#[97]⟩) w₃ f1 f2 (by decide)).mono ?_
  rintro e w' ⟨rfl, hw⟩
  have q1 : w'.cell? ⟨b, 0, none⟩ = some (.chan (some c)) := by rw [hw, cell_setChan f6]; exact f1
  have q2 : w'.heap[c]? = some (.chan 1 #[.string ⟨#[97]⟩] false 1 0 false) := by rw [hw]; exact heap_setChan _ _ _ _ _ _ _ _ (Array.getElem?_eq_some_iff.1 f2).1
  have q5 : w'.cell? ⟨g, 5, none⟩ = some (.int .i64 2) := by rw [hw, cell_setChan hgc]; exact g5
  have q6 : w'.cell? ⟨g, 6, none⟩ = some (.int .i64 2) := by rw [hw, cell_setChan hgc]; exact g6
  have q7 : w'.cell? ⟨g, 7, none⟩ = some (.int .i64 0) := by rw [hw, cell_setChan hgc]; exact g7
  have qk : KP w w' := by rw [hw]; exact kp_setChan hk3 hc4
  clear hw f1 f2 g5 g6 g7 hk3
  go_wp2_with (go_at_call 23; refine (S.offer_full b c 1 1 0 #[.string ⟨#[97]⟩] (.string ⟨#[98]⟩) w' q1 q2 (by decide)).mono ?_; rintro e w' ⟨rfl, rfl⟩)
  refine (S.take_some b c 1 1 0 #[.string ⟨#[97]⟩] w' q1 q2 (by decide)).mono ?_
  rintro e w₅ ⟨rfl, hw⟩
  have r5 : w₅.cell? ⟨g, 5, none⟩ = some (.int .i64 2) := by rw [hw, cell_setChan hgc]; exact q5
  have r6 : w₅.cell? ⟨g, 6, none⟩ = some (.int .i64 2) := by rw [hw, cell_setChan hgc]; exact q6
  have r7 : w₅.cell? ⟨g, 7, none⟩ = some (.int .i64 0) := by rw [hw, cell_setChan hgc]; exact q7
  have rk : KP w w₅ := by rw [hw]; exact kp_setChan qk hc4
  clear hw q1 q2 q5 q6 q7 qk f6 hgc hb4 hc4 hbg hcs hnc hcm
  have e0 : (#[Value.string ⟨#[97]⟩] : Array Value).getD 0 undef = .string ⟨#[97]⟩ := rfl
  rw [e0]
  clear e0
  go_wp2
  exact ⟨rfl, .bool true, fun τ d => results_tmp (fn := Try.f7) (t := 0) rfl _ Try.prog _, rfl, rk⟩

theorem rows0_at {w : World} : ∃ w₁ rvs lv, w₁ = ((w.alloc (.cells #[.int .i64 1, .int .i64 2] 3)).alloc (.cells #[.int .i64 3] 3)).alloc (.cells #[.slice (some ⟨w.heap.size, 0, none⟩) 2 2, .slice none 0 0, .slice (some ⟨w.heap.size + 1, 0, none⟩) 1 1] 22) ∧
    lv = .slice (some ⟨w.heap.size + 2, 0, none⟩) 3 3 ∧ RowsAt w₁.heap.size lv rvs rows0 w₁ ∧ KP w w₁ := by
  refine ⟨_, [.slice (some ⟨w.heap.size, 0, none⟩) 2 2, .slice none 0 0, .slice (some ⟨w.heap.size + 1, 0, none⟩) 1 1], _, rfl, rfl, ?_, kp_trans (kp_trans (kp_alloc _ _) (kp_alloc _ _)) (kp_alloc _ _)⟩
  generalize hw1 : w.alloc (.cells #[.int .i64 1, .int .i64 2] 3) = w1
  have s1 : w1.heap.size = w.heap.size + 1 := by rw [← hw1]; simp
  have b0 : w1.heap[w.heap.size]? = some (.cells #[.int .i64 1, .int .i64 2] 3 (0, 0)) := by rw [← hw1]; exact heap_alloc_at _ _
  generalize hw2 : w1.alloc (.cells #[.int .i64 3] 3) = w2
  have s2 : w2.heap.size = w.heap.size + 2 := by rw [← hw2]; simp [s1]
  have b0 : w2.heap[w.heap.size]? = some (.cells #[.int .i64 1, .int .i64 2] 3 (0, 0)) := by rw [← hw2, Below.heap_alloc _ _ _ (by omega)]; exact b0
  have b1 : w2.heap[w.heap.size + 1]? = some (.cells #[.int .i64 3] 3 (0, 0)) := by rw [← hw2, ← s1]; exact heap_alloc_at _ _
  generalize hw3 : w2.alloc (.cells #[.slice (some ⟨w.heap.size, 0, none⟩) 2 2, .slice none 0 0, .slice (some ⟨w.heap.size + 1, 0, none⟩) 1 1] 22) = w3
  have s3 : w3.heap.size = w.heap.size + 3 := by rw [← hw3]; simp [s2]
  have b0 : w3.heap[w.heap.size]? = some (.cells #[.int .i64 1, .int .i64 2] 3 (0, 0)) := by rw [← hw3, Below.heap_alloc _ _ _ (by omega)]; exact b0
  have b1 : w3.heap[w.heap.size + 1]? = some (.cells #[.int .i64 3] 3 (0, 0)) := by rw [← hw3, Below.heap_alloc _ _ _ (by omega)]; exact b1
  have b2 : w3.heap[w.heap.size + 2]? = some (.cells #[.slice (some ⟨w.heap.size, 0, none⟩) 2 2, .slice none 0 0, .slice (some ⟨w.heap.size + 1, 0, none⟩) 1 1] 22 (0, 0)) := by rw [← hw3, ← s2]; exact heap_alloc_at _ _
  refine ⟨⟨_, 3, rfl, fun _ => ⟨_, _, rfl, by omega, fun j x hx => ?_⟩⟩, Nat.le_refl _, rfl, by simp, fun j rv zs h1 h2 => ?_⟩
  · simp only [World.cell?, b2]
    simpa using hx
  · match j, h1, h2 with
    | 0, h1, h2 =>
      simp [rows0] at h1 h2
      subst h1 h2
      refine ⟨⟨_, 2, rfl, fun _ => ⟨_, _, rfl, by omega, fun j x hx => ?_⟩⟩, Nat.le_refl _, by simp [maxLen]⟩
      simp only [World.cell?, b0]
      match j, hx with
      | 0, hx => simp at hx; subst hx; rfl
      | 1, hx => simp at hx; subst hx; rfl
    | 1, h1, h2 =>
      simp [rows0] at h1 h2
      subst h1 h2
      exact ⟨⟨_, 0, rfl, fun h => absurd h (by simp)⟩, Nat.le_refl _, by simp⟩
    | 2, h1, h2 =>
      simp [rows0] at h1 h2
      subst h1 h2
      refine ⟨⟨_, 1, rfl, fun _ => ⟨_, _, rfl, by omega, fun j x hx => ?_⟩⟩, Nat.le_refl _, by simp [maxLen]⟩
      simp only [World.cell?, b1]
      match j, hx with
      | 0, hx => simp at hx; subst hx; rfl

set_option maxRecDepth 100000 in
set_option maxHeartbeats 1000000 in
/-- ████ 'awake' answers true. ████ -/
theorem awake7 (w : World) : GCalls Try.prog 7 #[] w fun v w' => v = .bool true ∧ KP w w' := by
  have hP := plain
  refine gcalls_of_gwp hP Try.func7 (c := awB) rfl ?_
  simp only [Try.ntmps7, Array.replicate_succ, Array.replicate_zero]
  walk_nrm
  refine gwp_seq hP (gwp_region hP ?_)
  refine gwpOps_value (v := .bool false) (w₁ := w) hP rfl rfl (fun τ d => by simp [go_sem]) ?_
  refine gwpOps_nil hP ?_
  simp only [Exit.then]
  walk_nrm
  refine gwp_seq hP (gwp_region hP ?_)
  refine gwpOps_value (v := .slice (some ⟨w.heap.size, 0, none⟩) 2 2) (w₁ := w.alloc (.cells #[.int .i64 1, .int .i64 2] 3)) hP rfl rfl (fun τ d => by simp [go_sem]; rfl) ?_
  walk_nrm
  refine gwpOps_value (v := .slice (some ⟨w.heap.size + 1, 0, none⟩) 1 1) (w₁ := (w.alloc (.cells #[.int .i64 1, .int .i64 2] 3)).alloc (.cells #[.int .i64 3] 3)) hP rfl rfl (fun τ d => by simp [go_sem]; rfl) ?_
  walk_nrm
  obtain ⟨w₁, rvs, lv, hw₁, hlv, hR, hk⟩ := rows0_at (w := w)
  refine gwpOps_value (v := lv) (w₁ := w₁) hP rfl rfl (fun τ d => by subst hw₁ hlv; simp [go_sem]; rfl) ?_
  walk_nrm
  clear hw₁ hlv
  refine gwpOps_call (f := 17) (args := #[lv]) (R := fun v w' => Gathered w₁ rows0 v w') hP rfl rfl (fun τ e => ?_) (gather17 hR (by decide)) (fun v w₂ hG => ?_)
  · refine (run_call_body rfl Try.func17 (by decide) rfl).trans ?_
    simp [Act.eval]
  walk_nrm
  refine gwpOps_value (v := v) (w₁ := w₂) hP rfl rfl (fun τ d => by simp [go_sem]) ?_
  walk_nrm
  refine gwpOps_nil hP ?_
  simp only [Exit.then]
  have hG' : Gathered w rows0 v w₂ := ⟨World.ownsRow.base hG.1 hk.size, kp_trans hk hG.2⟩
  refine gwp_of_wp hP (fun _ _ h => h.elim) (fun _ _ _ h => h.elim) fun τ d => ?_
  exact awake_tail hG' (.slice (some ⟨w.heap.size, 0, none⟩) 2 2) (.slice (some ⟨w.heap.size + 1, 0, none⟩) 1 1) lv v τ d
end Go.Proofs.Ytjcplblnapcfcaa
