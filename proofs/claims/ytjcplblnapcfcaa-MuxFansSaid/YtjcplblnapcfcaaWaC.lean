/-
  A SENDER OF GATHER CARRIES OUT ITS TERMS.
-/
import Derived.Test.YtjcplblnapcfcaaPlain
import Derived.Test.YtjcplblnapcfcaaWaB
import Derived.WalkKit
set_option linter.unusedSimpArgs false
namespace Go.Proofs.Ytjcplblnapcfcaa
open Go Go.Gat Go.Conc

/-- What a row's values are sent as. -/
def items (f : Int) : Nat → List Value → List Value
  | _, [] => []
  | n, x :: xs => .agg #[.int .i64 f, .int .i64 n, x] :: items f (n + 1) xs

abbrev El := Int
abbrev enc (z : El) : Value := .int .i64 z

/-- The row lies at 'v', below B. -/
structure RowAt (B : Nat) (v : Value) (zs : List El) (w : World) : Prop where
  val : ∃ a cap, v = .slice a zs.length cap ∧ (0 < zs.length → ∃ blk off, a = some ⟨blk, off, none⟩ ∧ blk < B ∧ ∀ j x, zs[j]? = some x → w.cell? ⟨blk, off + j, none⟩ = some (enc x))
  low : B ≤ w.heap.size
  len : zs.length ≤ maxLen

theorem RowAt.rely {B : Nat} {v : Value} {zs : List El} {w w₁ : World} {own : Own} (h : RowAt B v zs w) (hr : Rely B own w w₁) : RowAt B v zs w₁ := by
  obtain ⟨⟨a, cap, h1, h2⟩, h3, h4⟩ := h
  refine ⟨⟨a, cap, h1, fun h0 => ?_⟩, Nat.le_trans h3 hr.size, h4⟩
  obtain ⟨blk, off, rfl, h5, h6⟩ := h2 h0
  refine ⟨blk, off, rfl, h5, fun j x hx => ?_⟩
  rw [World.cell?_of_block (hr.keep blk (.inl h5) (by omega))]
  exact h6 j x hx

noncomputable def sndL : Code := match Try.f26.body with | some (.seq _ (.seq _ (.block _ (.loop c)))) => c | _ => .skip

abbrev sndFr (from_ row : Value) (c k : Nat) (len : Nat) (u3 u4 u5 u6 u7 u12 u13 u14 u15 u16 u17 u18 u19 u20 u21 : Value) (todo : List Item) : Frame :=
  (baseD 26).at ⟨#[from_, row, .chan (some c), u3, u4, u5, u6, u7, .chan (some c), row, .int .i64 len, .int .i64 k, u12, u13, u14, u15, u16, u17, u18, u19, u20, u21], [{ target := .builtin .close #[83] 0 #[false], args := #[.chan (some c)] }]⟩ todo

section
variable {B : Nat} {fin : List Value → Own → Goroutine → World → Prop} {own : Own}

set_option maxRecDepth 100000 in
theorem snd_head (f : Int) (row : Value) (zs : List El) (c : Nat) : ∀ (j k : Nat) (_ : k + j = zs.length) (u3 u4 u5 u6 u7 u12 u13 u14 u15 u16 u17 u18 u19 u20 u21 : Value) (w : World), RowAt B row zs w →
    ∃ n, Gat.Way Try.prog B false (AtP Try.prog B fin (sndP c (items f k ((zs.map enc).drop k))) false) n own (G (sndFr (.int .i64 f) row c k zs.length u3 u4 u5 u6 u7 u12 u13 u14 u15 u16 u17 u18 u19 u20 u21 [.code sndL, .inLoop sndL, .inBlock 0]) [root Try.prog]) w := by
  intro j
  induction j with
  | zero =>
    intro k hk u3 u4 u5 u6 u7 u12 u13 u14 u15 u16 u17 u18 u19 u20 u21 w hw
    have hlt : ¬ k < zs.length := by omega
    refine ⟨40, ?_⟩
    refine way_seq ?_
    refine way_region rfl ?_
    refine way_val (v := .bool false) rfl rfl (by decide) (fun w => ⟨by simp [go_sem]; omega, by simp [go_sem]⟩) ?_
    walk_nrm
    refine way_out ?_
    refine way_seq ?_
    refine way_cond (t := false) rfl ?_
    refine way_exit rfl ?_
    refine way_end ?_
    refine way_stop (fun w₁ h₁ => ?_)
    rw [List.drop_of_length_le (by simp; omega)]
    refine atP_close rfl (by kernel_rfl) ⟨2, ?_⟩
    exact quits_child rfl rfl Try.func26 rfl
  | succ j ih =>
    intro k hk u3 u4 u5 u6 u7 u12 u13 u14 u15 u16 u17 u18 u19 u20 u21 w hw
    obtain ⟨⟨a0, cap, rfl, hc⟩, h3, h4⟩ := hw
    obtain ⟨blk, off, rfl, h5, h6⟩ := hc (by omega)
    have hk' : k < zs.length := by omega
    have hge : ¬ zs.length ≤ k := by omega
    have hcell := h6 k zs[k] (by simp [hk'])
    have hW : RowAt B (.slice (some ⟨blk, off, none⟩) zs.length cap) zs w := ⟨⟨_, _, rfl, hc⟩, h3, h4⟩
    refine ⟨40, ?_⟩
    refine way_seq ?_
    refine way_region rfl ?_
    refine way_val (v := .bool true) rfl rfl (by decide) (fun w => ⟨by simp [go_sem, hk'], by simp [go_sem]⟩) ?_
    walk_nrm
    refine way_out ?_
    refine way_seq ?_
    refine way_cond (t := true) rfl ?_
    refine way_sk ?_
    refine way_seq ?_
    refine way_block ?_
    refine way_seq ?_
    refine way_region rfl ?_
    refine way_val (v := .int .i64 k) rfl rfl (by decide) (fun w => ⟨by simp [go_sem], by simp [go_sem]⟩) ?_
    walk_nrm
    refine way_val (v := .pointer (some ⟨blk, off + k, none⟩)) rfl rfl (by decide) (fun w => ⟨by simp [go_sem, hge], by simp [go_sem, hk']⟩) ?_
    walk_nrm
    refine way_read (v := (enc zs[k])) rfl rfl (by decide) (fun w₁ h₁ => ?_) ?_
    · have hc1 : w₁.cell? ⟨blk, off + k, none⟩ = some (enc zs[k]) := by rw [World.cell?_of_block (h₁.keep blk (.inl h5) (by omega))]; exact hcell
      refine ⟨by simp [go_sem, hc1], fun e he => ?_⟩
      simp [go_sem, hc1] at he
      exact .inr ⟨_, _, he, .inr ⟨rfl, h5⟩⟩
    walk_nrm
    refine way_val (v := .int .i64 k) rfl rfl (by decide) (fun w => ⟨by simp [go_sem], by simp [go_sem]⟩) ?_
    walk_nrm
    refine way_val (v := (enc zs[k])) rfl rfl (by decide) (fun w => ⟨by simp [go_sem], by simp [go_sem]⟩) ?_
    walk_nrm
    refine way_out ?_
    refine way_region rfl ?_
    refine way_val (v := .chan (some c)) rfl rfl (by decide) (fun w => ⟨by simp [go_sem], by simp [go_sem]⟩) ?_
    walk_nrm
    refine way_val (v := .int .i64 f) rfl rfl (by decide) (fun w => ⟨by simp [go_sem], by simp [go_sem]⟩) ?_
    walk_nrm
    refine way_val (v := .int .i64 k) rfl rfl (by decide) (fun w => ⟨by simp [go_sem], by simp [go_sem]⟩) ?_
    walk_nrm
    refine way_val (v := (enc zs[k])) rfl rfl (by decide) (fun w => ⟨by simp [go_sem], by simp [go_sem]⟩) ?_
    walk_nrm
    refine way_val (v := .agg #[.int .i64 f, .int .i64 k, (enc zs[k])]) rfl rfl (by decide) (fun w => ⟨by simp [go_sem], by simp [go_sem]⟩) ?_
    walk_nrm
    refine way_stop (fun w₁ h₁ => ?_)
    rw [List.drop_eq_getElem_cons (by simpa using hk'), List.getElem_map]
    refine atP_send rfl rfl (by decide) rfl rfl rfl rfl ⟨fun e => ?_, fun _ => ?_⟩
    · rw [Proc.isQuit_iff] at e
      exact absurd e sndP_ne_quit
    obtain ⟨n, hn⟩ := ih (k + 1) (by omega) u3 u4 u5 (.int .i64 k) (enc zs[k]) (.bool true) (.int .i64 k) (.pointer (some ⟨blk, off + k, none⟩)) (enc zs[k]) (.chan (some c)) (.int .i64 f) (.int .i64 k) (enc zs[k]) (.agg #[.int .i64 f, .int .i64 k, (enc zs[k])]) (.int .i64 (k + 1 : Nat)) w₁ (hW.rely h₁)
    refine ⟨n + 7, ?_⟩
    refine way_out ?_
    refine way_inBlock ?_
    refine way_region rfl ?_
    unfold maxLen at h4
    have hwr : IntKind.i64.wrap ((k : Int) + 1) = (k : Int) + 1 := by rw [IntKind.wrap_i64]; omega
    refine way_val (v := .int .i64 (k + 1 : Nat)) rfl rfl (by decide) (fun w => ⟨by simp [go_sem, hwr], by simp [go_sem]⟩) ?_
    walk_nrm
    refine way_val (v := .int .i64 (k + 1 : Nat)) rfl rfl (by decide) (fun w => ⟨by simp [go_sem], by simp [go_sem]⟩) ?_
    walk_nrm
    refine way_out ?_
    refine way_inLoop ?_
    exact hn

set_option maxRecDepth 100000 in
/-- ████ A SENDER. ████ -/
theorem snd_does (f : Int) (row : Value) (zs : List El) (c : Nat) (w : World) (hw : RowAt B row zs w) :
    Gat.Does Try.prog B fin (sndP c (items f 0 (zs.map enc))) false (fun _ => False) (born Try.prog { target := .fn (.func 26) #[], args := #[.int .i64 f, row, .chan (some c)] }) w := by
  refine ⟨fun e => absurd (Proc.isQuit_iff.1 e) sndP_ne_quit, fun _ => ?_⟩
  obtain ⟨a0, cap, rfl, hc⟩ := hw.val
  obtain ⟨n, hn⟩ := snd_head (B := B) (fin := fin) (own := fun _ => False) f (.slice a0 zs.length cap) zs c zs.length 0 (by omega) undef undef undef undef undef undef undef undef undef undef undef undef undef undef undef w hw
  refine ⟨n + 14, way_born Try.func26 (by decide) rfl ?_⟩
  simp only [Try.ntmps26]
  walk_nrm
  refine way_seq ?_
  refine way_region rfl ?_
  refine way_val (v := .chan (some c)) rfl rfl (by decide) (fun w => ⟨by simp [go_sem], by simp [go_sem]⟩) ?_
  walk_nrm
  refine way_defer (d := { target := .builtin .close #[83] 0 #[false], args := #[.chan (some c)] }) rfl rfl (by decide) (fun w => by simp [go_sem]) (fun w => by simp [go_sem]) ?_
  walk_nrm
  refine way_out ?_
  refine way_seq ?_
  refine way_region rfl ?_
  refine way_val (v := .slice a0 zs.length cap) rfl rfl (by decide) (fun w => ⟨by simp [go_sem], by simp [go_sem]⟩) ?_
  walk_nrm
  refine way_val (v := .int .i64 zs.length) rfl rfl (by decide) (fun w => ⟨by simp [go_sem], by simp [go_sem]⟩) ?_
  walk_nrm
  refine way_val (v := .int .i64 0) rfl rfl (by decide) (fun w => ⟨by simp [go_sem], by simp [go_sem]⟩) ?_
  walk_nrm
  refine way_out ?_
  refine way_block ?_
  refine way_loop ?_
  exact hn
end
end Go.Proofs.Ytjcplblnapcfcaa
