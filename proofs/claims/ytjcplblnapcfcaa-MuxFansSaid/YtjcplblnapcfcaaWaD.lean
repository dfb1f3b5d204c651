/-
  A PASSER OF GATHER CARRIES OUT ITS TERMS.
-/
import Derived.Test.YtjcplblnapcfcaaWaC
set_option linter.unusedSimpArgs false
namespace Go.Proofs.Ytjcplblnapcfcaa
open Go Go.Gat Go.Conc

noncomputable def pasL : Code := match Try.f27.body with | some (.seq (.seq _ (.block _ (.loop c))) _) => c | _ => .skip
noncomputable def pasR : Code := match Try.f27.body with | some (.seq _ r) => r | _ => .skip
noncomputable def pasOps : Array Oper := match pasL with | .seq (.region _ ops _) _ => ops | _ => #[]
noncomputable def pasL1 : Code := match pasL with | .seq _ r => r | _ => .skip

def zi : Value := .agg #[.int .i64 0, .int .i64 0, .int .i64 0]

abbrev pasFr (c all dn : Nat) (u3 u4 u5 u6 u8 u9 u10 u11 u12 u13 : Value) (todo : List Item) : Frame :=
  (baseD 27).at ⟨#[.chan (some c), .chan (some all), .chan (some dn), u3, u4, u5, u6, .chan (some c), u8, u9, u10, u11, u12, u13], []⟩ todo

theorem isItem_agg {v : Value} (h : isItem v = true) : ∃ x y z : Value, v = .agg #[x, y, z] ∧ x.oneCell' = true ∧ y.oneCell' = true ∧ z.oneCell' = true := by
  cases v <;> simp [isItem] at h
  rename_i c
  obtain ⟨h1, h2⟩ := h
  rcases c with ⟨_ | ⟨x, _ | ⟨y, _ | ⟨z, _ | ⟨_, _⟩⟩⟩⟩⟩ <;> simp at h1
  exact ⟨x, y, z, rfl, by simpa using h2 0 (by simp), by simpa using h2 1 (by simp), by simpa using h2 2 (by simp)⟩

theorem zero49 : ∀ w, (zeroValue 49).run Try.prog w = .ok zi w := fun _ => by kernel_rfl
theorem size49 : ∀ w, (sizeOf 49).run Try.prog w = .ok 3 w := fun _ => by kernel_rfl
theorem agg49 : ∀ w, (isAgg 49).run Try.prog w = .ok true w := fun _ => by kernel_rfl
theorem size49e : ∀ w, (sizeOf 49).events Try.prog w #[] = #[] := fun _ => by kernel_rfl
theorem agg49e : ∀ w, (isAgg 49).events Try.prog w #[] = #[] := fun _ => by kernel_rfl

section
variable {B : Nat} {fin : List Value → Own → Goroutine → World → Prop}

set_option maxRecDepth 100000 in
/-- Behind the receive from the closed channel. -/
theorem pas_end (c all dn : Nat) (own : Own) (u3 u4 u5 u6 u9 u10 u11 u12 u13 : Value) (w : World) : Nx Try.prog B false false (AtP Try.prog B fin (.send dn Gat.one zs .quit) false) own
      (G (pasFr c all dn u3 u4 u5 u6 (.tuple #[zi, .bool false]) u9 u10 u11 u12 u13 [.inRegion pasOps [1], .code pasL1, .inLoop pasL, .inBlock 0, .code pasR]) [root Try.prog]) w := by
  refine ⟨fun e => (by cases e), fun _ => ⟨40, ?_⟩⟩
  simp only [pasOps, pasL, Try.f27]
  refine way_val (v := .bool false) rfl rfl (by decide) (fun w => ⟨by simp [go_sem], by simp [go_sem]⟩) ?_
  walk_nrm
  refine way_out ?_
  refine way_seq ?_
  refine way_cond (t := false) rfl ?_
  refine way_exit rfl ?_
  refine way_region rfl ?_
  refine way_val (v := .chan (some dn)) rfl rfl (by decide) (fun w => ⟨by simp [go_sem], by simp [go_sem]⟩) ?_
  walk_nrm
  refine way_stop (fun w₁ h₁ => ?_)
  refine atP_send rfl rfl (by decide) rfl rfl rfl rfl ⟨fun _ => ?_, fun e => (by cases e)⟩
  refine ⟨4, .ctl rfl (fun _ => Conc.stepG_region_end) (.ctl rfl (fun _ => Conc.stepG_end) ?_)⟩
  exact quits_child rfl rfl Try.func27 rfl

set_option maxRecDepth 100000 in
theorem pas_head (c all dn : Nat) : ∀ (j : Nat) (own : Own) (u3 u4 u5 u6 u8 u9 u10 u11 u12 u13 : Value) (w : World),
    ∃ n, Gat.Way Try.prog B false (AtP Try.prog B fin (pasP zi c all dn j) false) n own (G (pasFr c all dn u3 u4 u5 u6 u8 u9 u10 u11 u12 u13 [.code pasL, .inLoop pasL, .inBlock 0, .code pasR]) [root Try.prog]) w := by
  have hz := zero49
  intro j
  induction j with
  | zero =>
    intro own u3 u4 u5 u6 u8 u9 u10 u11 u12 u13 w
    refine ⟨40, ?_⟩
    refine way_seq ?_
    refine way_region rfl ?_
    refine way_stop (fun w₁ h₁ => ?_)
    refine atP_recv rfl rfl (by decide) (by simp [go_sem, hz, rcase]) (by simp [go_sem, hz]) (fun v => ?_) ?_
    · exact ⟨fun e => (by cases e), fun _ => ⟨0, fun _ _ => rfl⟩⟩
    · exact pas_end c all dn own u3 u4 u5 u6 u9 u10 u11 u12 u13 w₁
  | succ j ih =>
    intro own u3 u4 u5 u6 u8 u9 u10 u11 u12 u13 w
    refine ⟨40, ?_⟩
    refine way_seq ?_
    refine way_region rfl ?_
    refine way_stop (fun w₁ h₁ => ?_)
    refine atP_recv rfl rfl (by decide) (by simp [go_sem, hz, rcase]) (by simp [go_sem, hz]) (fun v => ?_) ?_
    · by_cases hv : isItem v = true
      · rw [if_pos hv]
        refine ⟨fun e => (by cases e), fun _ => ⟨40, ?_⟩⟩
        obtain ⟨x, y, z, rfl, hx, hy, hzz⟩ := isItem_agg hv
        walk_nrm
        refine way_val (v := .bool true) rfl rfl (by decide) (fun w => ⟨by simp [go_sem], by simp [go_sem]⟩) ?_
        walk_nrm
        refine way_out ?_
        refine way_seq ?_
        refine way_cond (t := true) rfl ?_
        refine way_sk ?_
        refine way_block ?_
        refine way_seq ?_
        refine way_region rfl ?_
        refine way_val (v := .agg #[x, y, z]) rfl rfl (by decide) (fun w => ⟨by simp [go_sem], by simp [go_sem]⟩) ?_
        walk_nrm
        refine way_do rfl rfl (by decide) (fun w₂ h₂ => ⟨.pointer (some ⟨w₂.heap.size, 0, none⟩), w₂.alloc (.cells #[.int .i64 0, .int .i64 0, .int .i64 0] 49), fun b => own b ∨ b = w₂.heap.size, ?_, ?_, ?_⟩)
        · simp [go_sem, hz, zi]
        · refine guar_alloc ?_
          simp [go_sem, hz, zi]
        have hb : (w₂.alloc (.cells #[.int .i64 0, .int .i64 0, .int .i64 0] 49)).heap[w₂.heap.size]? = some (.cells #[.int .i64 0, .int .i64 0, .int .i64 0] 49 (0, 0)) := heap_alloc_at _ _
        generalize hbk : w₂.heap.size = bk at hb ⊢
        have hlt : bk < (w₂.alloc (.cells #[.int .i64 0, .int .i64 0, .int .i64 0] 49)).heap.size := (Array.getElem?_eq_some_iff.1 hb).1
        generalize w₂.alloc (.cells #[.int .i64 0, .int .i64 0, .int .i64 0] 49) = w₃ at hb hlt ⊢
        clear hbk h₂
        walk_nrm
        refine way_skip rfl rfl (by decide) (fun w₄ h₄ => ⟨w₄.setRow bk #[x, y, z], _, ?_, guar_row (.inr rfl) ?_, ?_⟩)
        · have hb4 : w₄.heap[bk]? = _ := (h₄.keep bk (.inr (.inr rfl)) hlt).trans hb
          exact run_op_store rfl rfl rfl (run_storeVar3 (size49 w₄) hb4 hx hy hzz)
        · have hb4 : w₄.heap[bk]? = _ := (h₄.keep bk (.inr (.inr rfl)) hlt).trans hb
          have := events_storeVar3 (size49 w₄) (size49e w₄) hb4 hx hy hzz
          intro e he
          rw [events_op_store rfl rfl rfl (run_storeVar3 (size49 w₄) hb4 hx hy hzz)] at he
          exact evOK_own (g := bk) (.inr rfl) (this e he)
        have hb5 : (w₄.setRow bk #[x, y, z]).heap[bk]? = some (.cells #[x, y, z] 49 (0, 0)) := setRow_heap _ _ _ _ _ _ ((h₄.keep bk (.inr (.inr rfl)) hlt).trans hb)
        generalize w₄.setRow bk #[x, y, z] = w₅ at hb5 ⊢
        have hlt5 : bk < w₅.heap.size := (Array.getElem?_eq_some_iff.1 hb5).1
        clear h₄ hb hlt
        walk_nrm
        refine way_out ?_
        refine way_region rfl ?_
        refine way_val (v := .chan (some all)) rfl rfl (by decide) (fun w => ⟨by simp [go_sem], by simp [go_sem]⟩) ?_
        walk_nrm
        refine way_read (v := .agg #[x, y, z]) rfl rfl (by decide) (fun w₆ h₆ => ?_) ?_
        · have hb6 : w₆.heap[bk]? = _ := (h₆.keep bk (.inr (.inr rfl)) hlt5).trans hb5
          have h1 := run_loadVar3 (agg49 w₆) (size49 w₆) hb6
          have h2 := events_loadVar3 (agg49 w₆) (size49 w₆) (agg49e w₆) hb6
          refine ⟨run_op_load rfl rfl h1, fun e he => ?_⟩
          rw [events_op_load rfl rfl h1] at he
          obtain ⟨k1, k2, k3⟩ := h2 e he
          exact evOK_own (g := bk) (.inr rfl) ⟨k1, k3⟩
        walk_nrm
        refine way_stop (fun w₆ h₆ => ?_)
        refine atP_send rfl rfl (by decide) rfl rfl rfl rfl ⟨fun e => absurd (Proc.isQuit_iff.1 e) (pasP_ne_quit zi), fun _ => ?_⟩
        obtain ⟨n, hn⟩ := ih (fun b => own b ∨ b = bk) u3 u4 u5 (.pointer (some ⟨bk, 0, none⟩)) (.tuple #[.agg #[x, y, z], .bool true]) (.bool true) (.agg #[x, y, z]) (.chan (some all)) (.agg #[x, y, z]) u13 w₆
        refine ⟨n + 3, ?_⟩
        refine way_out ?_
        refine way_inBlock ?_
        refine way_inLoop ?_
        exact hn
      · rw [if_neg hv]
        exact ⟨fun e => (by cases e), fun _ => ⟨0, fun _ _ => rfl⟩⟩
    · exact pas_end c all dn own u3 u4 u5 u6 u9 u10 u11 u12 u13 w₁

set_option maxRecDepth 100000 in
/-- ████ A PASSER. ████ -/
theorem pas_does (c all dn j : Nat) (w : World) : Gat.Does Try.prog B fin (pasP zi c all dn j) false (fun _ => False) (born Try.prog { target := .fn (.func 27) #[], args := #[.chan (some c), .chan (some all), .chan (some dn)] }) w := by
  refine ⟨fun e => absurd (Proc.isQuit_iff.1 e) (pasP_ne_quit zi), fun _ => ?_⟩
  obtain ⟨n, hn⟩ := pas_head (B := B) (fin := fin) c all dn j (fun _ => False) undef undef undef undef undef undef undef undef undef undef w
  refine ⟨n + 8, way_born Try.func27 (by decide) rfl ?_⟩
  simp only [Try.ntmps27]
  walk_nrm
  refine way_seq ?_
  refine way_seq ?_
  refine way_region rfl ?_
  refine way_val (v := .chan (some c)) rfl rfl (by decide) (fun w => ⟨by simp [go_sem], by simp [go_sem]⟩) ?_
  walk_nrm
  refine way_out ?_
  refine way_block ?_
  refine way_loop ?_
  exact hn
end
end Go.Proofs.Ytjcplblnapcfcaa
