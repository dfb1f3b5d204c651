/-
  WHO GATHERS: from the function's entry to the end of the phase.
-/
import Derived.Test.YtjcplblnapcfcaaWaF
set_option linter.unusedSimpArgs false
namespace Go.Proofs.Ytjcplblnapcfcaa
open Go Go.Gat Go.Conc

/-- The rows lie at 'lv', below B. -/
structure RowsAt (B : Nat) (lv : Value) (rvs : List Value) (zss : List (List El)) (w : World) : Prop where
  val : ∃ a cap, lv = .slice a rvs.length cap ∧ (0 < rvs.length → ∃ blk off, a = some ⟨blk, off, none⟩ ∧ blk < B ∧ ∀ j x, rvs[j]? = some x → w.cell? ⟨blk, off + j, none⟩ = some x)
  low : B ≤ w.heap.size
  len : rvs.length = zss.length
  max : rvs.length ≤ 9223372036854775807
  row : ∀ (j : Nat) rv zs, rvs[j]? = some rv → zss[j]? = some zs → RowAt B rv zs w

theorem RowsAt.rely {B : Nat} {lv : Value} {rvs : List Value} {zss : List (List El)} {w w₁ : World} {own : Own} (h : RowsAt B lv rvs zss w) (hr : Rely B own w w₁) : RowsAt B lv rvs zss w₁ := by
  obtain ⟨⟨a, cap, h1, h2⟩, h3, h4, h5, h6⟩ := h
  refine ⟨⟨a, cap, h1, fun h0 => ?_⟩, Nat.le_trans h3 hr.size, h4, h5, fun j rv zs e1 e2 => (h6 j rv zs e1 e2).rely hr⟩
  obtain ⟨blk, off, rfl, h7, h8⟩ := h2 h0
  refine ⟨blk, off, rfl, h7, fun j x hx => ?_⟩
  rw [World.cell?_of_block (hr.keep blk (.inl h7) (by omega))]
  exact h8 j x hx

/-- What the rows are sent as. -/
def rowsOf (k : Nat) : List (List El) → List (List Value)
  | [] => []
  | zs :: rest => items k 0 (zs.map enc) :: rowsOf (k + 1) rest

theorem items_isItem (f : Int) : ∀ (l : List El) (n : Nat), ∀ v ∈ items f n (l.map enc), isItem v = true
  | [], _ => by simp [items]
  | z :: l, n => by
    intro v hv
    rcases List.mem_cons.1 hv with rfl | hv
    · simp [isItem, Value.oneCell', enc]
    · exact items_isItem f l (n + 1) v hv
theorem rowsOf_isItem : ∀ (zss : List (List El)) (k : Nat), ∀ v ∈ (rowsOf k zss).flatten, isItem v = true
  | [], _ => by simp [rowsOf]
  | zs :: rest, k => by
    intro v hv
    simp only [rowsOf, List.flatten_cons, List.mem_append] at hv
    exact hv.elim (items_isItem _ _ _ v) (rowsOf_isItem rest (k + 1) v)
theorem rowsOf_length : ∀ (zss : List (List El)) (k : Nat), (rowsOf k zss).length = zss.length
  | [], _ => rfl
  | _ :: rest, k => by simp [rowsOf, rowsOf_length rest (k + 1)]
theorem items_length (f : Int) : ∀ (l : List Value) (n : Nat), (items f n l).length = l.length
  | [], _ => rfl
  | _ :: l, n => by simp [items, items_length f l (n + 1)]
theorem rowsOf_total : ∀ (zss : List (List El)) (k : Nat), (rowsOf k zss).flatten.length = zss.flatten.length
  | [], _ => rfl
  | zs :: rest, k => by simp [rowsOf, items_length, rowsOf_total rest (k + 1)]

/-- A new channel. -/
def mkCh (w : World) : World := { w with heap := w.heap.push (.chan 0 #[] false 0 0 false) }
theorem rely_ch (B : Nat) (own : Own) (w : World) : Rely B own w (mkCh w) :=
  ⟨by simp [mkCh], fun b _ hl => by show (w.heap.push _)[b]? = _; rw [Array.getElem?_push, if_neg (by omega)], rfl, rfl⟩

abbrev gaFr (lv : Value) (all dn len k : Nat) (u1 u5 u6 u7 u8 u9 u10 u11 u12 u16 u17 u18 u19 u20 u21 u22 u23 u24 u25 u26 u27 u28 u29 u30 u31 u32 u33 u34 u35 u36 u37 u38 u39 u40 u41 u42 u43 u44 u45 u46 u47 u48 u49 : Value) (todo : List Item) : Frame :=
  (base 17).at ⟨#[lv, u1, (.slice none 0 0), (.chan (some all)), (.chan (some dn)), u5, u6, u7, u8, u9, u10, u11, u12, lv, (.int .i64 len), (.int .i64 k), u16, u17, u18, u19, u20, u21, u22, u23, u24, u25, u26, u27, u28, u29, u30, u31, u32, u33, u34, u35, u36, u37, u38, u39, u40, u41, u42, u43, u44, u45, u46, u47, u48, u49], []⟩ todo

noncomputable def gaM : Code := match gaB with | .seq _ (.seq _ (.seq _ (.seq _ r))) => r | _ => .skip

section
variable {w₀ : World} {lv : Value} {cs : List Frame}

set_option maxRecDepth 100000 in
set_option maxHeartbeats 1000000 in
theorem spn_head (all dn F : Nat) (hF : F * 24 ≤ 140737488355328) (rvs : List Value) (zss : List (List El)) (hFF : zss.flatten.length + zss.length ≤ F) : ∀ (rest : List (List El)) (k : Nat) (own : Own) (u1 u5 u6 u7 u8 u9 u10 u11 u12 u16 u17 u18 u19 u20 u21 u22 u23 u24 u25 u26 u27 u28 u29 u30 u31 u32 u33 u34 u35 u36 u37 u38 u39 u40 u41 u42 u43 u44 u45 u46 u47 u48 u49 : Value) (w : World), zss.drop k = rest → k + rest.length = zss.length →
    (∀ b, own b → w₀.heap.size ≤ b) → RowsAt w₀.heap.size lv rvs zss w → KP w₀ w →
    ∃ n, Gat.Way Try.prog w₀.heap.size true (AtP Try.prog w₀.heap.size (gaFin w₀ lv cs) (spnP zi zd all dn (zss.flatten.length + zss.length) zss.length (rowsOf k rest)) true) n own (G (gaFr lv all dn zss.length k u1 u5 u6 u7 u8 u9 u10 u11 u12 u16 u17 u18 u19 u20 u21 u22 u23 u24 u25 u26 u27 u28 u29 u30 u31 u32 u33 u34 u35 u36 u37 u38 u39 u40 u41 u42 u43 u44 u45 u46 u47 u48 u49 [.code gaL1, .inLoop gaL1, .inBlock 0, .code gaM]) cs) w := by
  intro rest
  induction rest with
  | nil =>
    intro k own u1 u5 u6 u7 u8 u9 u10 u11 u12 u16 u17 u18 u19 u20 u21 u22 u23 u24 u25 u26 u27 u28 u29 u30 u31 u32 u33 u34 u35 u36 u37 u38 u39 u40 u41 u42 u43 u44 u45 u46 u47 u48 u49 w hd hk h1 hR h4
    obtain ⟨a0, cap, rfl, hc⟩ := hR.val
    have hlen := hR.len
    have hmax := hR.max
    simp only [List.length_nil, Nat.add_zero] at hk
    subst hk
    refine ⟨60, ?_⟩
    refine way_seq ?_
    refine way_region rfl ?_
    refine way_val (v := .bool false) rfl rfl (by decide) (fun w => ⟨by simp [go_sem], by simp [go_sem]⟩) ?_
    walk_nrm
    refine way_out ?_
    refine way_seq ?_
    refine way_cond (t := false) rfl ?_
    refine way_exit rfl ?_
    refine way_seq ?_
    refine way_seq ?_
    refine way_region rfl ?_
    refine way_val (v := .slice a0 rvs.length cap) rfl rfl (by decide) (fun w => ⟨by simp [go_sem], by simp [go_sem]⟩) ?_
    walk_nrm
    refine way_val (v := .int .i64 zss.length) rfl rfl (by decide) (fun w => ⟨by simp [go_sem, hlen], by simp [go_sem]⟩) ?_
    walk_nrm
    refine way_val (v := .int .i64 zss.length) rfl rfl (by decide) (fun w => ⟨by simp [go_sem], by simp [go_sem]⟩) ?_
    walk_nrm
    refine way_out ?_
    refine way_block ?_
    refine way_loop ?_
    exact way_le (by decide) (sel_head all dn F hF (zss.flatten.length + zss.length) zss.length [] own (.slice none 0 0) u1 u5 u6 u7 u9 u10 u11 u12 (.slice a0 rvs.length cap) (.int .i64 zss.length) (.int .i64 zss.length) (.bool false) u17 u18 u19 u20 u21 u22 u23 u24 u25 u26 u27 (.slice a0 rvs.length cap) (.int .i64 zss.length) u30 u31 u32 u33 u34 u35 u36 u37 u38 u39 u40 u41 u42 u43 u44 u45 u46 u47 u48 u49 w (by simpa using hFF) (by omega) h1 (fun k hk => by cases hk) (World.ownsRow_nil _ _ _ _) h4)
  | cons zs rest ih =>
    intro k own u1 u5 u6 u7 u8 u9 u10 u11 u12 u16 u17 u18 u19 u20 u21 u22 u23 u24 u25 u26 u27 u28 u29 u30 u31 u32 u33 u34 u35 u36 u37 u38 u39 u40 u41 u42 u43 u44 u45 u46 u47 u48 u49 w hd hk h1 hR h4
    have hRR := hR
    obtain ⟨⟨a0, cap, rfl, hc⟩, hlow, hlen, hmax, hrow⟩ := hR
    simp only [List.length_cons] at hk
    have hk' : k < zss.length := by omega
    have hkr : k < rvs.length := by omega
    have hge : ¬ rvs.length ≤ k := by omega
    obtain ⟨blk, off, rfl, hblk, hcell⟩ := hc (by omega)
    have hzk : zss[k]? = some zs := by
      have := congrArg (·[0]?) hd
      simpa [List.getElem?_drop] using this
    have hd' : zss.drop (k + 1) = rest := by
      have := congrArg (List.drop 1) hd
      simpa [List.drop_drop] using this
    have hRw : ∀ {w₁ : World} {own : Own}, Rely w₀.heap.size own w w₁ → RowAt w₀.heap.size rvs[k] zs w₁ := fun r => (hrow k _ zs (List.getElem?_eq_getElem hkr) hzk).rely r
    refine ⟨60, ?_⟩
    refine way_seq ?_
    refine way_region rfl ?_
    refine way_val (v := .bool true) rfl rfl (by decide) (fun w => ⟨by simp [go_sem, hk'], by simp [go_sem]⟩) ?_
    walk_nrm
    refine way_out ?_
    refine way_seq ?_
    refine way_cond (t := true) rfl ?_
    refine way_sk ?_
    refine way_seq ?_
    refine way_block ?_
    refine way_seq ?_
    refine way_region rfl ?_
    refine way_val (v := .int .i64 k) rfl rfl (by decide) (fun w => ⟨by simp [go_sem], by simp [go_sem]⟩) ?_
    walk_nrm
    refine way_val (v := .pointer (some ⟨blk, off + k, none⟩)) rfl rfl (by decide) (fun w => ⟨by simp [go_sem, hge], by simp [go_sem, hkr]⟩) ?_
    walk_nrm
    refine way_read (v := rvs[k]) rfl rfl (by decide) (fun w₁ r₁ => ?_) ?_
    · have hc1 : w₁.cell? ⟨blk, off + k, none⟩ = some rvs[k] := by rw [World.cell?_of_block (r₁.keep blk (.inl hblk) (by omega))]; exact hcell k _ (List.getElem?_eq_getElem hkr)
      refine ⟨by simp [go_sem, hc1], fun e he => ?_⟩
      simp [go_sem, hc1] at he
      exact .inr ⟨_, _, he, .inr ⟨rfl, hblk⟩⟩
    walk_nrm
    refine way_val (v := .int .i64 k) rfl rfl (by decide) (fun w => ⟨by simp [go_sem], by simp [go_sem]⟩) ?_
    walk_nrm
    refine way_val (v := rvs[k]) rfl rfl (by decide) (fun w => ⟨by simp [go_sem], by simp [go_sem]⟩) ?_
    walk_nrm
    refine way_out ?_
    refine way_seq ?_
    refine way_region rfl ?_
    refine way_stop (fun w₁ r₁ => ?_)
    -- c := make(chan Item)
    have r₂ := r₁.trans (rely_ch w₀.heap.size own w₁)
    have hR₂ := hRR.rely r₂
    have h4₂ := h4.rely r₂
    have hrw₂ := hRw r₂
    refine atP_chan rfl rfl (by decide) (by simp [go_sem, Instr.makeChan]) (by simp [go_sem, Instr.makeChan]) ⟨fun e => (by cases e), fun _ => ⟨60, ?_⟩⟩
    change Gat.Way _ _ _ _ _ _ _ (mkCh w₁)
    generalize mkCh w₁ = w₂ at r₂ hR₂ h4₂ hrw₂ ⊢
    generalize w₁.heap.size = c
    walk_nrm
    refine way_val (v := .chan (some c)) rfl rfl (by decide) (fun w => ⟨by simp [go_sem], by simp [go_sem]⟩) ?_
    walk_nrm
    refine way_out ?_
    refine way_seq ?_
    refine way_region rfl ?_
    refine way_val (v := .int .i64 k) rfl rfl (by decide) (fun w => ⟨by simp [go_sem], by simp [go_sem]⟩) ?_
    walk_nrm
    refine way_val (v := rvs[k]) rfl rfl (by decide) (fun w => ⟨by simp [go_sem], by simp [go_sem]⟩) ?_
    walk_nrm
    refine way_val (v := .chan (some c)) rfl rfl (by decide) (fun w => ⟨by simp [go_sem], by simp [go_sem]⟩) ?_
    walk_nrm
    refine way_stop (fun w₃ r₃ => ?_)
    have hR₃ := hR₂.rely r₃
    have h4₃ := h4₂.rely r₃
    have hrw₃ := hrw₂.rely r₃
    refine atP_go (d := { target := .fn (.func 26) #[], args := #[.int .i64 k, rvs[k], .chan (some c)] }) rfl rfl (by decide) rfl (by simp [go_sem]) rfl (by simp [go_sem]) ⟨fun e => (by cases e), fun _ => ⟨60, ?_⟩⟩ (snd_does k rvs[k] zs c w₃ hrw₃)
    refine way_out ?_
    refine way_region rfl ?_
    refine way_val (v := .chan (some c)) rfl rfl (by decide) (fun w => ⟨by simp [go_sem], by simp [go_sem]⟩) ?_
    walk_nrm
    refine way_val (v := .chan (some all)) rfl rfl (by decide) (fun w => ⟨by simp [go_sem], by simp [go_sem]⟩) ?_
    walk_nrm
    refine way_val (v := .chan (some dn)) rfl rfl (by decide) (fun w => ⟨by simp [go_sem], by simp [go_sem]⟩) ?_
    walk_nrm
    refine way_stop (fun w₄ r₄ => ?_)
    have hR₄ := hR₃.rely r₄
    have h4₄ := h4₃.rely r₄
    refine atP_go (d := { target := .fn (.func 27) #[], args := #[.chan (some c), .chan (some all), .chan (some dn)] }) rfl rfl (by decide) rfl (by simp [go_sem]) rfl (by simp [go_sem]) ⟨fun e => ?_, fun _ => ?_⟩ (pas_does c all dn _ w₄)
    · exact absurd (Proc.isQuit_iff.1 e) spnP_ne_quit
    obtain ⟨n, hn⟩ := ih (k + 1) own u1 (.int .i64 k) rvs[k] (.chan (some c)) u8 u9 u10 u11 u12 (.bool true) (.int .i64 k) (.pointer (some ⟨blk, off + k, none⟩)) rvs[k] (.chan (some c)) (.int .i64 k) rvs[k] (.chan (some c)) (.chan (some c)) (.chan (some all)) (.chan (some dn)) (.int .i64 (k + 1 : Nat)) u28 u29 u30 u31 u32 u33 u34 u35 u36 u37 u38 u39 u40 u41 u42 u43 u44 u45 u46 u47 u48 u49 w₄ hd' (by omega) h1 hR₄ h4₄
    have hwr : IntKind.i64.wrap ((k : Int) + 1) = (k : Int) + 1 := by rw [IntKind.wrap_i64]; omega
    refine ⟨n + 7, ?_⟩
    refine way_out ?_
    refine way_inBlock ?_
    refine way_region rfl ?_
    refine way_val (v := .int .i64 (k + 1 : Nat)) rfl rfl (by decide) (fun w => ⟨by simp [go_sem, hwr], by simp [go_sem]⟩) ?_
    walk_nrm
    refine way_val (v := .int .i64 (k + 1 : Nat)) rfl rfl (by decide) (fun w => ⟨by simp [go_sem], by simp [go_sem]⟩) ?_
    walk_nrm
    refine way_out ?_
    refine way_inLoop ?_
    exact hn

set_option maxRecDepth 100000 in
/-- ████ WHO GATHERS carries the terms out. ████ -/
theorem gat_does (F : Nat) (hF : F * 24 ≤ 140737488355328) (rvs : List Value) (zss : List (List El)) (hFF : zss.flatten.length + zss.length ≤ F) (hR : RowsAt w₀.heap.size lv rvs zss w₀) :
    Gat.Does Try.prog w₀.heap.size (gaFin w₀ lv cs) (gatP zi zd (rowsOf 0 zss)) true (fun _ => False) (G ((base 17).at ⟨#[lv] ++ Array.replicate 49 undef, []⟩ [.code gaB]) cs) w₀ := by
  refine ⟨fun e => (by cases e), fun _ => ⟨60, ?_⟩⟩
  obtain ⟨a0, cap, rfl, hc⟩ := hR.val
  have hlen := hR.len
  simp only [Array.replicate_succ, Array.replicate_zero]
  walk_nrm
  refine way_seq ?_
  refine way_region rfl ?_
  refine way_val (v := .slice none 0 0) rfl rfl (by decide) (fun w => ⟨by simp [go_sem], by simp [go_sem]⟩) ?_
  walk_nrm
  refine way_out ?_
  refine way_seq ?_
  refine way_region rfl ?_
  refine way_stop (fun w₁ r₁ => ?_)
  have h4 : KP w₀ w₁ := r₁
  have r₂ := r₁.trans (rely_ch w₀.heap.size (fun _ => False) w₁)
  refine atP_chan rfl rfl (by decide) (by simp [go_sem, Instr.makeChan]) (by simp [go_sem, Instr.makeChan]) ⟨fun e => (by cases e), fun _ => ⟨60, ?_⟩⟩
  change Gat.Way _ _ _ _ _ _ _ (mkCh w₁)
  generalize mkCh w₁ = w₂ at r₂ ⊢
  generalize w₁.heap.size = all
  walk_nrm
  refine way_val (v := .chan (some all)) rfl rfl (by decide) (fun w => ⟨by simp [go_sem], by simp [go_sem]⟩) ?_
  walk_nrm
  refine way_out ?_
  refine way_seq ?_
  refine way_region rfl ?_
  refine way_stop (fun w₃ r₃ => ?_)
  have r₄ := (r₂.trans r₃).trans (rely_ch w₀.heap.size (fun _ => False) w₃)
  refine atP_chan rfl rfl (by decide) (by simp [go_sem, Instr.makeChan]) (by simp [go_sem, Instr.makeChan]) ⟨fun e => absurd (Proc.isQuit_iff.1 e) spnP_ne_quit, fun _ => ?_⟩
  change ∃ n, Gat.Way _ _ _ _ n _ _ (mkCh w₃)
  generalize mkCh w₃ = w₄ at r₄ ⊢
  generalize w₃.heap.size = dn
  have hR₄ := hR.rely r₄
  rw [rowsOf_length, rowsOf_total]
  obtain ⟨n, hn⟩ := spn_head (w₀ := w₀) (cs := cs) (lv := .slice a0 rvs.length cap) all dn F hF rvs zss hFF zss 0 (fun _ => False) undef undef undef undef undef undef undef (.chan (some all)) (.chan (some dn)) undef undef undef undef undef undef undef undef undef undef undef undef undef undef undef undef undef undef undef undef undef undef undef undef undef undef undef undef undef undef undef undef undef undef w₄ rfl (by simp) (fun _ h => h.elim) hR₄ r₄
  refine ⟨n + 11, ?_⟩
  walk_nrm
  refine way_val (v := .chan (some dn)) rfl rfl (by decide) (fun w => ⟨by simp [go_sem], by simp [go_sem]⟩) ?_
  walk_nrm
  refine way_out ?_
  refine way_seq ?_
  refine way_seq ?_
  refine way_region rfl ?_
  refine way_val (v := .slice a0 rvs.length cap) rfl rfl (by decide) (fun w => ⟨by simp [go_sem], by simp [go_sem]⟩) ?_
  walk_nrm
  refine way_val (v := .int .i64 zss.length) rfl rfl (by decide) (fun w => ⟨by simp [go_sem, hlen], by simp [go_sem]⟩) ?_
  walk_nrm
  refine way_val (v := .int .i64 (0 : Nat)) rfl rfl (by decide) (fun w => ⟨by simp [go_sem], by simp [go_sem]⟩) ?_
  walk_nrm
  refine way_out ?_
  refine way_block ?_
  refine way_loop ?_
  exact hn
end
end Go.Proofs.Ytjcplblnapcfcaa
