/-
  Fan over strings, and MuxFans: the closure, Fan, the law. (FnS, FnT, FsB in one text: a claim has at most 60 files.)
-/
import Derived.Test.YtjcplblnapcfcaaFnA
import Derived.Test.YtjcplblnapcfcaaStJ
import Derived.BigRegion
import Derived.Deep.RegionHeld
import Derived.BigQuiet
set_option linter.unusedSimpArgs false
namespace Go.Proofs.Ytjcplblnapcfcaa.S
open Go Go.Gat Go.Conc Go.RowKit

theorem info53 : (Try.prog.info? 53).map (fun i => (i.zero, i.size, i.bytes)) = some (some (.slice none 0 0), 1, 24) := by kernel_rfl
theorem info9 : (Try.prog.info? 9).map (fun i => (i.zero, i.size, i.bytes)) = some (some (.string ByteArray.empty), 1, 16) := by kernel_rfl
theorem info3 : (Try.prog.info? 3).map (fun i => (i.zero, i.size, i.bytes)) = some (some (.int .i64 0), 1, 8) := by kernel_rfl

/-- A row that lies somewhere, in a block of strings. -/
structure RowX (w : World) (rv : Value) (zs : List El) : Prop where
  val : ∃ a cap, rv = .slice a zs.length cap ∧ (0 < zs.length → ∃ blk off cur, a = some ⟨blk, off, none⟩ ∧ w.heap[blk]? = some (.cells cur 9 (0, 0)) ∧ ∀ j x, zs[j]? = some x → w.cell? ⟨blk, off + j, none⟩ = some (enc x))
/-- The list of rows, so far. -/
structure RowsX (W w : World) (l : Value) (zss : List (List El)) (rvs : List Value) : Prop where
  own : w.ownsRow W.heap.size 53 1 l rvs.length rvs
  len : rvs.length = zss.length
  row : ∀ (j : Nat) rv zs, rvs[j]? = some rv → zss[j]? = some zs → RowX w rv zs
  kp : KP W w

theorem own_ne {w : World} {B n : Nat} {e : TypeId} {l : Value} {xs : List Value} (h : w.ownsRow B e 1 l n xs) {blk : Nat} {cur : Array Value} {e' : TypeId} {fr : Nat × Nat} (hb : w.heap[blk]? = some (.cells cur e' fr)) (hne : e ≠ e') : l.ownBlock ≠ some blk := by
  rcases h.2 with ⟨rfl, _⟩ | ⟨g, cap, cur', rfl, _, hg, _⟩
  · intro e; cases e
  · intro e
    simp only [Value.ownBlock, Option.some.injEq] at e
    subst e
    rw [hg] at hb
    simp at hb
    exact hne hb.2.1
theorem RowX.keep {w w' : World} {rv : Value} {zs : List El} (h : RowX w rv zs) (hk : ∀ (blk : Nat) (cur : Array Value), w.heap[blk]? = some (.cells cur 9 (0, 0)) → w'.heap[blk]? = w.heap[blk]?) : RowX w' rv zs := by
  obtain ⟨a, cap, e, h⟩ := h.val
  refine ⟨a, cap, e, fun h0 => ?_⟩
  obtain ⟨blk, off, cur, e1, e2, e4⟩ := h h0
  exact ⟨blk, off, cur, e1, (hk blk cur e2).trans e2, fun j x hx => (World.cell?_of_block (hk blk cur e2)).trans (e4 j x hx)⟩
theorem own_keep {w w' : World} {B n : Nat} {e : TypeId} {l : Value} {xs : List Value} (h : w.ownsRow B e 1 l n xs) (hk : ∀ (blk : Nat) (cur : Array Value), w.heap[blk]? = some (.cells cur e (0, 0)) → w'.heap[blk]? = w.heap[blk]?) : w'.ownsRow B e 1 l n xs := by
  refine ⟨h.1, h.2.imp id ?_⟩
  rintro ⟨g, cap, cur, rfl, h2, h3, h4⟩
  exact ⟨g, cap, cur, rfl, h2, (hk g cur h3).trans h3, h4⟩
theorem RowsX.keep {W w w' : World} {l : Value} {zss : List (List El)} {rvs : List Value} (h : RowsX W w l zss rvs) (hk : ∀ (blk : Nat) (cur : Array Value) (e : TypeId), e = 9 ∨ e = 53 → w.heap[blk]? = some (.cells cur e (0, 0)) → w'.heap[blk]? = w.heap[blk]?) (hW : KP W w') : RowsX W w' l zss rvs :=
  ⟨own_keep h.own fun blk cur e => hk blk cur 53 (.inr rfl) e, h.len, fun j rv zs h1 h2 => (h.row j rv zs h1 h2).keep fun blk cur e => hk blk cur 9 (.inl rfl) e, hW⟩

theorem RowsX.at {W w : World} {l : Value} {zss : List (List El)} {rvs : List Value} (h : RowsX W w l zss rvs) (hmax : rvs.length ≤ 9223372036854775807) (hz : ∀ zs ∈ zss, zs.length ≤ maxLen) : RowsAt w.heap.size l rvs zss w := by
  refine ⟨?_, Nat.le_refl _, h.len, hmax, fun j rv zs h1 h2 => ?_⟩
  · rcases h.own.2 with ⟨rfl, h0⟩ | ⟨g, cap, cur, rfl, hb, hg, _, _, _, _⟩
    · exact ⟨none, 0, by rw [h0], fun h => absurd h (by omega)⟩
    · refine ⟨_, cap, rfl, fun _ => ⟨g, 0, rfl, (Array.getElem?_eq_some_iff.1 hg).1, fun j x hx => ?_⟩⟩
      have := h.own.cells (g := g) rfl j x hx
      rwa [show (⟨g, 0, none⟩ : Addr).add j = ⟨g, 0 + j, none⟩ by unfold Addr.add; split <;> simp_all] at this
  · obtain ⟨a, cap, e, h3⟩ := (h.row j rv zs h1 h2).val
    refine ⟨⟨a, cap, e, fun h0 => ?_⟩, Nat.le_refl _, hz zs (List.mem_of_getElem? h2)⟩
    obtain ⟨blk, off, cur, e1, e2, e4⟩ := h3 h0
    exact ⟨blk, off, e1, (Array.getElem?_eq_some_iff.1 e2).1, e4⟩

/-- One row more. -/
theorem RowsX.snoc {W w1 w2 : World} {l l' v' : Value} {zss : List (List El)} {rvs : List Value} {zs : List El} {o : Obj} (h : RowsX W w1 l zss rvs) (hv : RowX w1 v' zs)
    (ho : w2.ownsRow W.heap.size 53 1 l' (rvs.length + 1) (rvs ++ [v'])) (hg : (w1.alloc o).grownBy w2 l.ownBlock) : RowsX W w2 l' (zss ++ [zs]) (rvs ++ [v']) := by
  have hs := h.kp.size
  have hlb : ∀ k, l.ownBlock = some k → W.heap.size ≤ k := fun k hk => (h.own.lt k hk).1
  have k2 : ∀ (blk : Nat) (cur : Array Value), w1.heap[blk]? = some (.cells cur 9 (0, 0)) → w2.heap[blk]? = w1.heap[blk]? := fun blk cur e => by
    have hlt : blk < w1.heap.size := (Array.getElem?_eq_some_iff.1 e).1
    exact (hg.block blk (by simp; omega) (Ne.symm (own_ne h.own e (by decide)))).trans (Below.heap_alloc _ _ _ hlt)
  refine ⟨by simpa using ho, by simp [h.len], fun j rv zs' h1 h2 => ?_, ?_⟩
  · by_cases hj : j < rvs.length
    · rw [List.getElem?_append_left hj] at h1
      rw [List.getElem?_append_left (by rw [← h.len]; exact hj)] at h2
      exact (h.row j rv zs' h1 h2).keep k2
    · rw [List.getElem?_append_right (by omega)] at h1
      rw [List.getElem?_append_right (by rw [← h.len]; omega)] at h2
      have e1 : j - rvs.length = 0 := by
        apply Classical.byContradiction
        intro e
        rw [List.getElem?_eq_none (by simp; omega)] at h1
        cases h1
      have e2 : j - zss.length = 0 := by rw [← h.len]; exact e1
      rw [e1] at h1
      rw [e2] at h2
      simp at h1 h2
      subst h1 h2
      exact hv.keep k2
  · refine ⟨?_, fun b hb' hl => ?_, hg.os.trans h.kp.os, hg.output.trans h.kp.output⟩
    · have := hg.size
      simp at this
      omega
    · refine ((hg.block b (by simp; omega) fun e => ?_).trans (Below.heap_alloc _ _ _ (by omega))).trans (h.kp.keep b hb' hl)
      have := hlb b e.symm
      omega

/-- A clone of a row. -/
theorem clone34 {w : World} {rv : Value} {zs : List El} (h : RowX w rv zs) (hz : zs.length ≤ 1000) :
    Calls Try.prog 34 #[rv] w fun e w' => ∃ v', e = .returned v' ∧ Below w.heap.size w w' ∧ RowX w' v' zs := by
  obtain ⟨a, cap, rfl, hc⟩ := h
  have fin : ∀ {v' : Value} {w' : World}, w'.ownsRow w.heap.size 9 1 v' zs.length (zs.map enc) → RowX w' v' zs := by
    intro v' w' ho
    rcases ho.2 with ⟨rfl, h0⟩ | ⟨g, cap, cur, rfl, hb, hg, _, _, _, _⟩
    · exact ⟨none, 0, by rw [h0], fun h => absurd h (by omega)⟩
    · refine ⟨_, cap, rfl, fun _ => ⟨g, 0, cur, rfl, hg, fun j x hx => ?_⟩⟩
      have := ho.cells (g := g) rfl j (enc x) (by simp [hx])
      rwa [show (⟨g, 0, none⟩ : Addr).add j = ⟨g, 0 + j, none⟩ by unfold Addr.add; split <;> simp_all] at this
  cases a with
  | none =>
    have h0 : zs.length = 0 := by
      apply Classical.byContradiction
      intro h
      obtain ⟨_, _, _, e, _⟩ := hc (by omega)
      cases e
    refine (Try.slices_Clone_string_nil zs.length cap w).mono ?_
    rintro e w' ⟨rfl, rfl⟩
    exact ⟨_, rfl, Below.refl _ _, none, 0, by rw [h0], fun h => absurd h (by omega)⟩
  | some a =>
    by_cases h0 : zs.length = 0
    · rw [h0]
      refine (Try.slices_Clone_string_zero a cap w).mono ?_
      rintro e w' ⟨v', rfl, ho, _, hb⟩
      have : zs = [] := List.eq_nil_of_length_eq_zero h0
      subst this
      exact ⟨v', rfl, hb, fin ho⟩
    · obtain ⟨blk, off, _, e, _, hcell⟩ := hc (by omega)
      cases e
      refine (Try.slices_Clone_string blk off zs.length cap zs w (Nat.le_refl _) (by omega) (fun j hj => by rw [hcell j zs[j] (List.getElem?_eq_getElem hj)]; simp [List.getD, List.getElem?_eq_getElem hj])).mono ?_
      rintro e w' ⟨v', rfl, ho, _, hb⟩
      rw [List.take_of_length_le (Nat.le_refl _)] at ho
      exact ⟨v', rfl, hb, fin ho⟩

/-- What has been asked, k times: the box's row holds 0 .. k-1. -/
structure AskX (W w : World) (B ba b3 : Nat) (A : Value) (k size : Nat) : Prop where
  box : w.heap[ba]? = some (.cells #[A] 22 (0, 0))
  own : w.ownsRow B 3 1 A k ((List.range k).map fun i => .int .i64 (i : Nat))
  low : W.heap.size ≤ ba
  base : W.heap.size ≤ B ∧ B ≤ w.heap.size ∧ b3 < B
  size : w.heap[b3]? = some (.cells #[.int .i64 size] 3 (0, 0))
  kp : KP W w

/-- From w to w': only the asked changes. -/
structure Asks (w w' : World) (ba : Nat) (A : Value) : Prop where
  size : w.heap.size ≤ w'.heap.size
  keep : ∀ b, b < w.heap.size → b ≠ ba → A.ownBlock ≠ some b → w'.heap[b]? = w.heap[b]?

def ch (k : Nat) : ByteArray := strOfNums [97 + (k : Int)]
theorem conv_ch (w : World) (k : Nat) : (convert 54 9 (.slice (some ⟨w.heap.size, 0, none⟩) 1 1)).run Try.prog (w.alloc (.cells #[.int .u8 (97 + (k : Int))] 5)) = .ok (.string (ch k)) (w.alloc (.cells #[.int .u8 (97 + (k : Int))] 5)) :=
  run_convert_bytes_arg (P := Try.prog) _ 54 5 Try.underlying54 (by kernel_rfl) w.heap.size 0 1 1 [97 + (k : Int)] rfl (fun i hi => by
    obtain rfl : i = 0 := by omega
    simp) 9 (by kernel_rfl)
def chs (n : Nat) : List El := (List.range n).map ch

set_option maxRecDepth 100000 in
set_option maxHeartbeats 4000000 in
theorem clo21 {W w : World} {B ba b3 k size : Nat} {A : Value} (h : AskX W w B ba b3 A k size) (hk : k ≤ 1000) (hs : size ≤ 5) :
    Calls Try.prog 21 #[.int .i64 k, .pointer (some ⟨ba, 0, none⟩), .pointer (some ⟨b3, 0, none⟩)] w fun e w' => ∃ v' A', e = .returned v' ∧ AskX W w' B ba b3 A' (k + 1) size ∧ Asks w w' ba A ∧ RowX w' v' (chs size) := by
  obtain ⟨hbox, hown, hlow, ⟨hB1, hB2, hB3⟩, hsz, hkp⟩ := h
  have hb3 : A.ownBlock ≠ some b3 := fun e => by have := (hown.lt b3 e).1; omega
  have hWs := hkp.size
  have c1 : w.cell? ⟨ba, 0, none⟩ = some A := by simp [World.cell?, hbox]
  obtain ⟨i3, hi, hz0, hz1, hz2⟩ := info_parts info3
  go_enter Try.func21, Try.ntmps21
  go_wp2_with (at_builtin; refine wpList_append_own _ rfl (.tmp 7) (.tmp 9) 22 rfl B 3 i3 (.int .i64 0) 1 8 Try.underlying22 hi hz0 hz1 hz2 rfl (by decide) _ _ _ rfl (hown.alloc _) ⟨w.heap.size, 0, none⟩ 1 1 [.int .i64 k] rfl rfl ?c1 ?c2 ?c3 ?c4 ?c5 ?_)
  case c1 =>
    intro j u hu
    match j, hu with
    | 0, hu => simp at hu; subst hu; simp [Addr.add]
  case c2 => intro u hu; simp at hu; subst hu; rfl
  case c3 => unfold maxLen; omega
  case c4 => omega
  case c5 => simp; omega
  intro A' w2 ho hg _
  rw [← List.map_singleton (f := fun i : Nat => Value.int .i64 (i : Nat)), ← List.map_append, ← List.range_succ] at ho
  have hltba : ba < w.heap.size := (Array.getElem?_eq_some_iff.1 hbox).1
  have hltb3 : b3 < w.heap.size := (Array.getElem?_eq_some_iff.1 hsz).1
  have old : ∀ b, b < w.heap.size → A.ownBlock ≠ some b → w2.heap[b]? = w.heap[b]? := fun b hb hne => (hg.block b (by simp; omega) (Ne.symm hne)).trans (Below.heap_alloc _ _ _ hb)
  have hbox2 : w2.heap[ba]? = some (.cells #[A] 22 (0, 0)) := (old ba hltba (own_ne hown hbox (by decide))).trans hbox
  have hsz2 := (old b3 hltb3 hb3).trans hsz
  have hfz : w2.frozen? ⟨ba, 0, none⟩ = false := by simp [World.frozen?, hbox2]
  have hc2 : w2.cell? ⟨ba, 0, none⟩ = some A := by simp [World.cell?, hbox2]
  obtain ⟨ga, capa, rfl⟩ : ∃ g c, A' = .slice (some ⟨g, 0, none⟩) (k + 1) c := by
    rcases ho.2 with ⟨_, h0⟩ | ⟨g, c, _, e, _⟩
    · omega
    · exact ⟨g, c, e⟩
  have hA : AskX W (w2.setCell ⟨ba, 0, none⟩ (.slice (some ⟨ga, 0, none⟩) (k + 1) capa)) B ba b3 (.slice (some ⟨ga, 0, none⟩) (k + 1) capa) (k + 1) size ∧ Asks w (w2.setCell ⟨ba, 0, none⟩ (.slice (some ⟨ga, 0, none⟩) (k + 1) capa)) ba A := by
    have hsz' := hg.size
    simp at hsz'
    have hne3 : b3 ≠ ba := fun e => by subst e; rw [hbox] at hsz; simp at hsz
    have hat : ∀ b, b ≠ ba → (w2.setCell ⟨ba, 0, none⟩ (.slice (some ⟨ga, 0, none⟩) (k + 1) capa)).heap[b]? = w2.heap[b]? := fun b hb => by
      simp only [World.setCell]
      rw [Array.getElem?_modify, if_neg (Ne.symm hb)]
    have hsize : (w2.setCell ⟨ba, 0, none⟩ (.slice (some ⟨ga, 0, none⟩) (k + 1) capa)).heap.size = w2.heap.size := by simp [World.setCell]
    have hn : w2.ownsRow B 3 1 (.slice (some ⟨ga, 0, none⟩) (k + 1) capa) (k + 1) _ := ho
    refine ⟨⟨?_, own_keep ho fun blk cur e => hat blk fun e' => ?_, hlow, ⟨hB1, ?_, hB3⟩, (hat b3 hne3).trans hsz2, ⟨?_, fun b hb hl => ?_, ?_, ?_⟩⟩, ⟨?_, fun b hb h1 h2 => (hat b h1).trans (old b hb h2)⟩⟩
    · simp only [World.setCell]
      rw [Array.getElem?_modify, if_pos rfl, hbox2]
      simp
    · subst e'
      rw [hbox2] at e
      simp at e
    · rw [hsize]; omega
    · rw [hsize]; omega
    · have : b ≠ ba := by omega
      refine ((hat b this).trans (old b (by omega) fun e => ?_)).trans (hkp.keep b hb hl)
      have := (hown.lt b e).1
      omega
    · exact hg.os.trans hkp.os
    · exact hg.output.trans hkp.output
    · rw [hsize]; omega
  go_wp2
  generalize w2.setCell ⟨ba, 0, none⟩ (.slice (some ⟨ga, 0, none⟩) (k + 1) capa) = w3 at hA ⊢
  clear ho hg old hbox2 hsz2 hfz hc2 hbox hown hsz c1 hb3 hkp hi hz0 hz1 hz2 hltba hltb3
  obtain ⟨i9, hi, hz0, hz1, hz2⟩ := info_parts info9
  have hs3 : w3.cell? ⟨b3, 0, none⟩ = some (.int .i64 size) := by simp [World.cell?, hA.1.size]
  have hlt3 : b3 < w3.heap.size := by have := hA.1.base; omega
  have HA := Lib.hid hA
  clear hA hWs hB1 hB2 hB3 hlow
  go_loopw [6, 5] (fun i l w' => ∃ m : Nat, m ≤ size ∧ i = .int .i64 m ∧ w'.ownsRow w3.heap.size 9 1 l m ((chs m).map enc) ∧ Below w3.heap.size w3 w') (fun i _ _ => size - (intOf i).toNat)
  case atStart => exact ⟨0, by omega, rfl, World.ownsRow_nil _ _ _ _, Below.refl _ _⟩
  case round =>
    obtain ⟨m, hm, rfl, ho, hb⟩ := hrel
    have hsr : wr.cell? ⟨b3, 0, none⟩ = some (.int .i64 size) := (World.cell?_of_block (a := ⟨b3, 0, none⟩) (hb.block b3 hlt3)).trans hs3
    by_cases hlt : m < size
    · have hcv := fun w => conv_ch w m
      go_wp2_with (at_builtin; refine wpList_append_own _ rfl (.tmp 16) (.tmp 22) 53 rfl w3.heap.size 9 i9 (.string ByteArray.empty) 1 16 Try.underlying53 hi hz0 hz1 hz2 rfl (by decide) _ _ _ rfl ((ho.alloc _).alloc _) ⟨wr.heap.size + 1, 0, none⟩ 1 1 [.string (ch m)] rfl (by simp) ?c1 ?c2 ?c3 ?c4 ?c5 ?_)
      case c1 =>
        intro j u hu
        match j, hu with
        | 0, hu => simp at hu; subst hu; simp [Addr.add]
      case c2 => intro u hu; simp at hu; subst hu; rfl
      case c3 => unfold maxLen; omega
      case c4 => omega
      case c5 => have := hb.size; simp; omega
      intro l' w4 ho4 hg4 _
      have e : (chs m).map enc ++ [.string (ch m)] = (chs (m + 1)).map enc := by simp [chs, List.range_succ]
      rw [e] at ho4
      have hb4 : Below w3.heap.size w3 w4 := by
        have h0 := hb.size
        have h1 := hg4.size
        simp at h1
        refine { os := hg4.os.trans hb.os, tape := hg4.tape.trans hb.tape, output := hg4.output.trans hb.output, size := by omega, block := fun b hlt => ?_ }
        refine (hg4.block b (by simp; omega) fun e => ?_).trans ?_
        · have := (ho.lt b e.symm).1
          omega
        · rw [Below.heap_alloc _ _ _ (by simp; omega), Below.heap_alloc _ _ _ (by omega)]
          exact hb.block b hlt
      clear ho hg4 hb hcv
      go_wp2
      go_roundw
      case rel => exact ⟨m + 1, by omega, by go_num, ho4, hb4⟩
      case measure => simp [intOf]; omega
    · obtain rfl : m = size := by omega
      go_wp2
      go_ret
      have hA := HA.out
      have hbs := hb.size
      have hk3 : ∀ b, b < w3.heap.size → wr.heap[b]? = w3.heap[b]? := fun b hlt => hb.block b hlt
      have hlo := hA.1.base
      refine ⟨u5, _, rfl, ⟨(hk3 ba (Array.getElem?_eq_some_iff.1 hA.1.box).1).trans hA.1.box, own_keep hA.1.own fun blk cur e => hk3 blk (Array.getElem?_eq_some_iff.1 e).1, hA.1.low, ⟨hlo.1, by omega, hlo.2.2⟩, (hk3 b3 (by omega)).trans hA.1.size, ⟨by have := hA.1.kp.size; omega, fun b hh hl => (hk3 b (by have := hA.1.kp.size; omega)).trans (hA.1.kp.keep b hh hl), hb.os.trans hA.1.kp.os, hb.output.trans hA.1.kp.output⟩⟩, ⟨by have := hA.2.size; omega, fun b h0 h1 h2 => (hk3 b (by have := hA.2.size; omega)).trans (hA.2.keep b h0 h1 h2)⟩, ?_⟩
      have hl : (chs m).length = m := by simp [chs]
      rcases ho.2 with ⟨rfl, h0⟩ | ⟨g, cap, cur, rfl, _, hg, _, _, _, _⟩
      · exact ⟨none, 0, by rw [hl, h0], fun h => absurd h (by omega)⟩
      · refine ⟨_, cap, by rw [hl], fun _ => ⟨g, 0, cur, rfl, hg, fun j x hx => ?_⟩⟩
        have := ho.cells (g := g) rfl j (enc x) (by simp [hx])
        rwa [show (⟨g, 0, none⟩ : Addr).add j = ⟨g, 0 + j, none⟩ by unfold Addr.add; split <;> simp_all] at this
end Go.Proofs.Ytjcplblnapcfcaa.S

namespace Go.Proofs.Ytjcplblnapcfcaa.S
open Go Go.Gat Go.Conc Go.RowKit

theorem clamp_any (n : Int) (hn : n ≤ 1000) (w : World) : Calls Try.prog 32 #[.int .i64 n, .int .i64 0, .int .i64 1000] w fun e w' => e = .returned (.int .i64 (n.toNat : Nat)) ∧ w = w' := by
  by_cases h : n < 0
  · have e : n.toNat = 0 := by omega
    rw [e]
    go_enter Try.func32, Try.ntmps32
    go_wp2
    go_ret
    exact ⟨rfl, rfl⟩
  · obtain ⟨k, rfl⟩ : ∃ k : Nat, n = k := ⟨n.toNat, by omega⟩
    have := clamp32 k (by omega) w
    simpa using this

theorem run_equalIn_func (d : Nat) (f : Fn) (a b : Array Value) (w : World) : (Op.equalIn (d + 1) 55 (.func f a b) .nilFunc).run Try.prog w = .ok false w := by
  simp [Op.equalIn, run_underlying Try.underlying55]
theorem run_equal_func (f : Fn) (a b : Array Value) (w : World) : (Op.equal 55 (.func f a b) .nilFunc).run Try.prog w = .ok false w := run_equalIn_func 9999 f a b w
theorem guard_func (f : Fn) (a b : Array Value) (x y : Operand) (w : World) : (eqGuard BinOp.eql 55 x y (.func f a b) .nilFunc).run Try.prog w = .ok () w := by
  cases x <;> cases y <;> simp [go_sem, eqGuard]
theorem bin_func (f : Fn) (a b : Array Value) (w : World) : (binOp BinOp.eql 55 (.func f a b) .nilFunc).run Try.prog w = .ok (.bool false) w := by
  simp [go_sem, binOp, run_equal_func]

noncomputable def fnB : Code := Try.f20.body.getD .skip
theorem chs_length (n : Nat) : (chs n).length = n := by simp [chs]

theorem AskX.re {W w w' : World} {B ba b3 k size : Nat} {A : Value} (h : AskX W w B ba b3 A k size) (hk : KP w w') : AskX W w' B ba b3 A k size := by
  have k3 : ∀ b, b < w.heap.size → w'.heap[b]? = w.heap[b]? := fun b hlt => hk.keep b (.inl hlt) hlt
  have hs := hk.size
  have hb := h.base
  exact ⟨(k3 ba (Array.getElem?_eq_some_iff.1 h.box).1).trans h.box, own_keep h.own fun blk cur e => k3 blk (Array.getElem?_eq_some_iff.1 e).1, h.low, ⟨hb.1, by omega, hb.2.2⟩, (k3 b3 (by omega)).trans h.size, kp_trans h.kp hk⟩

set_option maxRecDepth 100000 in
set_option maxHeartbeats 4000000 in
theorem fan20 {W w : World} {B ba b3 size : Nat} {n : Int} (hX : AskX W w B ba b3 (.slice none 0 0) 0 size) (hn : n ≤ 60) (hs : size ≤ 5) :
    GCalls Try.prog 20 #[.int .i64 n, .func (.func 21) #[] #[.pointer (some ⟨ba, 0, none⟩), .pointer (some ⟨b3, 0, none⟩)]] w
      (fun v w' => w'.ownsRow W.heap.size 57 3 v (tripsOf 0 (List.replicate n.toNat (chs size))).length ((tripsOf 0 (List.replicate n.toNat (chs size))).flatMap enc3) ∧ ∃ A, AskX W w' B ba b3 A n.toNat size) := by
  have hP := plain
  refine gcalls_of_gwp hP Try.func20 (c := fnB) rfl ?_
  simp only [fnB, Try.f20, Option.getD_some, Array.replicate_succ, Array.replicate_zero, Array.size, List.length_cons, List.length_nil]
  walk_nrm
  refine gwp_seq hP (gwp_of_wp hP (fun _ _ h => h) (fun _ _ _ h => h) fun τ d => ?_)
  replace hX := hX.re (rely_re τ d)
  generalize re w τ d = w at hX ⊢
  go_wp2
  refine gwp_seq hP (gwp_of_wp hP (fun _ _ h => h) (fun _ _ _ h => h) fun τ d => ?_)
  replace hX := hX.re (rely_re τ d)
  generalize re w τ d = w at hX ⊢
  have heq := fun w => bin_func (.func 21) #[] #[.pointer (some ⟨ba, 0, none⟩), .pointer (some ⟨b3, 0, none⟩)] w
  have heg := fun x y w => guard_func (.func 21) #[] #[.pointer (some ⟨ba, 0, none⟩), .pointer (some ⟨b3, 0, none⟩)] x y w
  go_wp2
  clear heq heg
  refine gwp_seq hP (gwp_of_wp hP (fun _ _ h => h) (fun _ _ _ h => h) fun τ d => ?_)
  replace hX := hX.re (rely_re τ d)
  generalize re w τ d = w at hX ⊢
  go_wp2
  refine gwp_seq hP (gwp_of_wp hP (fun _ _ h => h) (fun _ _ _ h => h) fun τ d => ?_)
  replace hX := hX.re (rely_re τ d)
  generalize re w τ d = w at hX ⊢
  have hcl := clamp_any n (by omega) w
  have hN : n.toNat ≤ 60 := by omega
  generalize n.toNat = N at hcl hN ⊢
  go_wp2_with (go_at_call 32; refine hcl.mono ?_; rintro e w' ⟨rfl, rfl⟩)
  clear hcl
  go_loopw [11, 5, 6] (fun i l _ wr => ∃ (k : Nat) (rs : List Value) (A : Value), k ≤ N ∧ i = .int .i64 k ∧ RowsX W wr l (List.replicate k (chs size)) rs ∧ AskX W wr B ba b3 A k size) (fun i _ _ _ => N - (intOf i).toNat)
  case atStart => exact ⟨0, [], _, by omega, rfl, ⟨World.ownsRow_nil _ _ _ _, rfl, fun j _ _ h => (by simp at h), hX.kp⟩, hX⟩
  case round =>
    obtain ⟨k, rs, A, hkl, rfl, hR, hX⟩ := hrel
    by_cases hlt : k < N
    · have htold := clo21 hX (by omega) hs
      go_wp2_with (go_at_call 21; refine htold.mono ?_; rintro e w1 ⟨v1, A1, rfl, hX1, hAsk, hv1⟩)
      have hcl := clone34 hv1 (by rw [chs_length]; omega)
      refine hcl.mono ?_
      rintro e w2 ⟨v2, rfl, hb2, hv2⟩
      clear hcl htold
      obtain ⟨i0, hi, hz0, hz1, hz2⟩ := info_parts info53
      obtain ⟨av, cv, rfl, _⟩ := hv2.val
      have hrl : rs.length = k := by rw [hR.len]; simp
      have hX2 := hX1.re ⟨hb2.size, fun b _ hl => hb2.block b hl, hb2.os, hb2.output⟩
      have hR2 : RowsX W w2 u5 (List.replicate k (chs size)) rs := by
        refine hR.keep (fun blk cur e he hc => ?_) hX2.kp
        have hl := (Array.getElem?_eq_some_iff.1 hc).1
        refine (hb2.block blk (by have := hAsk.size; omega)).trans (hAsk.keep blk hl (fun e' => ?_) fun e' => ?_)
        · subst e'
          rw [hX.box] at hc
          simp at hc
          rcases he with rfl | rfl <;> exact absurd hc.2 (by decide)
        · refine own_ne hX.own hc ?_ e'
          rcases he with rfl | rfl <;> decide
      have hs2 := hX2.kp.size
      have hown2 := hR2.own
      go_wp2_with (at_builtin; refine wpList_append_own _ rfl (.tmp 14) (.tmp 19) 77 rfl W.heap.size 53 i0 (.slice none 0 0) 1 24 Try.underlying77 hi hz0 hz1 hz2 rfl (by decide) _ _ _ rfl (hown2.alloc _) ⟨w2.heap.size, 0, none⟩ 1 1 [.slice av (chs size).length cv] rfl rfl ?c1 ?c2 ?c3 ?c4 ?c5 ?_)
      case c1 =>
        intro j u hu
        match j, hu with
        | 0, hu => simp at hu; subst hu; simp [Addr.add]
      case c2 => intro u hu; simp at hu; subst hu; rfl
      case c3 => unfold maxLen; omega
      case c4 => omega
      case c5 => simp; omega
      intro l' w3 ho hg _
      have hR3 := hR2.snoc hv2 (by rw [hrl]; exact ho) hg
      have hX3 : AskX W w3 B ba b3 A1 (k + 1) size := by
        have hbb := hX2.base
        have hsz := hg.size
        simp at hsz
        have k3 : ∀ b, b < w2.heap.size → u5.ownBlock ≠ some b → w3.heap[b]? = w2.heap[b]? := fun b hl hne => (hg.block b (by simp; omega) (Ne.symm hne)).trans (Below.heap_alloc _ _ _ hl)
        refine ⟨(k3 ba (Array.getElem?_eq_some_iff.1 hX2.box).1 (own_ne hown2 hX2.box (by decide))).trans hX2.box, own_keep hX2.own fun blk cur e => k3 blk (Array.getElem?_eq_some_iff.1 e).1 (own_ne hown2 e (by decide)), hX2.low, ⟨hbb.1, by omega, hbb.2.2⟩, (k3 b3 (by omega) (own_ne hown2 hX2.size (by decide))).trans hX2.size, hR3.kp⟩
      have etk : List.replicate k (chs size) ++ [chs size] = List.replicate (k + 1) (chs size) := by rw [← List.replicate_append_replicate]; rfl
      rw [etk] at hR3
      clear ho hg hown2 hR2 hR hX hX1 hX2 hb2 hv1 hv2 hAsk etk hi hz0 hz1 hz2
      go_wp2
      go_roundw
      case rel => exact ⟨k + 1, _, A1, by omega, by go_num, hR3, hX3⟩
      case measure => simp [intOf]; omega
    · obtain rfl : k = N := by omega
      go_wp2
      have hF : ((List.replicate k (chs size)).flatten.length + (List.replicate k (chs size)).length) * 32 ≤ 140737488355328 := by
        have h1 : (List.replicate k (chs size)).flatten.length = k * size := by simp [chs_length]
        have h2 : k * size ≤ 60 * 5 := Nat.mul_le_mul hN hs
        rw [h1, List.length_replicate]
        omega
      have hmx : ∀ zs ∈ List.replicate k (chs size), zs.length ≤ maxLen := fun zs h => by rw [List.eq_of_mem_replicate h, chs_length]; unfold maxLen; omega
      have hRx : ∀ τ d, RowsAt (re wr τ d).heap.size u5 rs (List.replicate k (chs size)) (re wr τ d) := fun τ d => (hR.at (by rw [hR.len]; simp; omega) hmx).rely (rely_re (own := fun _ => False) τ d)
      have hkx := hR.kp
      clear hR
      refine gwp_seq hP (gwp_region hP ?_)
      refine gwpOps_value (v := u5) (w₁ := wr) hP rfl rfl (fun τ d => by simp [go_sem]) ?_
      walk_nrm
      refine gwpOps_call (f := 35) (args := #[u5]) (R := fun v w' => Gathered wr (List.replicate k (chs size)) v w') hP rfl rfl (fun τ e => ?_) (gather17 (hRx wr.tape wr.drawn) hF) (fun v w₂ hG => ?_)
      · refine (run_call_body rfl Try.func35 (by decide) rfl).trans ?_
        simp [Act.eval]
      walk_nrm
      refine gwpOps_value (v := v) (w₁ := w₂) hP rfl rfl (fun τ d => by simp [go_sem]) ?_
      walk_nrm
      refine gwpOps_nil hP ?_
      simp only [Exit.then]
      exact gwp_ret hP ⟨rfl, v, fun τ d => results_tmp (fn := Try.f20) (t := 4) rfl _ Try.prog _, World.ownsRow.base hG.1 hkx.size, A, hX.re hG.2⟩
theorem tripsRow_get (m : Int) : ∀ (zs : List El) (n k : Nat) (z : El), zs[k]? = some z → (tripsRow m n zs)[k]? = some (m, ((n + k : Nat) : Int), z)
  | [], _, k, z, h => by simp at h
  | x :: zs, n, 0, z, h => by simp at h; subst h; simp [tripsRow]
  | x :: zs, n, k + 1, z, h => by
    have := tripsRow_get m zs (n + 1) k z (by simpa using h)
    simp only [tripsRow, List.getElem?_cons_succ, this]
    rw [show n + 1 + k = n + (k + 1) by omega]
theorem tripsRow_length (m : Int) : ∀ (zs : List El) (n : Nat), (tripsRow m n zs).length = zs.length
  | [], _ => rfl
  | x :: zs, n => by simp [tripsRow, tripsRow_length m zs]
theorem trips_get : ∀ (zss : List (List El)) (m i k : Nat) (zs : List El) (z : El), zss[i]? = some zs → zs[k]? = some z → (tripsOf m zss)[(zss.take i).flatten.length + k]? = some (((m + i : Nat) : Int), (k : Int), z)
  | [], _, i, _, _, _, h, _ => by simp at h
  | r :: rest, m, 0, k, zs, z, h, hz => by
    simp at h
    subst h
    have hk : k < r.length := (List.getElem?_eq_some_iff.1 hz).1
    simp only [tripsOf, List.take_zero, List.flatten_nil, List.length_nil, Nat.zero_add, Nat.add_zero]
    rw [List.getElem?_append_left (by rw [tripsRow_length]; exact hk), tripsRow_get _ _ _ _ _ hz]
    simp
  | r :: rest, m, i + 1, k, zs, z, h, hz => by
    have ih := trips_get rest (m + 1) i k zs z (by simpa using h) hz
    simp only [tripsOf, List.take_succ_cons, List.flatten_cons, List.length_append]
    rw [List.getElem?_append_right (by rw [tripsRow_length]; omega), tripsRow_length, show r.length + (rest.take i).flatten.length + k - r.length = (rest.take i).flatten.length + k by omega, ih, show m + 1 + i = m + (i + 1) by omega]

/-- The items at a slice. -/
structure ItemsAt (w : World) (v : Value) (l : List It) : Prop where
  val : ∃ a cap, v = .slice a l.length cap ∧ (0 < l.length → ∃ g, a = some ⟨g, 0, none⟩ ∧ g < w.heap.size ∧ ∀ j t, l[j]? = some t → w.cell? ⟨g, j * 3, none⟩ = some (.int .i64 t.1) ∧ w.cell? ⟨g, j * 3 + 1, none⟩ = some (.int .i64 t.2.1) ∧ w.cell? ⟨g, j * 3 + 2, none⟩ = some (enc t.2.2))
theorem flat3_get' : ∀ (l : List It) (j c : Nat) (t : It), l[j]? = some t → c < 3 → (l.flatMap enc3)[j * 3 + c]? = (enc3 t)[c]?
  | [], j, c, t, h, _ => by simp at h
  | x :: l, 0, c, t, h, hc => by
    simp at h
    subst h
    rw [List.flatMap_cons, List.getElem?_append_left (by rw [enc3_length]; omega)]
    simp
  | x :: l, j + 1, c, t, h, hc => by
    rw [List.flatMap_cons, List.getElem?_append_right (by rw [enc3_length]; omega), enc3_length, show (j + 1) * 3 + c - 3 = j * 3 + c by omega]
    exact flat3_get' l j c t (by simpa using h) hc
theorem ItemsAt.of {w : World} {B : Nat} {v : Value} {l : List It} (h : w.ownsRow B 57 3 v l.length (l.flatMap enc3)) : ItemsAt w v l := by
  rcases h.2 with ⟨rfl, h0⟩ | ⟨g, cap, cur, rfl, hb, hg, _, _, _, _⟩
  · exact ⟨none, 0, by rw [h0], fun h => absurd h (by omega)⟩
  · refine ⟨_, cap, rfl, fun _ => ⟨g, rfl, (Array.getElem?_eq_some_iff.1 hg).1, fun j t ht => ?_⟩⟩
    have key : ∀ c x, (enc3 t)[c]? = some x → c < 3 → w.cell? ⟨g, j * 3 + c, none⟩ = some x := fun c x hx hc => by
      have := h.cells (g := g) rfl (j * 3 + c) x (by rw [flat3_get' l j c t ht hc]; exact hx)
      rwa [show (⟨g, 0, none⟩ : Addr).add (j * 3 + c) = ⟨g, j * 3 + c, none⟩ by unfold Addr.add; split <;> simp_all] at this
    exact ⟨key 0 _ rfl (by omega), key 1 _ rfl (by omega), key 2 _ rfl (by omega)⟩
theorem ItemsAt.kp {w w' : World} {v : Value} {l : List It} (h : ItemsAt w v l) (hk : KP w w') : ItemsAt w' v l := by
  obtain ⟨a, cap, e, h⟩ := h.val
  refine ⟨a, cap, e, fun h0 => ?_⟩
  obtain ⟨g, e1, hg, hc⟩ := h h0
  have hkeep : w'.heap[g]? = w.heap[g]? := hk.keep g (.inl hg) hg
  refine ⟨g, e1, Nat.lt_of_lt_of_le hg hk.size, fun j t ht => ?_⟩
  obtain ⟨h1, h2, h3⟩ := hc j t ht
  exact ⟨(World.cell?_of_block hkeep).trans h1, (World.cell?_of_block hkeep).trans h2, (World.cell?_of_block hkeep).trans h3⟩

end Go.Proofs.Ytjcplblnapcfcaa.S
namespace Go.Proofs.Ytjcplblnapcfcaa
open Go Go.Gat Go.Conc Go.RowKit

set_option maxRecDepth 100000 in
theorem fan18_nil (n : Int) (w : World) : Calls Try.prog 18 #[.int .i64 n, .nilFunc] w fun e w' => e = .returned (.slice none 0 0) ∧ w = w' := by
  have heq := fun w => bin_nilf w
  have heg := fun x y w => guard_nilf x y w
  go_enter Try.func18, Try.ntmps18
  go_wp2
  go_ret
  exact ⟨rfl, rfl⟩

theorem gather_nil (W : World) : GCalls Try.prog 17 #[.slice none 0 0] W fun v w' => ∃ a c, v = .slice a 0 c ∧ KP W w' := by
  have h := gather17 (w := W) (lv := .slice none 0 0) (rvs := []) (zss := []) ⟨⟨none, 0, rfl, fun h => absurd h (by simp)⟩, Nat.le_refl _, rfl, by simp, fun j _ _ h => by simp at h⟩ (by simp)
  refine h.mono ?_
  rintro v w' ⟨h, hk⟩
  rcases h.2 with ⟨rfl, _⟩ | ⟨g, cap, cur, rfl, _⟩
  · exact ⟨none, 0, rfl, hk⟩
  · exact ⟨_, cap, rfl, hk⟩
end Go.Proofs.Ytjcplblnapcfcaa

namespace Go.Proofs.Ytjcplblnapcfcaa
open Go Go.Gat Go.Conc Go.RowKit

theorem cell_al {w : World} {o : Obj} {a : Addr} {v : Value} (h : w.cell? a = some v) : (w.alloc o).cell? a = some v := (World.cell?_of_block (Below.heap_alloc _ _ _ (World.block_lt_of_cell? w _ h))).trans h
theorem S.conv_at (k b : Nat) (w : World) (h : w.cell? ⟨b, 0, none⟩ = some (.int .u8 (97 + (k : Int)))) : (convert 54 9 (.slice (some ⟨b, 0, none⟩) 1 1)).run Try.prog w = .ok (.string (S.ch k)) w :=
  run_convert_bytes_arg (P := Try.prog) _ 54 5 Try.underlying54 (by kernel_rfl) b 0 1 1 [97 + (k : Int)] rfl (fun i hi => by
    obtain rfl : i = 0 := by omega
    simpa using h) 9 (by kernel_rfl)
theorem S.items_at {w : World} {v : Value} {N size : Nat} (h : S.ItemsAt w v (S.tripsOf 0 (List.replicate N (S.chs size)))) :
    ∃ a c, v = .slice a (N * size) c ∧ ∀ p, p < N * size → ∃ g, a = some ⟨g, 0, none⟩ ∧ w.cell? ⟨g, p * 3, none⟩ = some (.int .i64 ((p / size : Nat) : Int)) ∧ w.cell? ⟨g, p * 3 + 1, none⟩ = some (.int .i64 ((p % size : Nat) : Int)) ∧ w.cell? ⟨g, p * 3 + 2, none⟩ = some (.string (S.ch (p % size))) := by
  obtain ⟨a, c, e, hc⟩ := h.val
  have hL : (S.tripsOf 0 (List.replicate N (S.chs size))).length = N * size := by rw [S.trips_length]; simp [S.chs_length]
  rw [hL] at e hc
  refine ⟨a, c, e, fun p hp => ?_⟩
  obtain ⟨g, e, _, hcell⟩ := hc (by omega)
  have hs : 0 < size := by
    rcases Nat.eq_zero_or_pos size with h | h
    · subst h; simp at hp
    · exact h
  have hi : p / size < N := (Nat.div_lt_iff_lt_mul hs).2 hp
  have hm : p % size < size := Nat.mod_lt _ hs
  have hg := S.trips_get (List.replicate N (S.chs size)) 0 (p / size) (p % size) (S.chs size) (S.ch (p % size)) (by simp [hi]) (by simp [S.chs, hm])
  have ht : ((List.replicate N (S.chs size)).take (p / size)).flatten.length + p % size = p := by
    rw [List.take_replicate, Nat.min_eq_left (Nat.le_of_lt hi)]
    simp only [List.length_flatten, List.map_replicate, List.sum_replicate_nat, S.chs_length]
    exact Nat.div_add_mod' p size
  rw [ht] at hg
  obtain ⟨h1, h2, h3⟩ := hcell p _ hg
  exact ⟨g, e, by simpa using h1, h2, h3⟩

noncomputable def fsB : Code := Try.f6.body.getD .skip
abbrev FsPost (W : World) : Exit → Act → World → Prop := lastPost Try.prog Try.f6 fun v w' => v = .bool true ∧ KP W w'

set_option maxRecDepth 100000 in
set_option maxHeartbeats 4000000 in
/-- Where it only asks whether all is awake. -/
theorem fans_far (W : World) (n m : Int) (h : n < -5 ∨ 60 < n ∨ m < 0 ∨ 5 < m) :
    Gwp Try.prog fsB (FsPost W) ⟨#[.int .i64 n, .int .i64 m] ++ Array.replicate 103 undef, []⟩ W := by
  have hP := plain
  simp only [fsB, Try.f6, Option.getD_some, Array.replicate_succ, Array.replicate_zero]
  walk_nrm
  refine gwp_seq hP (gwp_of_wp hP (fun _ _ h => h) (fun _ _ _ h => h) fun τ d => ?_)
  have hk : KP W (re W τ d) := rely_re τ d
  generalize re W τ d = w at hk ⊢
  go_wp2
  obtain ⟨W1, hW1⟩ : ∃ W1, W1 = w.alloc (.cells #[.int .i64 m] 3) := ⟨_, rfl⟩
  have hk1 : KP W W1 := by rw [hW1]; exact kp_trans hk (kp_alloc _ _)
  have hbox : W1.cell? ⟨w.heap.size, 0, none⟩ = some (.int .i64 m) := by rw [hW1]; simp
  rw [← hW1]
  clear hW1
  have hlt : w.heap.size < W1.heap.size := World.block_lt_of_cell? W1 _ hbox
  generalize w.heap.size = b at hbox hlt ⊢
  have hbx : ∀ {w' : World}, KP W1 w' → w'.cell? ⟨b, 0, none⟩ = some (.int .i64 m) := fun hk => (World.cell?_of_block (a := ⟨b, 0, none⟩) (hk.keep b (.inl hlt) hlt)).trans hbox
  by_cases h1 : n < -5
  · refine gwp_seq hP (gwp_seq hP (gwp_of_wp hP (fun _ _ h => h) (fun _ _ _ h => h) fun τ d => ?_))
    have hk : KP W1 (re W1 τ d) := rely_re τ d
    generalize re W1 τ d = w at hk ⊢
    have hb := hbx hk
    go_wp2
    refine gwp_cond_true hP rfl ?_
    refine gwp_awake rfl rfl rfl rfl rfl rfl rfl (by simp) fun w' hG => ⟨rfl, .bool true, fun w => results_runT (t := 4) rfl _ _, rfl, kp_trans hk1 (kp_trans hk hG)⟩
  · by_cases h2 : 60 < n
    · refine gwp_seq hP (gwp_seq hP (gwp_of_wp hP (fun _ _ h => h) (fun _ _ _ h => h) fun τ d => ?_))
      have hk : KP W1 (re W1 τ d) := rely_re τ d
      generalize re W1 τ d = w at hk ⊢
      have hb := hbx hk
      go_wp2
      refine gwp_cond_true hP rfl ?_
      refine gwp_awake rfl rfl rfl rfl rfl rfl rfl (by simp) fun w' hG => ⟨rfl, .bool true, fun w => results_runT (t := 4) rfl _ _, rfl, kp_trans hk1 (kp_trans hk hG)⟩
    · by_cases h3 : m < 0
      · refine gwp_seq hP (gwp_seq hP (gwp_of_wp hP (fun _ _ h => h) (fun _ _ _ h => h) fun τ d => ?_))
        have hk : KP W1 (re W1 τ d) := rely_re τ d
        generalize re W1 τ d = w at hk ⊢
        have hb := hbx hk
        go_wp2
        refine gwp_cond_true hP rfl ?_
        refine gwp_awake rfl rfl rfl rfl rfl rfl rfl (by simp) fun w' hG => ⟨rfl, .bool true, fun w => results_runT (t := 4) rfl _ _, rfl, kp_trans hk1 (kp_trans hk hG)⟩
      · have h4 : 5 < m := by omega
        clear h
        refine gwp_seq hP (gwp_seq hP (gwp_of_wp hP (fun _ _ h => h) (fun _ _ _ h => h) fun τ d => ?_))
        have hk : KP W1 (re W1 τ d) := rely_re τ d
        generalize re W1 τ d = w at hk ⊢
        have hb := hbx hk
        go_wp2
        refine gwp_cond_true hP rfl ?_
        refine gwp_awake rfl rfl rfl rfl rfl rfl rfl (by simp) fun w' hG => ⟨rfl, .bool true, fun w => results_runT (t := 4) rfl _ _, rfl, kp_trans hk1 (kp_trans hk hG)⟩

set_option maxRecDepth 100000 in
set_option maxHeartbeats 8000000 in
theorem fans_main (W : World) (n : Int) (size : Nat) (h1 : -5 ≤ n) (h2 : n ≤ 60) (h3 : size ≤ 5) :
    Gwp Try.prog fsB (FsPost W) ⟨#[.int .i64 n, .int .i64 size] ++ Array.replicate 103 undef, []⟩ W := by
  have hP := plain
  simp only [fsB, Try.f6, Option.getD_some, Array.replicate_succ, Array.replicate_zero]
  walk_nrm
  refine gwp_seq hP (gwp_of_wp hP (fun _ _ h => h) (fun _ _ _ h => h) fun τ d => ?_)
  have hk : KP W (re W τ d) := rely_re τ d
  generalize re W τ d = w at hk ⊢
  go_wp2
  obtain ⟨W1, hW1⟩ : ∃ W1, W1 = w.alloc (.cells #[.int .i64 size] 3) := ⟨_, rfl⟩
  have hk1 : KP W W1 := by rw [hW1]; exact kp_trans hk (kp_alloc _ _)
  have hsz : W1.heap[w.heap.size]? = some (.cells #[.int .i64 size] 3 (0, 0)) := by rw [hW1]; exact heap_alloc_at _ _
  rw [← hW1]
  clear hW1
  have hlt : w.heap.size < W1.heap.size := (Array.getElem?_eq_some_iff.1 hsz).1
  generalize w.heap.size = b3 at hsz hlt ⊢
  have hbx : ∀ {w' : World}, KP W1 w' → w'.heap[b3]? = some (.cells #[.int .i64 size] 3 (0, 0)) := fun hk => (hk.keep b3 (.inl hlt) hlt).trans hsz
  have hbc : ∀ {w' : World}, KP W1 w' → w'.cell? ⟨b3, 0, none⟩ = some (.int .i64 size) := fun hk => by simp [World.cell?, hbx hk]
  refine gwp_seq hP (gwp_of_wp hP (fun _ _ h => h) (fun _ _ _ h => h) fun τ d => ?_)
  have hk : KP W1 (re W1 τ d) := rely_re τ d
  generalize re W1 τ d = w at hk ⊢
  have hb := hbc hk
  go_wp2
  refine gwp_seq hP (gwp_of_wp hP (fun _ _ h => h) (fun _ _ _ h => h) fun τ d => ?_)
  replace hk : KP W1 (re w τ d) := hk.trans (rely_re τ d)
  generalize re w τ d = w at hk ⊢
  go_wp2
  have hX : S.AskX W (w.alloc (.cells #[.slice none 0 0] 22)) (w.heap.size + 1) w.heap.size b3 (.slice none 0 0) 0 size := by
    have hs := hk.size
    have hs1 := hk1.size
    exact ⟨heap_alloc_at _ _, World.ownsRow_nil _ _ _ _, by omega, ⟨by omega, by simp, by omega⟩, (Below.heap_alloc _ _ _ (by omega)).trans (hbx hk), kp_trans hk1 (kp_trans hk (kp_alloc _ _))⟩
  generalize w.alloc (.cells #[.slice none 0 0] 22) = w1 at hX ⊢
  generalize w.heap.size + 1 = B at hX
  generalize w.heap.size = ba at hX ⊢
  clear hk hk1 hbx hbc hsz hlt hb
  -- Fan
  have hfan := S.fan20 hX h2 h3
  refine gwp_seq hP (gwp_region hP ?_)
  refine gwpOps_value (v := .int .i64 n) (w₁ := w1) hP rfl rfl (fun τ d => by simp [go_sem]) ?_
  walk_nrm
  refine gwpOps_value (v := .func (.func 21) #[] #[.pointer (some ⟨ba, 0, none⟩), .pointer (some ⟨b3, 0, none⟩)]) (w₁ := w1) hP rfl rfl (fun τ d => by simp [go_sem]) ?_
  walk_nrm
  refine gwpOps_call (f := 20) (args := #[.int .i64 n, .func (.func 21) #[] #[.pointer (some ⟨ba, 0, none⟩), .pointer (some ⟨b3, 0, none⟩)]]) hP rfl rfl (fun τ e => ?_) hfan (fun v w₂ hG => ?_)
  · refine (run_call_body rfl Try.func20 (by decide) rfl).trans ?_
    simp [Act.eval]
  clear hfan hX
  obtain ⟨hI, A, hX⟩ := hG
  replace hI := S.ItemsAt.of hI
  walk_nrm
  refine gwpOps_value (v := v) (w₁ := w₂) hP rfl rfl (fun τ d => by simp [go_sem]) ?_
  walk_nrm
  refine gwpOps_nil hP ?_
  simp only [Exit.then]
  obtain ⟨N, hN⟩ : ∃ N, N = n.toNat := ⟨_, rfl⟩
  rw [← hN] at hI hX
  have hmax : max n 0 = (N : Int) := by omega
  have hN60 : N ≤ 60 := by omega
  clear hN
  refine gwp_seq hP (gwp_of_wp hP (fun _ _ h => h) (fun _ _ _ h => h) fun τ d => ?_)
  replace hX := hX.re (rely_re τ d)
  replace hI := hI.kp (rely_re τ d)
  generalize re w₂ τ d = w at hX hI ⊢
  go_wp2
  obtain ⟨aa, ca, rfl, hit⟩ := S.items_at hI
  obtain ⟨aA, cA, rfl⟩ : ∃ a c, A = .slice a N c := by
    rcases hX.own.2 with ⟨rfl, rfl⟩ | ⟨g, cap, cur, rfl, _⟩
    · exact ⟨none, 0, rfl⟩
    · exact ⟨_, cap, rfl⟩
  have hask : ∀ j, j < N → ∃ g, aA = some ⟨g, 0, none⟩ ∧ w.cell? ⟨g, 0 + j, none⟩ = some (.int .i64 j) ∧ g < w.heap.size := by
    intro j hj
    rcases hX.own.2 with ⟨e, h0⟩ | ⟨g, cap, cur, e, _, hg, _⟩
    · omega
    · cases e
      refine ⟨g, rfl, ?_, (Array.getElem?_eq_some_iff.1 hg).1⟩
      have := hX.own.cells (g := g) rfl j (.int .i64 j) (by simp [hj])
      rwa [show (⟨g, 0, none⟩ : Addr).add j = ⟨g, 0 + j, none⟩ by unfold Addr.add; split <;> simp_all] at this
  have hcb : w.cell? ⟨ba, 0, none⟩ = some (.slice aA N cA) := by simp [World.cell?, hX.box]
  have hcs : w.cell? ⟨b3, 0, none⟩ = some (.int .i64 size) := by simp [World.cell?, hX.size]
  have hkW := hX.kp
  clear hX hI hmax h1 h2
  have hL3 : N * size ≤ 300 := by have := Nat.mul_le_mul hN60 h3; omega
  obtain ⟨L, hL⟩ : ∃ L, L = N * size := ⟨_, rfl⟩
  have hmul : (N : Int) * (size : Int) = (L : Int) := by rw [hL]; push_cast; rfl
  rw [← hL] at hit hL3 ⊢
  have HL := Lib.hid hL
  clear hL
  have HI := Lib.hid hit
  have HQ := Lib.hid hask
  clear hit hask
  have keep : ∀ {w' : World} {a : Addr} {x : Value}, KP w w' → w.cell? a = some x → w'.cell? a = some x := fun hk hc => (World.cell?_of_block (hk.keep _ (.inl (World.block_lt_of_cell? w _ hc)) (World.block_lt_of_cell? w _ hc))).trans hc
  refine gwp_seq hP (gwp_of_wp hP (fun _ _ h => h) (fun _ _ _ h => h) fun τ d => ?_)
  have hk : KP w (re w τ d) := rely_re τ d
  have hcb' := keep hk hcb
  have hcs' := keep hk hcs
  generalize re w τ d = wa at hk hcb' hcs' ⊢
  go_wp2
  clear hcb' hcs'
  refine gwp_seq hP (gwp_of_wp hP (fun _ _ h => h) (fun _ _ _ h => h) fun τ d => ?_)
  replace hk : KP w (re wa τ d) := hk.trans (rely_re τ d)
  generalize re wa τ d = wa at hk ⊢
  go_wp2
  go_loopw [8] (fun i w' => ∃ p : Nat, p ≤ L ∧ i = .int .i64 p ∧ KP w w') (fun i _ => L - (intOf i).toNat)
  case atStart => exact ⟨0, by omega, rfl, hk⟩
  case round =>
    obtain ⟨p, hp, rfl, hk⟩ := hrel
    by_cases hlt : p < L
    · obtain ⟨g, rfl, hA0, hA1, hA2⟩ := HI.out p hlt
      have hA0 := keep hk hA0
      have hA1 := keep hk hA1
      have hA2 := keep hk hA2
      have hcs' := keep hk hcs
      have hs0 : 0 < size := by
        rcases Nat.eq_zero_or_pos size with h | h
        · have := HL.out; rw [h] at this; omega
        · exact h
      have hne : ¬ (size : Int) = 0 := by omega
      have hq : ((p : Int).tdiv (size : Int)) = ((p / size : Nat) : Int) := by simp [Int.tdiv_eq_ediv]
      have hr : ((p : Int).tmod (size : Int)) = ((p % size : Nat) : Int) := by simp [Int.tmod_eq_emod]
      have hrl : p % size < 5 := by have := Nat.mod_lt p hs0; omega
      have hql : p / size ≤ 300 := by have := Nat.div_le_self p size; omega
      generalize p / size = q at hA0 hq hql
      generalize p % size = r at hA1 hA2 hr hrl
      have hcv := fun b w h => S.conv_at r b w h
      have hip : (p : Int) < (L : Int) := by omega
      go_wp2
      have hs1 : ¬ size = 0 := by omega
      have hwq : IntKind.i64.wrap (q : Int) = (q : Int) := IntWalk.i64_in _ (by omega)
      have hwr : IntKind.i64.wrap (r : Int) = (r : Int) := IntWalk.i64_in _ (by omega)
      have hw97 : IntKind.i64.wrap (97 + (r : Int)) = 97 + (r : Int) := IntWalk.i64_in _ (by omega)
      have hwu8 : IntKind.u8.wrap (97 + (r : Int)) = 97 + (r : Int) := IntWalk.u8_in _ (by omega)
      go_region_held (fun w' => w'.cell? ⟨g, p * 3, none⟩ = some (.int .i64 q) ∧ w'.cell? ⟨g, p * 3 + 1, none⟩ = some (.int .i64 r) ∧ w'.cell? ⟨g, p * 3 + 2, none⟩ = some (.string (S.ch r)) ∧ w'.cell? ⟨b3, 0, none⟩ = some (.int .i64 size)) (first | exact ⟨hA0, hA1, hA2, hcs'⟩ | exact ⟨cell_al hA0, cell_al hA1, cell_al hA2, cell_al hcs'⟩ | go_keep) (fail)
      clear hcv hwq hwr hw97 hwu8 hs1 hip hA0 hA1 hA2
      go_wp2
      exact ⟨⟨p + 1, by omega, by simp, kp_trans hk ⟨by simp, fun b _ hl => Below.heap_alloc _ _ _ hl, rfl, rfl⟩⟩, by simp [intOf]; omega⟩
    · obtain rfl : p = L := by omega
      clear hlt hp HI HL
      go_wp2
      refine gwp_seq hP (gwp_of_wp hP (fun _ _ h => h) (fun _ _ _ h => h) fun τ d => ?_)
      replace hk : KP w (re wr τ d) := hk.trans (rely_re τ d)
      generalize re wr τ d = wb at hk ⊢
      go_wp2
      go_loopw [9] (fun i w' => ∃ j : Nat, j ≤ N ∧ i = .int .i64 j ∧ KP w w') (fun i _ => N - (intOf i).toNat)
      case atStart => exact ⟨0, by omega, rfl, hk⟩
      case round =>
        obtain ⟨j, hj, rfl, hk⟩ := hrel
        by_cases hlt : j < N
        · obtain ⟨gA, rfl, hc0, _⟩ := HQ.out j hlt
          have hc1 := keep hk hc0
          rw [Nat.zero_add] at hc1
          have hcb' := keep hk hcb
          clear hc0
          go_wp2
          go_roundw
          case rel => exact ⟨j + 1, by omega, by go_num, hk⟩
          case measure => simp [intOf]; omega
        · obtain rfl : j = N := by omega
          clear hlt hj HQ hcb hcs keep hmul
          go_wp2
          have hkf := kp_trans hkW hk
          refine gwp_seq hP (gwp_region hP ?_)
          refine gwpOps_call (f := 18) (args := #[.int .i64 3, .nilFunc]) (R := fun v w' => v = .slice none 0 0 ∧ KP W w') hP rfl rfl (fun τ e => ?_) (gcalls_of_calls hP fun τ d => (fan18_nil 3 (re _ τ d)).mono fun e w' h => ?_) (fun v w₅ hG => ?_)
          · refine (run_call_body rfl Try.func18 (by decide) rfl).trans ?_
            simp [Act.eval]
          · obtain ⟨rfl, rfl⟩ := h
            exact ⟨rfl, hkf.trans (rely_re τ d)⟩
          obtain ⟨rfl, hkf⟩ := hG
          generalize w₅ = w at hkf ⊢
          walk_nrm
          refine gwpOps_value (v := .int .i64 0) (w₁ := w) hP rfl rfl (fun τ d => by simp [go_sem]) ?_
          walk_nrm
          refine gwpOps_value (v := .bool true) (w₁ := w) hP rfl rfl (fun τ d => by simp [go_sem]) ?_
          walk_nrm
          refine gwpOps_value (v := .bool true) (w₁ := w) hP rfl rfl (fun τ d => by simp [go_sem]) ?_
          walk_nrm
          refine gwpOps_call (f := 17) (args := #[.slice none 0 0]) hP rfl rfl (fun τ e => ?_) (gather_nil w) (fun v w₅ hG => ?_)
          · refine (run_call_body rfl Try.func17 (by decide) rfl).trans ?_
            simp [Act.eval]
          obtain ⟨a', c', rfl, hG⟩ := hG
          replace hkf := kp_trans hkf hG
          clear hG
          generalize w₅ = w at hkf ⊢
          walk_nrm
          refine gwpOps_value (v := .int .i64 0) (w₁ := w) hP rfl rfl (fun τ d => by simp [go_sem]) ?_
          walk_nrm
          refine gwpOps_value (v := .bool true) (w₁ := w) hP rfl rfl (fun τ d => by simp [go_sem]) ?_
          walk_nrm
          refine gwpOps_value (v := .bool true) (w₁ := w) hP rfl rfl (fun τ d => by simp [go_sem]) ?_
          walk_nrm
          refine gwpOps_value (v := .bool true) (w₁ := w) hP rfl rfl (fun τ d => by simp [go_sem]) ?_
          walk_nrm
          refine gwpOps_call (f := 7) (args := #[]) (R := fun v w' => v = .bool true ∧ KP w w') hP rfl rfl (fun τ e => ?_) (awake7 w) (fun v w₅ hG => ?_)
          · refine (run_call_body rfl Try.func7 (by decide) rfl).trans ?_
            simp
          obtain ⟨rfl, hG⟩ := hG
          walk_nrm
          refine gwpOps_value (v := .bool true) (w₁ := w₅) hP rfl rfl (fun τ d => by simp [go_sem]) ?_
          walk_nrm
          refine gwpOps_value (v := .bool true) (w₁ := w₅) hP rfl rfl (fun τ d => by simp [go_sem]) ?_
          walk_nrm
          refine gwpOps_nil hP ?_
          simp only [Exit.then]
          exact gwp_ret hP ⟨rfl, .bool true, fun w => results_runT (t := 4) rfl _ _, rfl, kp_trans hkf hG⟩
end Go.Proofs.Ytjcplblnapcfcaa
