/-
  Fan over ints: what so many tell, cloned, row by row, is what Gather is given.
-/
import Derived.Test.YtjcplblnapcfcaaAwA
import Derived.Test.YtjcplblnapcfcaaLoA
import Derived.Lib.Hide
set_option linter.unusedSimpArgs false
namespace Go.Proofs.Ytjcplblnapcfcaa
open Go Go.Gat Go.Conc Go.RowKit

theorem info22 : (Try.prog.info? 22).map (fun i => (i.zero, i.size, i.bytes)) = some (some (.slice none 0 0), 1, 24) := by kernel_rfl

/-- A row that lies somewhere, in a block of ints. -/
structure RowX (w : World) (rv : Value) (zs : List El) : Prop where
  val : ∃ a cap, rv = .slice a zs.length cap ∧ (0 < zs.length → ∃ blk off cur, a = some ⟨blk, off, none⟩ ∧ w.heap[blk]? = some (.cells cur 3 (0, 0)) ∧ ∀ j x, zs[j]? = some x → w.cell? ⟨blk, off + j, none⟩ = some (enc x))
/-- The list of rows, so far. -/
structure RowsX (W w : World) (l : Value) (zss : List (List El)) (rvs : List Value) : Prop where
  own : w.ownsRow W.heap.size 22 1 l rvs.length rvs
  len : rvs.length = zss.length
  row : ∀ (j : Nat) rv zs, rvs[j]? = some rv → zss[j]? = some zs → RowX w rv zs
  kp : KP W w

theorem own_ne {w : World} {B n : Nat} {l : Value} {xs : List Value} (h : w.ownsRow B 22 1 l n xs) {blk : Nat} {cur : Array Value} {fr : Nat × Nat} (hb : w.heap[blk]? = some (.cells cur 3 fr)) : l.ownBlock ≠ some blk := by
  rcases h.2 with ⟨rfl, _⟩ | ⟨g, cap, cur', rfl, _, hg, _⟩
  · intro e; cases e
  · intro e
    simp only [Value.ownBlock, Option.some.injEq] at e
    subst e
    rw [hg] at hb
    simp at hb
theorem RowX.keep {w w' : World} {rv : Value} {zs : List El} (h : RowX w rv zs) (hk : ∀ (blk : Nat) (cur : Array Value), w.heap[blk]? = some (.cells cur 3 (0, 0)) → w'.heap[blk]? = w.heap[blk]?) : RowX w' rv zs := by
  obtain ⟨a, cap, e, h⟩ := h.val
  refine ⟨a, cap, e, fun h0 => ?_⟩
  obtain ⟨blk, off, cur, e1, e2, e4⟩ := h h0
  exact ⟨blk, off, cur, e1, (hk blk cur e2).trans e2, fun j x hx => (World.cell?_of_block (hk blk cur e2)).trans (e4 j x hx)⟩

theorem RowsX.at {W w : World} {l : Value} {zss : List (List El)} {rvs : List Value} (h : RowsX W w l zss rvs) (hmax : rvs.length ≤ 9223372036854775807) (hz : ∀ zs ∈ zss, zs.length ≤ maxLen) : RowsAt w.heap.size l rvs zss w := by
  refine ⟨?_, Nat.le_refl _, h.len, hmax, fun j rv zs h1 h2 => ?_⟩
  · rcases h.own.2 with ⟨rfl, h0⟩ | ⟨g, cap, cur, rfl, hb, hg, _, _, _, _⟩
    · exact ⟨none, 0, by rw [h0], fun h => absurd h (by omega)⟩
    · refine ⟨_, cap, rfl, fun _ => ⟨g, 0, rfl, (Array.getElem?_eq_some_iff.1 hg).1, fun j x hx => ?_⟩⟩
      have := h.own.cells (g := g) rfl j x hx
      rwa [show (⟨g, 0, none⟩ : Addr).add j = ⟨g, 0 + j, none⟩ by unfold Addr.add; split <;> simp_all] at this
  · obtain ⟨a, cap, e, h3⟩ := (h.row j rv zs h1 h2).val
    refine ⟨⟨a, cap, e, fun h0 => ?_⟩, Nat.le_refl _, hz zs (List.mem_of_getElem? h2)⟩
    obtain ⟨blk, off, cur, e1, e2, e4⟩ := h3 h0
    exact ⟨blk, off, e1, (Array.getElem?_eq_some_iff.1 e2).1, e4⟩

/-- One row more. -/
theorem RowsX.snoc {W w w1 w2 : World} {l l' v' : Value} {zss : List (List El)} {rvs : List Value} {zs : List El} {o : Obj} (h : RowsX W w l zss rvs) (hb : Below w.heap.size w w1) (hv : RowX w1 v' zs)
    (ho : w2.ownsRow W.heap.size 22 1 l' (rvs.length + 1) (rvs ++ [v'])) (hg : (w1.alloc o).grownBy w2 l.ownBlock) : RowsX W w2 l' (zss ++ [zs]) (rvs ++ [v']) := by
  have hs := h.kp.size
  have hs1 := hb.size
  have hlb : ∀ k, l.ownBlock = some k → W.heap.size ≤ k := fun k hk => (h.own.lt k hk).1
  have hl1 : w1.ownsRow W.heap.size 22 1 l rvs.length rvs := by
    refine ⟨h.own.1, h.own.2.imp id ?_⟩
    rintro ⟨g, cap, cur, rfl, h2, h3, h4⟩
    exact ⟨g, cap, cur, rfl, h2, (hb.block g (Array.getElem?_eq_some_iff.1 h3).1).trans h3, h4⟩
  have k2 : ∀ (blk : Nat) (cur : Array Value), w1.heap[blk]? = some (.cells cur 3 (0, 0)) → w2.heap[blk]? = w1.heap[blk]? := fun blk cur e => by
    have hlt : blk < w1.heap.size := (Array.getElem?_eq_some_iff.1 e).1
    exact (hg.block blk (by simp; omega) (Ne.symm (own_ne hl1 e))).trans (Below.heap_alloc _ _ _ hlt)
  refine ⟨by simpa using ho, by simp [h.len], fun j rv zs' h1 h2 => ?_, ?_⟩
  · by_cases hj : j < rvs.length
    · rw [List.getElem?_append_left hj] at h1
      rw [List.getElem?_append_left (by rw [← h.len]; exact hj)] at h2
      exact ((h.row j rv zs' h1 h2).keep fun blk cur e => hb.block blk (Array.getElem?_eq_some_iff.1 e).1).keep k2
    · rw [List.getElem?_append_right (by omega)] at h1
      rw [List.getElem?_append_right (by rw [← h.len]; omega)] at h2
      have e1 : j - rvs.length = 0 := by
        apply Classical.byContradiction
        intro e
        rw [List.getElem?_eq_none (by simp; omega)] at h1
        cases h1
      have e2 : j - zss.length = 0 := by rw [← h.len]; exact e1
      rw [e1] at h1
      rw [e2] at h2
      simp at h1 h2
      subst h1 h2
      exact hv.keep k2
  · refine ⟨?_, fun b hb' hl => ?_, hg.os.trans (hb.os.trans h.kp.os), hg.output.trans (hb.output.trans h.kp.output)⟩
    · have := hg.size
      simp at this
      omega
    · refine ((hg.block b (by simp; omega) fun e => ?_).trans (Below.heap_alloc _ _ _ (by omega))).trans ((hb.block b (by omega)).trans (h.kp.keep b hb' hl))
      have := hlb b e.symm
      omega

theorem clamp32 (n : Nat) (hn : n ≤ 1000) (w : World) : Calls Try.prog 32 #[.int .i64 n, .int .i64 0, .int .i64 1000] w fun e w' => e = .returned (.int .i64 n) ∧ w = w' := by
  have h1 : ¬ (n : Int) < 0 := by omega
  have h2 : ¬ (1000 : Int) < (n : Int) := by omega
  go_enter Try.func32, Try.ntmps32
  go_wp2
  go_ret
  exact ⟨rfl, rfl⟩

/-- A clone of a row. -/
theorem clone33 {w : World} {rv : Value} {zs : List El} (h : ∃ a cap, rv = .slice a zs.length cap ∧ (0 < zs.length → ∃ blk off, a = some ⟨blk, off, none⟩ ∧ ∀ j x, zs[j]? = some x → w.cell? ⟨blk, off + j, none⟩ = some (enc x))) (hz : zs.length ≤ 1000) :
    Calls Try.prog 33 #[rv] w fun e w' => ∃ v', e = .returned v' ∧ Below w.heap.size w w' ∧ RowX w' v' zs := by
  obtain ⟨a, cap, rfl, hc⟩ := h
  have fin : ∀ {v' : Value} {w' : World}, w'.ownsRow w.heap.size 3 1 v' zs.length (zs.map enc) → RowX w' v' zs := by
    intro v' w' ho
    rcases ho.2 with ⟨rfl, h0⟩ | ⟨g, cap, cur, rfl, hb, hg, _, _, _, _⟩
    · exact ⟨none, 0, by rw [h0], fun h => absurd h (by omega)⟩
    · refine ⟨_, cap, rfl, fun _ => ⟨g, 0, cur, rfl, hg, fun j x hx => ?_⟩⟩
      have := ho.cells (g := g) rfl j (enc x) (by simp [hx])
      rwa [show (⟨g, 0, none⟩ : Addr).add j = ⟨g, 0 + j, none⟩ by unfold Addr.add; split <;> simp_all] at this
  cases a with
  | none =>
    have h0 : zs.length = 0 := by
      apply Classical.byContradiction
      intro h
      obtain ⟨_, _, e, _⟩ := hc (by omega)
      cases e
    refine (Try.slices_Clone_int_nil zs.length cap w).mono ?_
    rintro e w' ⟨rfl, rfl⟩
    exact ⟨_, rfl, Below.refl _ _, none, 0, by rw [h0], fun h => absurd h (by omega)⟩
  | some a =>
    by_cases h0 : zs.length = 0
    · rw [h0]
      refine (Try.slices_Clone_int_zero a cap w).mono ?_
      rintro e w' ⟨v', rfl, ho, _, hb⟩
      have : zs = [] := List.eq_nil_of_length_eq_zero h0
      subst this
      exact ⟨v', rfl, hb, fin ho⟩
    · obtain ⟨blk, off, e, hcell⟩ := hc (by omega)
      cases e
      refine (Try.slices_Clone_int blk off zs.length cap zs w (Nat.le_refl _) (by omega) (fun j hj => by rw [hcell j zs[j] (List.getElem?_eq_getElem hj)]; simp [List.getD, List.getElem?_eq_getElem hj])).mono ?_
      rintro e w' ⟨v', rfl, ho, _, hb⟩
      rw [List.take_of_length_le (Nat.le_refl _)] at ho
      exact ⟨v', rfl, hb, fin ho⟩

set_option maxRecDepth 100000 in
theorem clo19 {w : World} {b1 : Nat} {lv rv : Value} {n cap k : Nat} {a : Option Addr} (hlv : lv = .slice a n cap) (h1 : w.cell? ⟨b1, 0, none⟩ = some lv) (hk : k < n) {blk off : Nat} (ha : a = some ⟨blk, off, none⟩) (hr : w.cell? ⟨blk, off + k, none⟩ = some rv) :
    Calls Try.prog 19 #[.int .i64 k, .pointer (some ⟨b1, 0, none⟩)] w fun e w' => e = .returned rv ∧ w = w' := by
  subst hlv ha
  have hge : ¬ n ≤ k := by omega
  go_enter Try.func19, Try.ntmps19
  go_wp2
  go_ret
  exact ⟨rfl, rfl⟩

theorem run_equalIn_func (d : Nat) (f : Fn) (a b : Array Value) (w : World) : (Op.equalIn (d + 1) 38 (.func f a b) .nilFunc).run Try.prog w = .ok false w := by
  simp [Op.equalIn, run_underlying Try.underlying38]
theorem run_equal_func (f : Fn) (a b : Array Value) (w : World) : (Op.equal 38 (.func f a b) .nilFunc).run Try.prog w = .ok false w := run_equalIn_func 9999 f a b w
theorem run_equalIn_nilf (d : Nat) (w : World) : (Op.equalIn (d + 1) 38 .nilFunc .nilFunc).run Try.prog w = .ok true w := by
  simp [Op.equalIn, run_underlying Try.underlying38]
theorem run_equal_nilf (w : World) : (Op.equal 38 .nilFunc .nilFunc).run Try.prog w = .ok true w := run_equalIn_nilf 9999 w

theorem guard_func (f : Fn) (a b : Array Value) (x y : Operand) (w : World) : (eqGuard BinOp.eql 38 x y (.func f a b) .nilFunc).run Try.prog w = .ok () w := by
  cases x <;> cases y <;> simp [go_sem, eqGuard]
theorem bin_func (f : Fn) (a b : Array Value) (w : World) : (binOp BinOp.eql 38 (.func f a b) .nilFunc).run Try.prog w = .ok (.bool false) w := by
  simp [go_sem, binOp, run_equal_func]
theorem guard_nilf (x y : Operand) (w : World) : (eqGuard BinOp.eql 38 x y .nilFunc .nilFunc).run Try.prog w = .ok () w := by
  cases x <;> cases y <;> simp [go_sem, eqGuard]
theorem bin_nilf (w : World) : (binOp BinOp.eql 38 .nilFunc .nilFunc).run Try.prog w = .ok (.bool true) w := by
  simp [go_sem, binOp, run_equal_nilf]

noncomputable def fnB : Code := Try.f18.body.getD .skip

theorem RowsX.zero (w : World) : RowsX w w (.slice none 0 0) [] [] := ⟨World.ownsRow_nil _ _ _ _, rfl, fun j _ _ h => (by simp at h), KP.refl w⟩
theorem RowsAt.kp {W w w' : World} {lv : Value} {rvs : List Value} {zss : List (List El)} (h : RowsAt W.heap.size lv rvs zss w) (hk : KP W w) (hk' : KP W w') : RowsAt W.heap.size lv rvs zss w' := by
  have key : ∀ {b : Nat}, b < W.heap.size → w'.heap[b]? = w.heap[b]? := fun hb => (hk'.keep _ (.inl hb) hb).trans (hk.keep _ (.inl hb) hb).symm
  obtain ⟨⟨a, cap, h1, h2⟩, h3, h4, h5, h6⟩ := h
  refine ⟨⟨a, cap, h1, fun h0 => ?_⟩, hk'.size, h4, h5, fun j rv zs e1 e2 => ?_⟩
  · obtain ⟨blk, off, rfl, h7, h8⟩ := h2 h0
    exact ⟨blk, off, rfl, h7, fun j x hx => (World.cell?_of_block (key h7)).trans (h8 j x hx)⟩
  · obtain ⟨⟨a, cap, h1, h2⟩, h3, h4⟩ := h6 j rv zs e1 e2
    refine ⟨⟨a, cap, h1, fun h0 => ?_⟩, hk'.size, h4⟩
    obtain ⟨blk, off, rfl, h7, h8⟩ := h2 h0
    exact ⟨blk, off, rfl, h7, fun j x hx => (World.cell?_of_block (key h7)).trans (h8 j x hx)⟩

/-- One row told and cloned. -/
theorem told19 {W w : World} {b1 : Nat} {lv : Value} {rvs : List Value} {zss : List (List El)} (hR : RowsAt W.heap.size lv rvs zss w) (hb : w.cell? ⟨b1, 0, none⟩ = some lv) {k : Nat} {rv : Value} (hk : rvs[k]? = some rv) :
    Calls Try.prog 19 #[.int .i64 k, .pointer (some ⟨b1, 0, none⟩)] w fun e w' => e = .returned rv ∧ w = w' := by
  obtain ⟨a, cap, rfl, hc⟩ := hR.val
  have hkr : k < rvs.length := (List.getElem?_eq_some_iff.1 hk).1
  obtain ⟨blk, off, rfl, _, hcell⟩ := hc (by omega)
  exact clo19 rfl hb hkr rfl (hcell k _ hk)

set_option maxRecDepth 100000 in
set_option maxHeartbeats 4000000 in
theorem fan18 {W : World} {b1 : Nat} {lv : Value} {rvs : List Value} {zss : List (List El)} (hR : RowsAt W.heap.size lv rvs zss W) (hb : W.cell? ⟨b1, 0, none⟩ = some lv) (hn : zss.length ≤ 1000) (hz : ∀ zs ∈ zss, zs.length ≤ 1000) (hF : (zss.flatten.length + zss.length) * 24 ≤ 140737488355328) :
    GCalls Try.prog 18 #[.int .i64 zss.length, .func (.func 19) #[] #[.pointer (some ⟨b1, 0, none⟩)]] W (Gathered W zss) := by
  have hP := plain
  have hb1 : b1 < W.heap.size := World.block_lt_of_cell? W _ hb
  refine gcalls_of_gwp hP Try.func18 (c := fnB) rfl ?_
  simp only [fnB, Try.f18, Option.getD_some, Array.replicate_succ, Array.replicate_zero, Array.size, List.length_cons, List.length_nil]
  walk_nrm
  refine gwp_seq hP (gwp_of_wp hP (fun _ _ h => h) (fun _ _ _ h => h) fun τ d => ?_)
  have hk : KP W (re W τ d) := rely_re τ d
  generalize re W τ d = w at hk ⊢
  go_wp2
  refine gwp_seq hP (gwp_of_wp hP (fun _ _ h => h) (fun _ _ _ h => h) fun τ d => ?_)
  have hk : KP W (re w τ d) := hk.trans (rely_re τ d)
  generalize re w τ d = w at hk ⊢
  have heq := fun w => bin_func (.func 19) #[] #[.pointer (some ⟨b1, 0, none⟩)] w
  have heg := fun x y w => guard_func (.func 19) #[] #[.pointer (some ⟨b1, 0, none⟩)] x y w
  go_wp2
  clear heq heg
  refine gwp_seq hP (gwp_of_wp hP (fun _ _ h => h) (fun _ _ _ h => h) fun τ d => ?_)
  have hk : KP W (re w τ d) := hk.trans (rely_re τ d)
  generalize re w τ d = w at hk ⊢
  go_wp2
  refine gwp_seq hP (gwp_of_wp hP (fun _ _ h => h) (fun _ _ _ h => h) fun τ d => ?_)
  have hk : KP W (re w τ d) := hk.trans (rely_re τ d)
  generalize re w τ d = w at hk ⊢
  have hcl := clamp32 zss.length hn w
  go_wp2_with (go_at_call 32; refine hcl.mono ?_; rintro e w' ⟨rfl, rfl⟩)
  clear hcl
  go_loopw [11, 5, 6] (fun i l _ wr => ∃ (k : Nat) (rs : List Value), k ≤ zss.length ∧ i = .int .i64 k ∧ RowsX W wr l (zss.take k) rs) (fun i _ _ _ => zss.length - (intOf i).toNat)
  case atStart => exact ⟨0, [], by omega, rfl, by
    obtain ⟨h1, h2, h3, h4⟩ := RowsX.zero W
    exact ⟨World.ownsRow_nil _ _ _ _, rfl, fun j _ _ h => (by simp at h), hk⟩⟩
  case round =>
    obtain ⟨k, rs, hkl, rfl, hX⟩ := hrel
    by_cases hlt : k < zss.length
    · have hRr := hR.kp (KP.refl W) hX.kp
      have hbr := (World.cell?_of_block (a := ⟨b1, 0, none⟩) (hX.kp.keep b1 (.inl hb1) hb1)).trans hb
      obtain ⟨rv, hrv⟩ : ∃ rv, rvs[k]? = some rv := ⟨_, List.getElem?_eq_getElem (by rw [hR.len]; exact hlt)⟩
      have htold := told19 hRr hbr hrv
      go_wp2_with (go_at_call 19; refine htold.mono ?_; rintro e w' ⟨rfl, rfl⟩)
      have hrow : ∃ a cap, rv = .slice a zss[k].length cap ∧ (0 < zss[k].length → ∃ blk off, a = some ⟨blk, off, none⟩ ∧ ∀ j x, zss[k][j]? = some x → wr.cell? ⟨blk, off + j, none⟩ = some (enc x)) := by
        obtain ⟨⟨a, cap, e1, e2⟩, _, _⟩ := hRr.row k rv zss[k] hrv (List.getElem?_eq_getElem hlt)
        refine ⟨a, cap, e1, fun h0 => ?_⟩
        obtain ⟨blk, off, e3, _, e4⟩ := e2 h0
        exact ⟨blk, off, e3, e4⟩
      have hcl := clone33 hrow (hz zss[k] (List.getElem_mem hlt))
      clear hrow
      refine hcl.mono ?_
      rintro e w1 ⟨v', rfl, hb1, hv1⟩
      clear hcl htold
      obtain ⟨i0, hi, hz0, hz1, hz2⟩ := info_parts info22
      obtain ⟨av, cv, rfl, _⟩ := hv1.val
      have hsW := hX.kp.size
      have hs1 := hb1.size
      have hrl : rs.length = k := by rw [hX.len]; simp; omega
      have hown1 : w1.ownsRow W.heap.size 22 1 u5 rs.length rs := by
        refine ⟨hX.own.1, hX.own.2.imp id ?_⟩
        rintro ⟨g, cap, cur, rfl, h2, h3, h4⟩
        exact ⟨g, cap, cur, rfl, h2, (hb1.block g (Array.getElem?_eq_some_iff.1 h3).1).trans h3, h4⟩
      go_wp2_with (at_builtin; refine wpList_append_own _ rfl (.tmp 14) (.tmp 19) 26 rfl W.heap.size 22 i0 (.slice none 0 0) 1 24 Try.underlying26 hi hz0 hz1 hz2 rfl (by decide) _ _ _ rfl (hown1.alloc _) ⟨w1.heap.size, 0, none⟩ 1 1 [.slice av zss[k].length cv] rfl rfl ?c1 ?c2 ?c3 ?c4 ?c5 ?_)
      case c1 =>
        intro j u hu
        match j, hu with
        | 0, hu => simp at hu; subst hu; simp [Addr.add]
      case c2 => intro u hu; simp at hu; subst hu; rfl
      case c3 => unfold maxLen; omega
      case c4 => omega
      case c5 => simp; omega
      intro l' w2 ho hg _
      have hX2 := hX.snoc hb1 hv1 (by rw [hrl]; exact ho) hg
      have etk : zss.take k ++ [zss[k]] = zss.take (k + 1) := (List.take_succ_eq_append_getElem hlt).symm
      rw [etk] at hX2
      clear ho hg hown1 hX hb1 hv1 hbr hRr hrv etk hi hz0 hz1 hz2
      go_wp2
      go_roundw
      case rel => exact ⟨k + 1, rs ++ [.slice av zss[k].length cv], by omega, by go_num, hX2⟩
      case measure => simp [intOf]; omega
    · obtain rfl : k = zss.length := by omega
      rw [List.take_of_length_le (Nat.le_refl _)] at hX
      clear hlt hkl
      go_wp2
      have hmx : ∀ zs ∈ zss, zs.length ≤ maxLen := fun zs h => by have := hz zs h; unfold maxLen; omega
      have hRx : ∀ τ d, RowsAt (re wr τ d).heap.size u5 rs zss (re wr τ d) := fun τ d => (hX.at (by rw [hX.len]; omega) hmx).rely (rely_re (own := fun _ => False) τ d)
      have hkx := hX.kp
      clear hX
      refine gwp_seq hP (gwp_region hP ?_)
      refine gwpOps_value (v := u5) (w₁ := wr) hP rfl rfl (fun τ d => by simp [go_sem]) ?_
      walk_nrm
      refine gwpOps_call (f := 17) (args := #[u5]) (R := fun v w' => Gathered wr zss v w') hP rfl rfl (fun τ e => ?_) (gather17 (hRx wr.tape wr.drawn) hF) (fun v w₂ hG => ?_)
      · refine (run_call_body rfl Try.func17 (by decide) rfl).trans ?_
        simp [Act.eval]
      walk_nrm
      refine gwpOps_value (v := v) (w₁ := w₂) hP rfl rfl (fun τ d => by simp [go_sem]) ?_
      walk_nrm
      refine gwpOps_nil hP ?_
      simp only [Exit.then]
      exact gwp_ret hP ⟨rfl, v, fun τ d => results_tmp (fn := Try.f18) (t := 4) rfl _ Try.prog _, World.ownsRow.base hG.1 hkx.size, kp_trans hkx hG.2⟩
end Go.Proofs.Ytjcplblnapcfcaa
