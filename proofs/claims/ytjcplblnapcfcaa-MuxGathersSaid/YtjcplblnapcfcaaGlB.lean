/-
  MuxGathers: the law's main way.
-/
import Derived.Test.YtjcplblnapcfcaaGlA
import Derived.Laws.StructEq
import Derived.Deep.QuietTactic
import Derived.BigQuiet
set_option linter.unusedSimpArgs false
namespace Go.Proofs.Ytjcplblnapcfcaa
open Go Go.Gat Go.Conc Go.RowKit

theorem tripsRow_get (m : Int) : ∀ (zs : List El) (n k : Nat) (z : El), zs[k]? = some z → (tripsRow m n zs)[k]? = some (m, ((n + k : Nat) : Int), z)
  | [], _, k, z, h => by simp at h
  | x :: zs, n, 0, z, h => by simp at h; subst h; simp [tripsRow]
  | x :: zs, n, k + 1, z, h => by
    have := tripsRow_get m zs (n + 1) k z (by simpa using h)
    simp only [tripsRow, List.getElem?_cons_succ, this]
    rw [show n + 1 + k = n + (k + 1) by omega]
theorem tripsRow_length (m : Int) : ∀ (zs : List El) (n : Nat), (tripsRow m n zs).length = zs.length
  | [], _ => rfl
  | x :: zs, n => by simp [tripsRow, tripsRow_length m zs]
theorem trips_get : ∀ (zss : List (List El)) (m i k : Nat) (zs : List El) (z : El), zss[i]? = some zs → zs[k]? = some z → (tripsOf m zss)[(zss.take i).flatten.length + k]? = some (((m + i : Nat) : Int), (k : Int), z)
  | [], _, i, _, _, _, h, _ => by simp at h
  | r :: rest, m, 0, k, zs, z, h, hz => by
    simp at h
    subst h
    have hk : k < r.length := (List.getElem?_eq_some_iff.1 hz).1
    simp only [tripsOf, List.take_zero, List.flatten_nil, List.length_nil, Nat.zero_add, Nat.add_zero]
    rw [List.getElem?_append_left (by rw [tripsRow_length]; exact hk), tripsRow_get _ _ _ _ _ hz]
    simp
  | r :: rest, m, i + 1, k, zs, z, h, hz => by
    have ih := trips_get rest (m + 1) i k zs z (by simpa using h) hz
    simp only [tripsOf, List.take_succ_cons, List.flatten_cons, List.length_append]
    rw [List.getElem?_append_right (by rw [tripsRow_length]; omega), tripsRow_length, show r.length + (rest.take i).flatten.length + k - r.length = (rest.take i).flatten.length + k by omega, ih, show m + 1 + i = m + (i + 1) by omega]

/-- The items at a slice. -/
structure ItemsAt (w : World) (v : Value) (l : List It) : Prop where
  val : ∃ a cap, v = .slice a l.length cap ∧ (0 < l.length → ∃ g, a = some ⟨g, 0, none⟩ ∧ g < w.heap.size ∧ ∀ j t, l[j]? = some t → w.cell? ⟨g, j * 3, none⟩ = some (.int .i64 t.1) ∧ w.cell? ⟨g, j * 3 + 1, none⟩ = some (.int .i64 t.2.1) ∧ w.cell? ⟨g, j * 3 + 2, none⟩ = some (enc t.2.2))
theorem flat3_get' : ∀ (l : List It) (j c : Nat) (t : It), l[j]? = some t → c < 3 → (l.flatMap enc3)[j * 3 + c]? = (enc3 t)[c]?
  | [], j, c, t, h, _ => by simp at h
  | x :: l, 0, c, t, h, hc => by
    simp at h
    subst h
    rw [List.flatMap_cons, List.getElem?_append_left (by rw [enc3_length]; omega)]
    simp
  | x :: l, j + 1, c, t, h, hc => by
    rw [List.flatMap_cons, List.getElem?_append_right (by rw [enc3_length]; omega), enc3_length, show (j + 1) * 3 + c - 3 = j * 3 + c by omega]
    exact flat3_get' l j c t (by simpa using h) hc
theorem ItemsAt.of {w : World} {B : Nat} {v : Value} {l : List It} (h : w.ownsRow B 49 3 v l.length (l.flatMap enc3)) : ItemsAt w v l := by
  rcases h.2 with ⟨rfl, h0⟩ | ⟨g, cap, cur, rfl, hb, hg, _, _, _, _⟩
  · exact ⟨none, 0, by rw [h0], fun h => absurd h (by omega)⟩
  · refine ⟨_, cap, rfl, fun _ => ⟨g, rfl, (Array.getElem?_eq_some_iff.1 hg).1, fun j t ht => ?_⟩⟩
    have key : ∀ c x, (enc3 t)[c]? = some x → c < 3 → w.cell? ⟨g, j * 3 + c, none⟩ = some x := fun c x hx hc => by
      have := h.cells (g := g) rfl (j * 3 + c) x (by rw [flat3_get' l j c t ht hc]; exact hx)
      rwa [show (⟨g, 0, none⟩ : Addr).add (j * 3 + c) = ⟨g, j * 3 + c, none⟩ by unfold Addr.add; split <;> simp_all] at this
    exact ⟨key 0 _ rfl (by omega), key 1 _ rfl (by omega), key 2 _ rfl (by omega)⟩
theorem ItemsAt.kp {w w' : World} {v : Value} {l : List It} (h : ItemsAt w v l) (hk : KP w w') : ItemsAt w' v l := by
  obtain ⟨a, cap, e, h⟩ := h.val
  refine ⟨a, cap, e, fun h0 => ?_⟩
  obtain ⟨g, e1, hg, hc⟩ := h h0
  have hkeep : w'.heap[g]? = w.heap[g]? := hk.keep g (.inl hg) hg
  refine ⟨g, e1, Nat.lt_of_lt_of_le hg hk.size, fun j t ht => ?_⟩
  obtain ⟨h1, h2, h3⟩ := hc j t ht
  exact ⟨(World.cell?_of_block hkeep).trans h1, (World.cell?_of_block hkeep).trans h2, (World.cell?_of_block hkeep).trans h3⟩

theorem RowsAt.up {B B' : Nat} {w : World} {lv : Value} {rvs : List Value} {zss : List (List El)} (h : RowsAt B lv rvs zss w) (h1 : B ≤ B') (h2 : B' ≤ w.heap.size) : RowsAt B' lv rvs zss w := by
  obtain ⟨⟨a, cap, e1, e2⟩, h3, h4, h5, h6⟩ := h
  refine ⟨⟨a, cap, e1, fun h0 => ?_⟩, h2, h4, h5, fun j rv zs e1 e2 => ?_⟩
  · obtain ⟨blk, off, e, hb, hc⟩ := e2 h0
    exact ⟨blk, off, e, by omega, hc⟩
  · obtain ⟨⟨a, cap, e3, e4⟩, h7, h8⟩ := h6 j rv zs e1 e2
    refine ⟨⟨a, cap, e3, fun h0 => ?_⟩, h2, h8⟩
    obtain ⟨blk, off, e, hb, hc⟩ := e4 h0
    exact ⟨blk, off, e, by omega, hc⟩

theorem kp_drewN (w : World) (n : Nat) : KP w (w.drewN n) := ⟨Nat.le_refl _, fun _ _ _ => rfl, rfl, rfl⟩
theorem u49 : Try.prog.underlying 49 = some (.struct (Try.prog.fieldsOf 49)) := by kernel_rfl
theorem s49 : Try.prog.stoodInHeld 49 = false := by kernel_rfl
theorem guard_item (x y z : Int) (a b : Operand) (w : World) : (eqGuard BinOp.neq 49 a b (.agg #[.int .i64 x, .int .i64 y, .int .i64 z]) (.agg #[.int .i64 x, .int .i64 y, .int .i64 z])).run Try.prog w = .ok () w := by
  simp [go_sem, eqGuard]
theorem bin_item (x y z : Int) (w : World) : (binOp BinOp.neq 49 (.agg #[.int .i64 x, .int .i64 y, .int .i64 z]) (.agg #[.int .i64 x, .int .i64 y, .int .i64 z])).run Try.prog w = .ok (.bool false) w := by
  rw [run_neq_struct, run_equalIn_struct w 9999 49 _ _ u49 s49]
  simp [go_sem, Op.eqFields, Program.fieldsOf, Try.underlying49]

/-- What is known on the way: W stands with the box laid. -/
structure GS (W w : World) (lv va vb : Value) (rvs : List Value) (zss : List (List El)) : Prop where
  kp : KP W w
  rows : RowsAt W.heap.size lv rvs zss w
  A : ItemsAt w va (tripsOf 0 zss)
  B : ItemsAt w vb (tripsOf 0 zss)
theorem GS.to {W w w' : World} {lv va vb : Value} {rvs : List Value} {zss : List (List El)} (h : GS W w lv va vb rvs zss) (hk : KP w w') : GS W w' lv va vb rvs zss :=
  ⟨kp_trans h.kp hk, h.rows.kp h.kp (kp_trans h.kp hk), h.A.kp hk, h.B.kp hk⟩

noncomputable def glB : Code := Try.f5.body.getD .skip
abbrev GlPost (W : World) : Exit → Act → World → Prop := lastPost Try.prog Try.f5 fun v w' => v = .bool true ∧ KP W w'

theorem kp_box (W : World) (lv : Value) (t : TypeId) : KP W (W.alloc (.cells #[lv] t)) := ⟨by simp, fun b _ hl => Below.heap_alloc _ _ _ hl, rfl, rfl⟩

theorem row_le {zss : List (List El)} {zs : List El} (h : zs ∈ zss) : zs.length ≤ zss.flatten.length := by
  induction zss with
  | nil => cases h
  | cons a l ih =>
    rw [List.flatten_cons, List.length_append]
    rcases List.mem_cons.1 h with rfl | h
    · omega
    · have := ih h
      omega

/-- A row, looked up. -/
theorem GS.row {W w : World} {a0 : Option Addr} {n cap : Nat} {va vb : Value} {rvs : List Value} {zss : List (List El)} (h : GS W w (.slice a0 n cap) va vb rvs zss) {k : Nat} (hk : k < zss.length) :
    ∃ blk off ra rc, a0 = some ⟨blk, off, none⟩ ∧ w.cell? ⟨blk, off + k, none⟩ = some (.slice ra zss[k].length rc) ∧ (∀ j, (hj : j < zss[k].length) → ∃ rb ro, ra = some ⟨rb, ro, none⟩ ∧ w.cell? ⟨rb, ro + j, none⟩ = some (.int .i64 zss[k][j])) := by
  have hlen := h.rows.len
  obtain ⟨a, cap', e, hc⟩ := h.rows.val
  cases e
  obtain ⟨blk, off, e, _, hcell⟩ := hc (by omega)
  obtain ⟨rv, hrv⟩ : ∃ rv, rvs[k]? = some rv := ⟨_, List.getElem?_eq_getElem (by omega)⟩
  obtain ⟨⟨ra, rc, er, hra⟩, _, _⟩ := h.rows.row k rv zss[k] hrv (List.getElem?_eq_getElem hk)
  refine ⟨blk, off, ra, rc, e, by rw [hcell k rv hrv, er], fun j hj => ?_⟩
  obtain ⟨rb, ro, e, _, hcl⟩ := hra (by omega)
  exact ⟨rb, ro, e, hcl j _ (List.getElem?_eq_getElem hj)⟩
theorem take_flat {zss : List (List El)} {k : Nat} (hk : k < zss.length) : (zss.take (k + 1)).flatten.length = (zss.take k).flatten.length + zss[k].length := by
  rw [List.take_succ_eq_append_getElem hk, List.flatten_append, List.length_append]
  simp
/-- An item of both, looked up. -/
theorem ItemsAt.get {w : World} {a : Option Addr} {n c : Nat} {zss : List (List El)} (h : ItemsAt w (.slice a n c) (tripsOf 0 zss)) {k j : Nat} (hk : k < zss.length) (hj : j < zss[k].length) :
    (zss.take k).flatten.length + j < (tripsOf 0 zss).length ∧ ∃ g, a = some ⟨g, 0, none⟩ ∧ w.cell? ⟨g, ((zss.take k).flatten.length + j) * 3, none⟩ = some (.int .i64 k) ∧ w.cell? ⟨g, ((zss.take k).flatten.length + j) * 3 + 1, none⟩ = some (.int .i64 j) ∧ w.cell? ⟨g, ((zss.take k).flatten.length + j) * 3 + 2, none⟩ = some (.int .i64 zss[k][j]) := by
  have hg := trips_get zss 0 k j zss[k] zss[k][j] (List.getElem?_eq_getElem hk) (List.getElem?_eq_getElem hj)
  have hlt := (List.getElem?_eq_some_iff.1 hg).1
  refine ⟨hlt, ?_⟩
  obtain ⟨a', c', e, hc⟩ := h.val
  cases e
  obtain ⟨g, e, _, hcell⟩ := hc (by omega)
  obtain ⟨h1, h2, h3⟩ := hcell _ _ hg
  exact ⟨g, e, by simpa using h1, h2, h3⟩

set_option maxRecDepth 100000 in
set_option maxHeartbeats 8000000 in
theorem gathers_main {W : World} {lv : Value} {rvs : List Value} {zss : List (List El)} (hR : RowsAt W.heap.size lv rvs zss W) :
    Gwp Try.prog glB (GlPost W) ⟨#[lv] ++ Array.replicate 101 undef, []⟩ W := by
  have hP := plain
  obtain ⟨a0, cap, rfl, _⟩ := id hR.val
  simp only [glB, Try.f5, Option.getD_some, Array.replicate_succ, Array.replicate_zero]
  walk_nrm
  refine gwp_seq hP (gwp_of_wp hP (fun _ _ h => h) (fun _ _ _ h => h) fun τ d => ?_)
  have hk : KP W (re W τ d) := rely_re τ d
  generalize re W τ d = w at hk ⊢
  go_wp2
  obtain ⟨W1, hW1⟩ : ∃ W1, W1 = w.alloc (.cells #[.slice a0 rvs.length cap] 26) := ⟨_, rfl⟩
  have hk1 : KP W W1 := by rw [hW1]; exact kp_trans hk (kp_box _ _ _)
  have hbox : W1.cell? ⟨w.heap.size, 0, none⟩ = some (.slice a0 rvs.length cap) := by rw [hW1]; simp
  have hlt : w.heap.size < W1.heap.size := by rw [hW1]; simp
  rw [← hW1]
  clear hW1
  generalize w.heap.size = b at hbox hlt ⊢
  have hR1 := (hR.kp (KP.refl W) hk1).up hk1.size (Nat.le_refl _)
  have fin : ∀ {w'}, KP W1 w' → KP W w' := fun h => kp_trans hk1 h
  have hbx : ∀ {w' : World}, KP W1 w' → w'.cell? ⟨b, 0, none⟩ = some (.slice a0 rvs.length cap) := fun hk => (World.cell?_of_block (a := ⟨b, 0, none⟩) (hk.keep b (.inl hlt) hlt)).trans hbox
  clear hk1 hk hR hbox w
  refine gwp_seq hP (gwp_seq hP (gwp_of_wp hP (fun _ _ h => h) (fun _ _ _ h => h) fun τ d => ?_))
  have hk : KP W1 (re W1 τ d) := rely_re τ d
  generalize re W1 τ d = w at hk ⊢
  have hb := hbx hk
  have htot := total16 hR1 hk
  go_wp2_with fail
  refine htot.mono ?_
  rintro e w1 ⟨n, rfl, hT, hk⟩
  clear htot hb
  by_cases hn : 500 < n
  · clear hT
    go_wp2
    refine gwp_cond_true hP (congrArg Value.bool (decide_eq_true (by omega))) ?_
    refine gwp_awake rfl rfl rfl rfl rfl rfl rfl (by simp) fun w' hG => ⟨rfl, .bool true, fun w => results_runT (t := 2) rfl _ _, rfl, fin (kp_trans hk hG)⟩
  have hc : zss.flatten.length + zss.length ≤ 500 := by unfold Tells cost at hT; omega
  have HC := Lib.hid hc
  clear hT hc
  go_wp2
  refine gwp_cond_false hP (congrArg Value.bool (decide_eq_false (by omega))) ?_
  refine gwp_skip hP ?_
  generalize w1 = w at hk ⊢
  -- Gather
  have hb := hbx hk
  have hRw := (hR1.kp (KP.refl W1) hk).up hk.size (Nat.le_refl _)
  refine gwp_seq hP (gwp_region hP ?_)
  refine gwpOps_value (v := .slice a0 rvs.length cap) (w₁ := w) hP rfl rfl (fun τ d => by have hb' := hbx (hk.trans (rely_re τ d)); simp [go_sem, hb']) ?_
  walk_nrm
  refine gwpOps_call (f := 17) (args := #[.slice a0 rvs.length cap]) (R := fun v w' => Gathered w zss v w') hP rfl rfl (fun τ e => ?_) (gather17 hRw (by have := HC.out; omega)) (fun va w₂ hG => ?_)
  · refine (run_call_body rfl Try.func17 (by decide) rfl).trans ?_
    simp [Act.eval]
  obtain ⟨hA, hG⟩ := hG
  replace hA := ItemsAt.of hA
  replace hk := kp_trans hk hG
  clear hG hRw hb
  generalize w₂ = w at hA hk ⊢
  walk_nrm
  refine gwpOps_value (v := va) (w₁ := w) hP rfl rfl (fun τ d => by simp [go_sem]) ?_
  walk_nrm
  refine gwpOps_nil hP ?_
  simp only [Exit.then]
  -- Fan
  have hb := hbx hk
  have hRw := (hR1.kp (KP.refl W1) hk).up hk.size (Nat.le_refl _)
  refine gwp_seq hP (gwp_region hP ?_)
  refine gwpOps_value (v := .slice a0 rvs.length cap) (w₁ := w) hP rfl rfl (fun τ d => by have hb' := hbx (hk.trans (rely_re τ d)); simp [go_sem, hb']) ?_
  walk_nrm
  refine gwpOps_value (v := .int .i64 rvs.length) (w₁ := w) hP rfl rfl (fun τ d => by simp [go_sem]) ?_
  walk_nrm
  refine gwpOps_value (v := .func (.func 19) #[] #[.pointer (some ⟨b, 0, none⟩)]) (w₁ := w) hP rfl rfl (fun τ d => by simp [go_sem]) ?_
  walk_nrm
  refine gwpOps_call (f := 18) (args := #[.int .i64 rvs.length, .func (.func 19) #[] #[.pointer (some ⟨b, 0, none⟩)]]) (R := fun v w' => Gathered w zss v w') hP rfl rfl (fun τ e => ?_) (by rw [hR1.len]; exact fan18 (by rw [hR1.len] at hRw; exact hRw) (by rw [hR1.len] at hb; exact hb) (by have := HC.out; omega) (fun zs h => by have := HC.out; have := row_le h; omega) (by have := HC.out; omega)) (fun vb w₂ hG => ?_)
  · refine (run_call_body rfl Try.func18 (by decide) rfl).trans ?_
    simp [Act.eval]
  obtain ⟨hB, hG⟩ := hG
  replace hB := ItemsAt.of hB
  replace hk := kp_trans hk hG
  replace hA := hA.kp hG
  clear hG hRw hb
  generalize w₂ = w at hA hB hk ⊢
  walk_nrm
  refine gwpOps_value (v := vb) (w₁ := w) hP rfl rfl (fun τ d => by simp [go_sem]) ?_
  walk_nrm
  refine gwpOps_nil hP ?_
  simp only [Exit.then]
  have hS : GS W1 w (.slice a0 rvs.length cap) va vb rvs zss := ⟨hk, hR1.kp (KP.refl W1) hk, hA, hB⟩
  clear hk hA hB
  -- the loops
  refine gwp_seq hP (gwp_of_wp hP (fun _ _ h => h) (fun _ _ _ h => h) fun τ d => ?_)
  replace hS := hS.to (rely_re τ d)
  generalize re w τ d = w at hS ⊢
  go_wp2
  refine gwp_seq hP (gwp_of_wp hP (fun _ _ h => h) (fun _ _ _ h => h) fun τ d => ?_)
  replace hS := hS.to (rely_re τ d)
  generalize re w τ d = w at hS ⊢
  go_wp2
  obtain ⟨aa, ca, rfl, _⟩ := hS.A.val
  obtain ⟨ab, cb, rfl, _⟩ := hS.B.val
  have hL := trips_length zss 0
  have hl1 : rvs.length ≤ zss.length := by rw [hR1.len]; exact Nat.le_refl _
  have hl2 : zss.length ≤ rvs.length := by rw [hR1.len]; exact Nat.le_refl _
  have hL1 : (tripsOf 0 zss).length ≤ 500 := by have := HC.out; omega
  clear hL
  have hzl : zss.length ≤ 500 := by have := HC.out; omega
  go_loopw [6, 5] (fun i p w' => ∃ k : Nat, k ≤ zss.length ∧ i = .int .i64 k ∧ p = .int .i64 ((zss.take k).flatten.length : Nat) ∧ GS W1 w' (.slice a0 rvs.length cap) (.slice aa (tripsOf 0 zss).length ca) (.slice ab (tripsOf 0 zss).length cb) rvs zss) (fun i _ _ => zss.length - (intOf i).toNat)
  case atStart => exact ⟨0, by omega, rfl, rfl, hS⟩
  case round =>
    obtain ⟨k, hk, rfl, rfl, hS⟩ := hrel
    have hb := hbx hS.kp
    by_cases hlt : k < zss.length
    · have hkr : k < rvs.length := by omega
      go_wp2
      go_loopw [7, 5] (fun i p w' => ∃ j : Nat, j ≤ zss[k].length ∧ i = .int .i64 j ∧ p = .int .i64 (((zss.take k).flatten.length + j : Nat)) ∧ GS W1 w' (.slice a0 rvs.length cap) (.slice aa (tripsOf 0 zss).length ca) (.slice ab (tripsOf 0 zss).length cb) rvs zss) (fun i _ _ => zss[k].length - (intOf i).toNat)
      case atStart => exact ⟨0, by omega, rfl, rfl, hS⟩
      case round =>
        obtain ⟨j, hj, rfl, rfl, hS⟩ := hrel
        have hb := hbx hS.kp
        obtain ⟨blk, off, ra, rc, rfl, hrow, hin⟩ := hS.row hlt
        have hzk : zss[k].length ≤ 500 := by have := HC.out; have := row_le (List.getElem_mem hlt); omega
        have HK := Lib.hid hS
        clear hS
        by_cases hlj : j < zss[k].length
        · obtain ⟨rb, ro, rfl, hv⟩ := hin j hlj
          obtain ⟨hp, ga, rfl, hA0, hA1, hA2⟩ := HK.out.A.get hlt hlj
          obtain ⟨_, gb, rfl, hB0, hB1, hB2⟩ := HK.out.B.get hlt hlj
          obtain ⟨p, hpe⟩ : ∃ p, p = (zss.take k).flatten.length + j := ⟨_, rfl⟩
          rw [← hpe] at hp hA0 hA1 hA2 hB0 hB1 hB2 ⊢
          generalize zss[k][j] = z at hv hA2 hB2
          have HP := Lib.hid hpe
          clear hin hpe
          go_wp2
          have d1 : decide ((tripsOf 0 zss).length ≤ p) = false := by simpa using hp
          have d2 : (p : Int) < ((tripsOf 0 zss).length : Int) := by omega
          have d3 : decide (((tripsOf 0 zss).length : Int) ≤ (p : Int)) = false := by simpa using hp
          have heq := fun w => bin_item k j z w
          have heg := fun a b w => guard_item k j z a b w
          go_quiet (fail)
          clear heq heg d1 d2 d3
          go_wp2
          refine ⟨⟨j + 1, by omega, by simp, ?_, HK.out.to (kp_drewN _ _)⟩, by simp [intOf]; omega⟩
          have e := HP.out
          congr 1
          omega
        · obtain rfl : j = zss[k].length := by omega
          clear hlj hj
          go_wp2
          go_roundw
          case rel => exact ⟨k + 1, by omega, by simp, by rw [take_flat hlt], HK.out⟩
          case measure => simp [intOf]; omega
    · obtain rfl : k = zss.length := by omega
      rw [List.take_of_length_le (Nat.le_refl _)]
      have hL := trips_length zss 0
      rw [← hL]
      have hS := hS
      clear hL hk hlt hb
      generalize (tripsOf 0 zss).length = L at hS hL1 ⊢
      have hkf := hS.kp
      clear hS
      go_wp2
      refine gwp_seq hP (gwp_region hP ?_)
      generalize wr = w at hkf ⊢
      have hL' : L = L := rfl
      refine gwpOps_value (v := .int .i64 L) (w₁ := w) hP rfl rfl (fun τ d => by simp [go_sem]) ?_
      walk_nrm
      refine gwpOps_value (v := .slice aa L ca) (w₁ := w) hP rfl rfl (fun τ d => by simp [go_sem]) ?_
      walk_nrm
      refine gwpOps_value (v := .int .i64 L) (w₁ := w) hP rfl rfl (fun τ d => by simp [go_sem]) ?_
      walk_nrm
      refine gwpOps_value (v := .bool true) (w₁ := w) hP rfl rfl (fun τ d => by simp [go_sem]) ?_
      walk_nrm
      refine gwpOps_value (v := .bool true) (w₁ := w) hP rfl rfl (fun τ d => by simp [go_sem]) ?_
      walk_nrm
      refine gwpOps_value (v := .int .i64 L) (w₁ := w) hP rfl rfl (fun τ d => by simp [go_sem]) ?_
      walk_nrm
      refine gwpOps_value (v := .slice ab L cb) (w₁ := w) hP rfl rfl (fun τ d => by simp [go_sem]) ?_
      walk_nrm
      refine gwpOps_value (v := .int .i64 L) (w₁ := w) hP rfl rfl (fun τ d => by simp [go_sem]) ?_
      walk_nrm
      refine gwpOps_value (v := .bool true) (w₁ := w) hP rfl rfl (fun τ d => by simp [go_sem]) ?_
      walk_nrm
      refine gwpOps_value (v := .bool true) (w₁ := w) hP rfl rfl (fun τ d => by simp [go_sem]) ?_
      walk_nrm
      refine gwpOps_value (v := .bool true) (w₁ := w) hP rfl rfl (fun τ d => by simp [go_sem]) ?_
      walk_nrm
      refine gwpOps_call (f := 7) (args := #[]) (R := fun v w' => v = .bool true ∧ KP w w') hP rfl rfl (fun τ e => ?_) (awake7 w) (fun v w₅ hG => ?_)
      · refine (run_call_body rfl Try.func7 (by decide) rfl).trans ?_
        simp
      obtain ⟨rfl, hG⟩ := hG
      walk_nrm
      refine gwpOps_value (v := .bool true) (w₁ := w₅) hP rfl rfl (fun τ d => by simp [go_sem]) ?_
      walk_nrm
      refine gwpOps_value (v := .bool true) (w₁ := w₅) hP rfl rfl (fun τ d => by simp [go_sem]) ?_
      walk_nrm
      refine gwpOps_nil hP ?_
      simp only [Exit.then]
      exact gwp_ret hP ⟨rfl, .bool true, fun w => results_runT (t := 2) rfl _ _, rfl, fin (kp_trans hkf hG)⟩
end Go.Proofs.Ytjcplblnapcfcaa
