/-
  WHO GATHERS: the select loop.
-/
import Derived.Test.YtjcplblnapcfcaaStD
import Derived.Test.YtjcplblnapcfcaaWaE
set_option linter.unusedSimpArgs false
namespace Go.Proofs.Ytjcplblnapcfcaa.S
open Go Go.Gat Go.Conc

noncomputable def gaB : Code := Try.f35.body.getD .skip
noncomputable def gaT : Code := match gaB with | .seq _ (.seq _ (.seq _ (.seq _ (.seq _ t)))) => t | _ => .skip
noncomputable def gaS : Code := match gaB with | .seq _ (.seq _ (.seq _ (.seq _ (.seq s _)))) => s | _ => .skip
noncomputable def gaL1 : Code := match gaB with | .seq _ (.seq _ (.seq _ (.seq (.seq _ (.block _ (.loop c))) _))) => c | _ => .skip
noncomputable def gaL2 : Code := match gaS with | .seq _ (.block _ (.loop c)) => c | _ => .skip

def zd : Value := .int .i64 0
theorem zero3 : ∀ w, (zeroValue 3).run Try.prog w = .ok zd w := fun _ => by kernel_rfl
theorem info49 : (Try.prog.info? 57).map (fun i => (i.zero, i.size, i.bytes)) = some (some zi, 3, 32) := by kernel_rfl

/-- Their cells, one behind the other. -/
def flat (l : List Value) : List Value := l.flatMap fun v => v.cells.toList
theorem flat_snoc (l : List Value) (x y z : Value) : flat (l ++ [.agg #[x, y, z]]) = flat l ++ [x, y, z] := by simp [flat, Value.cells]

/-- What was there is as it was. -/
abbrev KP (w₀ w : World) : Prop := Rely w₀.heap.size (fun _ => False) w₀ w

theorem KP.step {w₀ w w' : World} {own own' : Own} {es : Array Event} (h : KP w₀ w) (hown : ∀ b, own b → w₀.heap.size ≤ b) (hg : Guar w₀.heap.size own own' w w' es) : KP w₀ w' :=
  ⟨Nat.le_trans h.size hg.size, fun b hb hl => (hg.keep b (Nat.lt_of_lt_of_le hl h.size) fun ho => by have := hown b ho; omega).trans (h.keep b hb hl), hg.os.trans h.os, hg.output.trans h.output⟩
theorem KP.rely {w₀ w w' : World} {own : Own} (h : KP w₀ w) (hr : Rely w₀.heap.size own w w') : KP w₀ w' :=
  h.trans ⟨hr.size, fun b hb hl => hr.keep b (hb.imp id False.elim) hl, hr.os, hr.output⟩
theorem own_step {B : Nat} {w w' : World} {own own' : Own} {es : Array Event} (hown : ∀ b, own b → B ≤ b) (hB : B ≤ w.heap.size) (hg : Guar B own own' w w' es) : ∀ b, own' b → B ≤ b := fun b hb => by
  rcases hg.new b hb with h | ⟨h, _⟩
  · exact hown b h
  · omega
theorem ownsRow_rely {B : Nat} {w w' : World} {own : Own} {e : TypeId} {size n : Nat} {v : Value} {xs : List Value} (h : w.ownsRow B e size v n xs) (hv : ∀ k, v.ownBlock = some k → own k) (hr : Rely B own w w') : w'.ownsRow B e size v n xs := by
  refine ⟨h.1, h.2.imp id ?_⟩
  rintro ⟨g, cap, cur, rfl, h2, h3, h4⟩
  exact ⟨g, cap, cur, rfl, h2, (hr.keep g (.inr (hv g rfl)) (Array.getElem?_eq_some_iff.1 h3).1).trans h3, h4⟩

/-- Where the phase ends: behind the select loop; 'out' holds what has come. -/
def gaFin (w₀ : World) (lv : Value) (cs : List Frame) (acc : List Value) (_own : Own) (g : Goroutine) (w : World) : Prop :=
  ∃ a : Act, a.defers = [] ∧ a.tmps.size = 50 ∧ g = G ((base 35).at a [.code gaT]) cs ∧ w.ownsRow w₀.heap.size 57 3 (a.tmps.getD 2 undef) acc.length (flat acc) ∧ KP w₀ w ∧ a.tmps.getD 0 undef = lv

abbrev seFr (lv out : Value) (all dn left : Nat) (u1 u5 u6 u7 u9 u10 u11 u12 u13 u14 u15 u16 u17 u18 u19 u20 u21 u22 u23 u24 u25 u26 u27 u28 u29 u30 u31 u32 u33 u34 u35 u36 u37 u38 u39 u40 u41 u42 u43 u44 u45 u46 u47 u48 u49 : Value) (todo : List Item) : Frame :=
  (base 35).at ⟨#[lv, u1, out, (.chan (some all)), (.chan (some dn)), u5, u6, u7, (.int .i64 left), u9, u10, u11, u12, u13, u14, u15, u16, u17, u18, u19, u20, u21, u22, u23, u24, u25, u26, u27, u28, u29, u30, u31, u32, u33, u34, u35, u36, u37, u38, u39, u40, u41, u42, u43, u44, u45, u46, u47, u48, u49], []⟩ todo

theorem way_le {P : Program} {B : Nat} {m : Bool} {T : Own → Goroutine → World → Prop} : ∀ {n k : Nat} {own : Own} {g : Goroutine} {w : World}, n ≤ k → Gat.Way P B m T n own g w → Gat.Way P B m T k own g w
  | 0, _, _, _, _, _, h => way_stop h
  | _ + 1, 0, _, _, _, hk, _ => absurd hk (by omega)
  | n + 1, k + 1, _, _, _, hk, h => h.imp id fun ⟨h1, h2⟩ => ⟨h1, fun w₁ h₁ => let ⟨g', w', es, own', a, b, c, d⟩ := h2 w₁ h₁; ⟨g', w', es, own', a, b, c, way_le (by omega) d⟩⟩

theorem uponK_run {P : Program} {o : Oper} {a : Act} {w w' : World} {v xv v' : Value} (s x : Operand) (t : TypeId) (ho : o.op = .call { callee := .builtin .append, args := #[s, x], argTypes := #[t, t] }) (hs : a.eval s = v) (hx : a.eval x = xv)
    (hr : (Builtin.append_ #[t, t] o.type #[v, xv]).run P w = .ok v' w') : (execOp a.eval o).run P w = .ok (.value v') w' := by
  unfold execOp
  simp only [ho, resolve, invoke, builtin, Sem.run_bind, Sem.run_pure, Result.andThen_ok, List.map_toArray, List.map_cons, List.map_nil, hs, hx, hr]

section
variable {w₀ : World} {lv : Value} {cs : List Frame}

set_option maxRecDepth 100000 in
set_option maxHeartbeats 1000000 in
theorem sel_head (all dn F : Nat) (hF : F * 32 ≤ 140737488355328) : ∀ (f left : Nat) (acc : List Value) (own : Own) (out u1 u5 u6 u7 u9 u10 u11 u12 u13 u14 u15 u16 u17 u18 u19 u20 u21 u22 u23 u24 u25 u26 u27 u28 u29 u30 u31 u32 u33 u34 u35 u36 u37 u38 u39 u40 u41 u42 u43 u44 u45 u46 u47 u48 u49 : Value) (w : World), acc.length + f ≤ F → left ≤ 9223372036854775807 →
    (∀ b, own b → w₀.heap.size ≤ b) → (∀ k, out.ownBlock = some k → own k) → w.ownsRow w₀.heap.size 57 3 out acc.length (flat acc) → KP w₀ w →
    Gat.Way Try.prog w₀.heap.size true (AtP Try.prog w₀.heap.size (gaFin w₀ lv cs) (selP zi zd all dn f left acc) true) 40 own (G (seFr lv out all dn left u1 u5 u6 u7 u9 u10 u11 u12 u13 u14 u15 u16 u17 u18 u19 u20 u21 u22 u23 u24 u25 u26 u27 u28 u29 u30 u31 u32 u33 u34 u35 u36 u37 u38 u39 u40 u41 u42 u43 u44 u45 u46 u47 u48 u49 [.code gaL2, .inLoop gaL2, .inBlock 2, .code gaT]) cs) w := by
  have hz := zero49
  have hz3 := zero3
  intro f
  induction f with
  | zero =>
    intro left acc own out u1 u5 u6 u7 u9 u10 u11 u12 u13 u14 u15 u16 u17 u18 u19 u20 u21 u22 u23 u24 u25 u26 u27 u28 u29 u30 u31 u32 u33 u34 u35 u36 u37 u38 u39 u40 u41 u42 u43 u44 u45 u46 u47 u48 u49 w hf hl h1 h2 h3 h4
    cases left with
    | succ left => exact way_stop fun _ _ => rfl
    | zero =>
      refine way_seq ?_
      refine way_seq ?_
      refine way_region rfl ?_
      refine way_val (v := .int .i64 (0 : Nat)) rfl rfl (by decide) (fun w => ⟨by simp [go_sem], by simp [go_sem]⟩) ?_
      walk_nrm
      refine way_val (v := .bool false) rfl rfl (by decide) (fun w => ⟨by simp [go_sem], by simp [go_sem]⟩) ?_
      walk_nrm
      refine way_out ?_
      refine way_cond (t := false) rfl ?_
      refine way_exit rfl ?_
      refine way_stop (fun w₁ r₁ => ?_)
      exact ⟨rfl, _, rfl, rfl, rfl, ownsRow_rely h3 h2 r₁, h4.rely r₁, rfl⟩
  | succ f ih =>
    intro left acc own out u1 u5 u6 u7 u9 u10 u11 u12 u13 u14 u15 u16 u17 u18 u19 u20 u21 u22 u23 u24 u25 u26 u27 u28 u29 u30 u31 u32 u33 u34 u35 u36 u37 u38 u39 u40 u41 u42 u43 u44 u45 u46 u47 u48 u49 w hf hl h1 h2 h3 h4
    cases left with
    | zero =>
      refine way_seq ?_
      refine way_seq ?_
      refine way_region rfl ?_
      refine way_val (v := .int .i64 (0 : Nat)) rfl rfl (by decide) (fun w => ⟨by simp [go_sem], by simp [go_sem]⟩) ?_
      walk_nrm
      refine way_val (v := .bool false) rfl rfl (by decide) (fun w => ⟨by simp [go_sem], by simp [go_sem]⟩) ?_
      walk_nrm
      refine way_out ?_
      refine way_cond (t := false) rfl ?_
      refine way_exit rfl ?_
      refine way_stop (fun w₁ r₁ => ?_)
      exact ⟨rfl, _, rfl, rfl, rfl, ownsRow_rely h3 h2 r₁, h4.rely r₁, rfl⟩
    | succ left =>
      refine way_seq ?_
      refine way_seq ?_
      refine way_region rfl ?_
      refine way_val (v := .int .i64 (left + 1 : Nat)) rfl rfl (by decide) (fun w => ⟨by simp [go_sem], by simp [go_sem]⟩) ?_
      walk_nrm
      refine way_val (v := .bool true) rfl rfl (by decide) (fun w => ⟨by simp [go_sem], by simp [go_sem]⟩) ?_
      walk_nrm
      refine way_out ?_
      refine way_cond (t := true) rfl ?_
      refine way_sk ?_
      refine way_block ?_
      refine way_seq ?_
      refine way_seq ?_
      refine way_region rfl ?_
      refine way_val (v := .chan (some all)) rfl rfl (by decide) (fun w => ⟨by simp [go_sem], by simp [go_sem]⟩) ?_
      walk_nrm
      refine way_out ?_
      refine way_region rfl ?_
      refine way_val (v := .chan (some dn)) rfl rfl (by decide) (fun w => ⟨by simp [go_sem], by simp [go_sem]⟩) ?_
      walk_nrm
      refine way_out ?_
      refine way_seq ?_
      refine way_region rfl ?_
      refine way_stop (fun w₁ r₁ => ?_)
      have h3 := ownsRow_rely h3 h2 r₁
      have h4 := h4.rely r₁
      clear r₁
      refine atP_sel rfl rfl (by decide) (by simp [go_sem, hz, hz3, rcase]) (by simp [go_sem, hz, hz3]) (fun v => ?_) (fun v => ?_)
      · by_cases hv : isItem v = true
        · rw [if_pos hv]
          refine ⟨fun e => absurd (Proc.isQuit_iff.1 e) (selP_ne_quit zi zd), fun _ => ?_⟩
          obtain ⟨x, y, z, rfl, hx, hy, hzz⟩ := isItem_agg hv
          have hB := h4.size
          walk_nrm
          refine ⟨100, ?_⟩
          refine way_val (v := .int .i64 0) rfl rfl (by decide) (fun w => ⟨by simp [go_sem, goInt], by simp [go_sem, goInt]⟩) ?_
          walk_nrm
          refine way_val (v := .bool true) rfl rfl (by decide) (fun w => ⟨by simp [go_sem], by simp [go_sem]⟩) ?_
          walk_nrm
          refine way_val (v := .bool false) rfl rfl (by decide) (fun w => ⟨by simp [go_sem], by simp [go_sem]⟩) ?_
          walk_nrm
          refine way_out ?_
          refine way_block ?_
          refine way_cond (t := true) rfl ?_
          refine way_seq ?_
          refine way_region rfl ?_
          refine way_val (v := .agg #[x, y, z]) rfl rfl (by decide) (fun w => ⟨by simp [go_sem], by simp [go_sem]⟩) ?_
          walk_nrm
          -- x := <-all: a box
          refine way_do rfl rfl (by decide) (fun w₂ r₂ => ?_)
          have h3 := ownsRow_rely h3 h2 r₂
          have h4 := h4.rely r₂
          have g2 : Guar w₀.heap.size own (fun b => own b ∨ b = w₂.heap.size) w₂ (w₂.alloc (.cells #[.int .i64 0, .int .i64 0, .string ByteArray.empty] 57)) #[] := guar_alloc (by simp)
          have hb : (w₂.alloc (.cells #[.int .i64 0, .int .i64 0, .string ByteArray.empty] 57)).heap[w₂.heap.size]? = some (.cells #[.int .i64 0, .int .i64 0, .string ByteArray.empty] 57 (0, 0)) := heap_alloc_at _ _
          refine ⟨.pointer (some ⟨w₂.heap.size, 0, none⟩), w₂.alloc (.cells #[.int .i64 0, .int .i64 0, .string ByteArray.empty] 57), fun b => own b ∨ b = w₂.heap.size, ?_, ?_, ?_⟩
          · simp [go_sem, hz, zi]
          · have : Sem.events Try.prog (Instr.alloc 57 true (.tuple #[])) w₂ #[] = #[] := by simp [go_sem, hz, zi]
            simpa [go_sem, this] using g2
          have h30 := h3
          have h3 := h3.alloc (.cells #[.int .i64 0, .int .i64 0, .string ByteArray.empty] 57)
          have h1' := own_step h1 h4.size g2
          have h4 := h4.step h1 g2
          have h2' : ∀ k, out.ownBlock = some k → own k ∨ k = w₂.heap.size := fun k hk => .inl (h2 k hk)
          have hbo : own w₂.heap.size ∨ w₂.heap.size = w₂.heap.size := .inr rfl
          have hne : out.ownBlock ≠ some w₂.heap.size := fun e => by have := (h30.lt _ e).2; omega
          clear r₂ g2 h30
          generalize hown' : (fun b => own b ∨ b = w₂.heap.size) = own' at h1' ⊢
          have h2 : ∀ k, out.ownBlock = some k → own' k := fun k hk => by rw [← hown']; exact h2' k hk
          have hbo : own' w₂.heap.size := by rw [← hown']; exact hbo
          generalize w₂.heap.size = bk at hb hbo hne ⊢
          generalize w₂.alloc (.cells #[.int .i64 0, .int .i64 0, .string ByteArray.empty] 57) = w₃ at hb h3 h4 ⊢
          have h1 : ∀ b, own' b → w₀.heap.size ≤ b := fun b hb => by rw [← hown'] at hb; exact h1' b hb
          clear hown' h2' h1'
          walk_nrm
          refine way_skip rfl rfl (by decide) (fun w₄ r₄ => ?_)
          have h3 := ownsRow_rely h3 h2 r₄
          have h4 := h4.rely r₄
          have hb4 : w₄.heap[bk]? = _ := (r₄.keep bk (.inr hbo) (Array.getElem?_eq_some_iff.1 hb).1).trans hb
          clear r₄ hb
          have hrun := run_storeVar3 (size49 w₄) hb4 hx hy hzz
          have g4 : Guar w₀.heap.size own' own' w₄ (w₄.setRow bk #[x, y, z]) ((storeVar 57 ⟨bk, 0, none⟩ (.agg #[x, y, z])).events Try.prog w₄ #[]) :=
            guar_row hbo fun e he => evOK_own (g := bk) hbo (events_storeVar3 (size49 w₄) (size49e w₄) hb4 hx hy hzz e he)
          refine ⟨w₄.setRow bk #[x, y, z], own', run_op_store rfl rfl rfl hrun, ?_, ?_⟩
          · rw [events_op_store rfl rfl rfl hrun]; exact g4
          have hb5 : (w₄.setRow bk #[x, y, z]).heap[bk]? = some (.cells #[x, y, z] 57 (0, 0)) := setRow_heap _ _ _ _ _ _ hb4
          have h3 := h3.kept (w' := w₄.setRow bk #[x, y, z]) (row := some bk) ⟨rfl, rfl, rfl, by simp, fun k _ hk => setRow_other w₄ bk k #[x, y, z] fun e => hk (by rw [e])⟩ (.inr hne)
          have h4 := h4.step h1 g4
          clear g4 hrun hb4
          generalize w₄.setRow bk #[x, y, z] = w₅ at hb5 h3 h4 ⊢
          walk_nrm
          refine way_out ?_
          refine way_region rfl ?_
          refine way_val (v := out) rfl rfl (by decide) (fun w => ⟨by simp [go_sem], by simp [go_sem]⟩) ?_
          walk_nrm
          refine way_read (v := .agg #[x, y, z]) rfl rfl (by decide) (fun w₆ r₆ => ?_) ?_
          · have hb6 : w₆.heap[bk]? = _ := (r₆.keep bk (.inr hbo) (Array.getElem?_eq_some_iff.1 hb5).1).trans hb5
            have k1 := run_loadVar3 (agg49 w₆) (size49 w₆) hb6
            have k2 := events_loadVar3 (agg49 w₆) (size49 w₆) (agg49e w₆) hb6
            refine ⟨run_op_load rfl rfl k1, fun e he => ?_⟩
            rw [events_op_load rfl rfl k1] at he
            obtain ⟨e1, e2, e3⟩ := k2 e he
            exact evOK_own (g := bk) hbo ⟨e1, e3⟩
          walk_nrm
          -- the slice of one
          refine way_do rfl rfl (by decide) (fun w₇ r₇ => ?_)
          have h3 := ownsRow_rely h3 h2 r₇
          have h4 := h4.rely r₇
          have g7 : Guar w₀.heap.size own' (fun b => own' b ∨ b = w₇.heap.size) w₇ (w₇.alloc (.cells #[x, y, z] 57)) #[] := guar_alloc (by simp)
          have hb8 : (w₇.alloc (.cells #[x, y, z] 57)).heap[w₇.heap.size]? = some (.cells #[x, y, z] 57 (0, 0)) := heap_alloc_at _ _
          have hev : Sem.events Try.prog (Instr.buildSlice 51 1 #[(0, .agg #[x, y, z])]) w₇ #[] = #[] := by simp [go_sem, hz, zi]
          refine ⟨.slice (some ⟨w₇.heap.size, 0, none⟩) 1 1, w₇.alloc (.cells #[x, y, z] 57), fun b => own' b ∨ b = w₇.heap.size, by simp [go_sem, hz, zi], by simpa [go_sem, hev] using g7, ?_⟩
          have h3 := h3.alloc (.cells #[x, y, z] 57)
          have h1' := own_step h1 h4.size g7
          have h4 := h4.step h1 g7
          have h2' : ∀ k, out.ownBlock = some k → own' k ∨ k = w₇.heap.size := fun k hk => .inl (h2 k hk)
          have hbo8 : own' w₇.heap.size ∨ w₇.heap.size = w₇.heap.size := .inr rfl
          clear r₇ g7 hev hb5 hbo hne
          generalize hown8 : (fun b => own' b ∨ b = w₇.heap.size) = own8 at h1' ⊢
          have h2 : ∀ k, out.ownBlock = some k → own8 k := fun k hk => by rw [← hown8]; exact h2' k hk
          have hbo8 : own8 w₇.heap.size := by rw [← hown8]; exact hbo8
          generalize w₇.heap.size = nb at hb8 hbo8 ⊢
          generalize w₇.alloc (.cells #[x, y, z] 57) = w₈ at hb8 h3 h4 ⊢
          have h1 : ∀ b, own8 b → w₀.heap.size ≤ b := fun b hb => by rw [← hown8] at hb; exact h1' b hb
          clear hown8 h2' h1'
          walk_nrm
          -- append
          refine way_do rfl rfl (by decide) (fun w₉ r₉ => ?_)
          have h3 := ownsRow_rely h3 h2 r₉
          have h4 := h4.rely r₉
          have hb9 : w₉.heap[nb]? = _ := (r₉.keep nb (.inr hbo8) (Array.getElem?_eq_some_iff.1 hb8).1).trans hb8
          obtain ⟨v', w', own9, k1, k2, k3, k4⟩ := append_one (P := Try.prog) (ty := 51) (t := 51) (e := 57) Try.underlying51 info49 rfl h3 h2 hb9 hbo8 hx hy hzz (by unfold maxLen; omega) (by omega) h4.size
          refine ⟨v', w', own9, ?_, ?_, ?_⟩
          · refine uponK_run (.tmp 39) (.tmp 41) 51 rfl rfl rfl k1
          · rw [events_append_op (.tmp 39) (.tmp 41) 51 rfl rfl rfl]; exact k4
          have h1' := own_step h1 h4.size k4
          have h4 := h4.step h1 k4
          have h3 : w'.ownsRow w₀.heap.size 57 3 v' (acc ++ [Value.agg #[x, y, z]]).length (flat (acc ++ [Value.agg #[x, y, z]])) := by rw [flat_snoc, List.length_append]; exact k2
          walk_nrm
          refine way_val (v := v') rfl rfl (by decide) (fun w => ⟨by simp [go_sem], by simp [go_sem]⟩) ?_
          walk_nrm
          refine way_out ?_
          refine way_inBlock ?_
          refine way_inBlock ?_
          refine way_inLoop ?_
          exact way_le (by decide) (ih (left + 1) (acc ++ [Value.agg #[x, y, z]]) own9 v' u1 u5 u6 u7 (.pointer (some ⟨bk, 0, none⟩)) u10 u11 u12 u13 u14 u15 u16 u17 u18 u19 u20 u21 u22 u23 u24 u25 u26 u27 u28 u29 (.int .i64 (left + 1 : Nat)) (.bool true) (.chan (some all)) (.chan (some dn)) (.tuple #[goInt 0, .bool true, .agg #[x, y, z], zd]) (.int .i64 0) (.bool true) (.bool false) (.agg #[x, y, z]) out (.agg #[x, y, z]) (.slice (some ⟨nb, 0, none⟩) 1 1) v' u43 u44 u45 u46 u47 u48 u49 w' (by rw [List.length_append]; simp; omega) (by omega) h1' k3 h3 h4)
        · rw [if_neg hv]
          exact ⟨fun e => (by cases e), fun _ => ⟨0, fun _ _ => rfl⟩⟩
      · by_cases hv : isOne v = true
        · rw [if_pos hv]
          refine ⟨fun e => absurd (Proc.isQuit_iff.1 e) (selP_ne_quit zi zd), fun _ => ?_⟩
          obtain rfl : v = .int .i64 1 := by
            unfold isOne at hv
            split at hv
            · simp at hv; rw [hv]
            · cases hv
          walk_nrm
          have hn := ih left acc own out u1 u5 u6 u7 u9 (.int .i64 1) u11 u12 u13 u14 u15 u16 u17 u18 u19 u20 u21 u22 u23 u24 u25 u26 u27 u28 u29 (.int .i64 (left + 1 : Nat)) (.bool true) (.chan (some all)) (.chan (some dn)) (.tuple #[goInt 1, .bool true, zi, .int .i64 1]) (.int .i64 1) (.bool false) (.bool true) u38 u39 u40 u41 u42 (.int .i64 1) (.int .i64 (left + 1 : Nat)) (.int .i64 1) (.int .i64 left) u47 u48 u49 w₁ (by omega) (by omega) h1 h2 h3 h4
          refine ⟨40 + 21, ?_⟩
          refine way_val (v := .int .i64 1) rfl rfl (by decide) (fun w => ⟨by simp [go_sem, goInt], by simp [go_sem, goInt]⟩) ?_
          walk_nrm
          refine way_val (v := .bool false) rfl rfl (by decide) (fun w => ⟨by simp [go_sem], by simp [go_sem]⟩) ?_
          walk_nrm
          refine way_val (v := .bool true) rfl rfl (by decide) (fun w => ⟨by simp [go_sem], by simp [go_sem]⟩) ?_
          walk_nrm
          refine way_out ?_
          refine way_block ?_
          refine way_cond (t := false) rfl ?_
          refine way_cond (t := true) rfl ?_
          refine way_seq ?_
          refine way_region rfl ?_
          refine way_val (v := .int .i64 1) rfl rfl (by decide) (fun w => ⟨by simp [go_sem], by simp [go_sem]⟩) ?_
          walk_nrm
          refine way_val (v := .int .i64 1) rfl rfl (by decide) (fun w => ⟨by simp [go_sem], by simp [go_sem]⟩) ?_
          walk_nrm
          refine way_out ?_
          refine way_region rfl ?_
          refine way_val (v := .int .i64 (left + 1 : Nat)) rfl rfl (by decide) (fun w => ⟨by simp [go_sem], by simp [go_sem]⟩) ?_
          walk_nrm
          refine way_val (v := .int .i64 1) rfl rfl (by decide) (fun w => ⟨by simp [go_sem], by simp [go_sem]⟩) ?_
          walk_nrm
          have hwr : IntKind.i64.wrap (left : Int) = (left : Int) := by rw [IntKind.wrap_i64]; omega
          refine way_val (v := .int .i64 left) rfl rfl (by decide) (fun w => ⟨by simp [go_sem, hwr], by simp [go_sem]⟩) ?_
          walk_nrm
          refine way_val (v := .int .i64 left) rfl rfl (by decide) (fun w => ⟨by simp [go_sem], by simp [go_sem]⟩) ?_
          walk_nrm
          refine way_out ?_
          refine way_inBlock ?_
          refine way_inBlock ?_
          refine way_inLoop ?_
          exact hn
        · rw [if_neg hv]
          exact ⟨fun e => (by cases e), fun _ => ⟨0, fun _ _ => rfl⟩⟩
end
end Go.Proofs.Ytjcplblnapcfcaa.S
