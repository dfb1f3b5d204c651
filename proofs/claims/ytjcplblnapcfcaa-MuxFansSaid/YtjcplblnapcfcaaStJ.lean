/-
  GATHER's CONTRACT, beside leavers.
-/
import Derived.Test.YtjcplblnapcfcaaStI
set_option linter.unusedSimpArgs false
namespace Go.Gat
open Go Go.Conc

section
variable {P : Program}
/-- Behind a body: the frame hands its results over. -/
theorem gos_leaves (hP : Plain P) {f : FuncId} {fn : Func} {b : Frame} {R : Value → World → Prop} {cc : Frame} {cs : List Frame} (hf : P.funcs[f]? = some fn) (hbf : b.fn = f) (hbk : b.kind = .normal) (hcc : FrameOK cc) (hcs : FramesOK cs) {g' : Goroutine} {w' : World}
    (h : Done (gPost P fn R) b [] (cc :: cs) g' w') : GosAt P g' w' fun g' w' => ∃ v w₁, R v w₁ ∧ g' = GG (cc.finish v) cs ∧ Sim w₁ w' := by
  obtain ⟨e, a1, w1, hq, hat⟩ := h
  have last : ∀ {v : Value}, R v w1 → Gos P (GG (cc.finish v) cs) w1 fun g' w' => ∃ v w₁, R v w₁ ∧ g' = GG (cc.finish v) cs ∧ Sim w₁ w' := fun hR τ d => gosAt_stop ⟨_, w1, hR, rfl, τ, d, rfl⟩
  cases e with
  | normal =>
    obtain ⟨hd, v, hr, hR⟩ := hq
    obtain ⟨rfl, hs⟩ := hat
    have h2 : Gos P (GG (b.at a1 []) (cc :: cs)) w1 _ := gos_go hP (fr' := { b.at a1 [] with mode := .returning }) (fun _ h => by cases h) (.cons hcc hcs) (fun w => ⟨#[], by simp [stepG, stepG.exec, Frame.at]⟩)
      (gos_leave hP hf hbf hbk hd (fun _ h => by cases h) hcc hcs hr (last hR))
    exact h2.sim hs
  | ret =>
    obtain ⟨hd, v, hr, hR⟩ := hq
    obtain ⟨todo, ht, rfl, hs⟩ := hat
    exact (gos_leave hP hf hbf hbk hd ht hcc hcs hr (last hR)).sim hs
  | exit id => exact hq.elim
  | goto l => exact hq.elim
  | panic ch => exact hq.elim
  | outgrown => exact hq.elim
end
end Go.Gat

namespace Go.Proofs.Ytjcplblnapcfcaa.S
open Go Go.Gat Go.Conc

theorem perm_map {α β : Type} (f : α → β) : ∀ {a : List β} {l : List α}, a.Perm (l.map f) → ∃ d : List α, a = d.map f ∧ d.Perm l := by
  intro a l h
  generalize hm : l.map f = m at h
  induction h generalizing l with
  | nil => exact ⟨[], rfl, by cases l <;> simp_all⟩
  | cons x _ ih =>
    cases l with
    | nil => simp at hm
    | cons y l =>
      simp only [List.map_cons, List.cons.injEq] at hm
      obtain ⟨rfl, hm⟩ := hm
      obtain ⟨d, rfl, hd⟩ := ih hm
      exact ⟨y :: d, rfl, hd.cons y⟩
  | swap x y l2 =>
    match l, hm with
    | p :: q :: l, hm =>
      simp only [List.map_cons, List.cons.injEq] at hm
      obtain ⟨rfl, rfl, rfl⟩ := hm
      exact ⟨q :: p :: l, rfl, .swap _ _ _⟩
  | trans _ _ ih1 ih2 =>
    obtain ⟨d2, rfl, h2⟩ := ih2 hm
    obtain ⟨d1, rfl, h1⟩ := ih1 rfl
    exact ⟨d1, rfl, h1.trans h2⟩

theorem trips_length : ∀ (zss : List (List El)) (k : Nat), (tripsOf k zss).length = zss.flatten.length
  | [], _ => rfl
  | zs :: rest, k => by
    have h : ∀ (zs : List El) (n : Nat), (tripsRow k n zs).length = zs.length := fun zs => by
      induction zs with
      | nil => exact fun _ => rfl
      | cons z zs ih => exact fun n => by simp [tripsRow, ih]
    simp [tripsOf, h, trips_length rest (k + 1)]

/-- What Gather hands back. -/
def Gathered (w : World) (zss : List (List El)) (v : Value) (w' : World) : Prop :=
  w'.ownsRow w.heap.size 57 3 v (tripsOf 0 zss).length ((tripsOf 0 zss).flatMap enc3) ∧ KP w w'

theorem rely_re {B : Nat} {own : Own} {w : World} (τ : Nat → Question → Nat) (d : Nat) : Rely B own w (re w τ d) := ⟨Nat.le_refl _, fun _ _ _ => rfl, rfl, rfl⟩

set_option maxRecDepth 100000 in
theorem gather_tail {w₀ w : World} {zss : List (List El)} {d : List It} {a : Act} (hd : d.Perm (tripsOf 0 zss)) (hda : a.defers = []) (hsz : a.tmps.size = 50) (hbig : d.length < 4611686018427387904)
    (hown : w.ownsRow w₀.heap.size 57 3 (a.tmps.getD 2 undef) d.length (d.flatMap enc3)) (hk : KP w₀ w) : Gwp Try.prog gaT (gPost Try.prog Try.f35 (Gathered w₀ zss)) a w := by
  have hP := plain
  refine gwp_seq hP (gwp_region hP ?_)
  generalize hout : a.tmps.getD 2 undef = out at hown
  refine gwpOps_value (v := out) (w₁ := w) hP rfl rfl (fun τ e => by rw [← hout]; rfl) ?_
  refine gwpOps_call (f := 41) (args := #[out, .func (.func 42) #[] #[]]) (R := fun v w' => v = .tuple #[] ∧ Sorted w out w₀.heap.size (tripsOf 0 zss) w') hP rfl rfl (fun τ e => ?_) ?_ (fun v w₁ hR => ?_)
  · refine (run_call_body rfl Try.func41 (by decide) rfl).trans ?_
    simp [Act.eval, Act.put, hsz]
  · refine gcalls_of_calls hP fun τ e => ?_
    refine (sort28 (w := re w τ e) hd (tripsOf_sorted zss 0) hown hbig).mono fun en w' h => ?_
    obtain ⟨rfl, h1, h2, h3, h4, h5⟩ := h
    exact ⟨rfl, h1, h2, h3, h4, h5⟩
  · obtain ⟨rfl, hS⟩ := hR
    refine gwpOps_nil hP ?_
    simp only [Exit.then]
    refine gwp_seq hP (gwp_region hP ?_)
    refine gwpOps_value (v := out) (w₁ := w₁) hP rfl rfl (fun τ e => ?_) ?_
    · simp [execOp, Act.eval, Act.put, ← hout]
    refine gwpOps_value (v := out) (w₁ := w₁) hP rfl rfl (fun τ e => ?_) ?_
    · simp [execOp, Act.eval, Act.put, hsz]
    refine gwpOps_nil hP ?_
    simp only [Exit.then]
    refine gwp_ret hP ⟨by simp [Act.put, hda], out, fun τ e => ?_, hS.row, ?_⟩
    · refine (results_tmp (fn := Try.f35) (t := 2) rfl _ Try.prog _).trans ?_
      simp [Act.put, hsz]
    · exact ⟨Nat.le_trans hk.size hS.size, fun b hb hl => (hS.keep b (Nat.lt_of_lt_of_le hl hk.size) fun e => by have := (hown.lt b e).1; rcases hb with hb | hb; omega; exact hb).trans (hk.keep b hb hl), hS.os.trans hk.os, hS.output.trans hk.output⟩


set_option maxRecDepth 100000 in
/-- ████ GATHER, beside leavers: what it hands back is a row of its own: the items by their rows, in each by their places. ████ -/
theorem gather17 {w : World} {lv : Value} {rvs : List Value} {zss : List (List El)} (hR : RowsAt w.heap.size lv rvs zss w) (hF : (zss.flatten.length + zss.length) * 32 ≤ 140737488355328) :
    GCalls Try.prog 35 #[lv] w (Gathered w zss) := by
  intro c cs hc hcs
  have hP := plain
  have henter : Frame.enter Try.prog 35 #[lv] .normal = (base 35).at ⟨#[lv] ++ Array.replicate 49 undef, []⟩ [.code gaB] := by
    rw [enter_at #[lv] Try.func35 (c := gaB) rfl, Try.ntmps35]
    rfl
  rw [henter]
  have hD := gat_does (w₀ := w) (lv := lv) (cs := c :: cs) (zss.flatten.length + zss.length) hF rvs zss (Nat.le_refl _) hR
  refine gos_bind (gos_gather (rowsOf_isItem zss 0) hD) ?_
  rintro g' w' ⟨own, acc, _, hwt, a, hda, hsz, rfl, hown, hk, _⟩
  have hperm := perm_of_wt hwt
  rw [rowsOf_trips] at hperm
  obtain ⟨d, rfl, hd⟩ := perm_map toItem hperm
  rw [flat_items, List.length_map] at hown
  have hdl : d.length = zss.flatten.length := by rw [hd.length_eq, trips_length]
  have ht := gather_tail hd hda hsz (by omega) hown hk
  have h2 := ht (base 35) [] (c :: cs) (fun _ h => by cases h) (.cons hc hcs)
  exact (gos_bind h2 fun g2 w2 h => gos_leaves hP Try.func35 rfl rfl hc hcs h).here
end Go.Proofs.Ytjcplblnapcfcaa.S
