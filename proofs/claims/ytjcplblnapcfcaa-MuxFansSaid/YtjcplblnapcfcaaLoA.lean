/-
  MuxOrder: the law's own code.
-/
import Derived.Test.YtjcplblnapcfcaaAwA
import Derived.Test.YtjcplblnapcfcaaBxB
set_option linter.unusedSimpArgs false
namespace Go.Proofs.Ytjcplblnapcfcaa
open Go Go.Gat Go.Conc Go.RowKit

/-- The ints at a slice: its address, and that the cells read so below B. -/
structure IntsAt (w : World) (B : Nat) (a : Option Addr) (zs : List Int) : Prop where
  at_ : 0 < zs.length → ∃ blk off, a = some ⟨blk, off, none⟩ ∧ blk < B ∧ ∀ j, (h : j < zs.length) → w.cell? ⟨blk, off + j, none⟩ = some (.int .i64 zs[j])

theorem IntsAt.kp {W w w' : World} {a : Option Addr} {zs : List Int} (h : IntsAt w W.heap.size a zs) (hk : KP W w) (hk' : KP W w') : IntsAt w' W.heap.size a zs := ⟨fun h0 => by
  obtain ⟨blk, off, e, hb, hc⟩ := h.at_ h0
  exact ⟨blk, off, e, hb, fun j hj => (World.cell?_of_block (a := ⟨blk, off + j, none⟩) ((hk'.keep blk (.inl hb) hb).trans (hk.keep blk (.inl hb) hb).symm)).trans (hc j hj)⟩⟩

/-- Two boxes of the call's own. -/
structure Two (W w : World) (bx cx by_ cy room : Nat) (lx ly : List Int) : Prop where
  kp : KP W w
  x : ∃ s r, BoxAt w bx cx room s r lx
  y : ∃ s r, BoxAt w by_ cy room s r ly
  hcx : W.heap.size ≤ cx
  hcy : W.heap.size ≤ cy
  ne : bx ≠ cx ∧ bx ≠ cy ∧ by_ ≠ cx ∧ by_ ≠ cy ∧ cx ≠ cy

theorem Two.re {W w : World} {bx cx by_ cy room : Nat} {lx ly : List Int} (h : Two W w bx cx by_ cy room lx ly) (τ : Nat → Question → Nat) (d : Nat) : Two W (re w τ d) bx cx by_ cy room lx ly :=
  ⟨h.kp.trans (rely_re τ d), h.x.imp fun _ h => h.imp fun _ h => ⟨h.cell, h.chan⟩, h.y.imp fun _ h => h.imp fun _ h => ⟨h.cell, h.chan⟩, h.hcx, h.hcy, h.ne⟩
theorem heap_setChan_other {w : World} {c c' cap s r : Nat} {buf : Array Value} {cl tm : Bool} (h : c' ≠ c) : (w.setChan c cap buf cl s r tm).heap[c']? = w.heap[c']? := by
  show (w.heap.setIfInBounds c _)[c']? = _
  rw [Array.getElem?_setIfInBounds_ne (Ne.symm h)]
theorem Two.setx {W w : World} {bx cx by_ cy room : Nat} {lx ly lx' : List Int} (h : Two W w bx cx by_ cy room lx ly) (s r : Nat) : Two W (w.setChan cx room (lx'.map iv).toArray false s r false) bx cx by_ cy room lx' ly := by
  obtain ⟨k, ⟨s0, r0, x⟩, ⟨s1, r1, y⟩, c1, c2, n1, n2, n3, n4, n5⟩ := h
  exact ⟨kp_setChan k c1, ⟨s, r, (cell_setChan n1).trans x.cell, heap_setChan _ _ _ _ _ _ _ _ (Array.getElem?_eq_some_iff.1 x.chan).1⟩, ⟨s1, r1, (cell_setChan n3).trans y.cell, (heap_setChan_other (Ne.symm n5)).trans y.chan⟩, c1, c2, n1, n2, n3, n4, n5⟩
theorem Two.swap {W w : World} {bx cx by_ cy room : Nat} {lx ly : List Int} (h : Two W w bx cx by_ cy room lx ly) : Two W w by_ cy bx cx room ly lx :=
  ⟨h.kp, h.y, h.x, h.hcy, h.hcx, h.ne.2.2.2.1, h.ne.2.2.1, h.ne.2.1, h.ne.1, h.ne.2.2.2.2.symm⟩
theorem Two.sety {W w : World} {bx cx by_ cy room : Nat} {lx ly ly' : List Int} (h : Two W w bx cx by_ cy room lx ly) (s r : Nat) : Two W (w.setChan cy room (ly'.map iv).toArray false s r false) bx cx by_ cy room lx ly' := (h.swap.setx s r).swap
theorem Two.alloc {W w : World} {bx cx by_ cy room : Nat} {lx ly : List Int} (h : Two W w bx cx by_ cy room lx ly) (o : Obj) : Two W (w.alloc o) bx cx by_ cy room lx ly := by
  obtain ⟨k, ⟨s0, r0, x⟩, ⟨s1, r1, y⟩, c1, c2, n⟩ := h
  have lt : ∀ {b v}, w.cell? ⟨b, 0, none⟩ = some v → b < w.heap.size := fun h => World.block_lt_of_cell? w _ h
  have hx : cx < w.heap.size := (Array.getElem?_eq_some_iff.1 x.chan).1
  have hy : cy < w.heap.size := (Array.getElem?_eq_some_iff.1 y.chan).1
  exact ⟨kp_trans k ⟨by simp, fun b _ hl => Below.heap_alloc _ _ _ hl, rfl, rfl⟩, ⟨s0, r0, (World.cell?_alloc_past _ _ _ (lt x.cell)).trans x.cell, (Below.heap_alloc _ _ _ hx).trans x.chan⟩, ⟨s1, r1, (World.cell?_alloc_past _ _ _ (lt y.cell)).trans y.cell, (Below.heap_alloc _ _ _ hy).trans y.chan⟩, c1, c2, n⟩

theorem new_fresh (n : Nat) (hn : n ≤ 10000) (w : World) : Calls Try.prog 8 #[.int .i64 n] w fun e w' => ∃ b c, e = .returned (.tuple #[.pointer (some ⟨b, 0, none⟩), .int .i64 0]) ∧ Fresh w b c n w' :=
  (new_ok n hn w).mono fun _ _ ⟨he, hw⟩ => ⟨_, _, he, hw ▸ fresh_made w n 67⟩

theorem results_runT {fn : Func} {t : Tmp} (h : fn.results = #[.tmp t]) (tmps : Array Value) (w : World) : (results fn tmps).runT Try.prog w #[] = (.ok (tmps.getD t undef) w, #[]) :=
  Prod.ext (by rw [Sem.runT_fst]; exact results_tmp h _ _ _) (events_results_tmp h tmps #[])

/-- What a law's last lines do: 'return awake()'. -/
theorem gwp_awake {Q : Exit → Act → World → Prop} {ops : Array Oper} {id : Nat} {o o' : Oper} {a : Act} {w : World} (hops : ops = #[o, o']) (ho : o.op = .call { callee := .value (.func 7), args := #[], argTypes := #[] }) (hg : o.guard = none) (hg' : o'.guard = none) {t t' : Tmp} (hd : o.dst = some t) (hd' : o'.dst = some t') (ho' : o'.op = .assign (.tmp t)) (ht : t < a.tmps.size)
    (hQ : ∀ w', KP w w' → Q .ret ((a.put (some t) (.bool true)).put (some t') (.bool true)) w') : Gwp Try.prog (.seq (.region id ops false) .ret) Q a w := by
  have hP := plain
  subst hops
  refine gwp_seq hP (gwp_region hP ?_)
  change GwpOps _ _ _ [0, 1] _ _
  refine gwpOps_call (o := o) (f := 7) (args := #[]) (R := fun v w' => v = .bool true ∧ KP w w') hP rfl (by simp [Region.wanted, hg]) (fun τ e => ?_) (awake7 w) (fun v w₂ hG => ?_)
  · refine (run_call_body ho Try.func7 (by decide) rfl).trans ?_
    simp
  obtain ⟨rfl, hG⟩ := hG
  rw [hd]
  refine gwpOps_value (o := o') (v := .bool true) (w₁ := w₂) hP rfl (by simp [Region.wanted, hg']) (fun τ d => ?_) ?_
  · unfold execOp
    simp only [ho']
    simp [Act.eval, Act.put, ht]
  refine gwpOps_nil hP ?_
  simp only [Exit.then]
  rw [hd']
  exact gwp_ret hP (hQ _ hG)

noncomputable def orB : Code := Try.f4.body.getD .skip

abbrev OrPost (W : World) : Exit → Act → World → Prop := lastPost Try.prog Try.f4 fun v w' => v = .bool true ∧ KP W w'

set_option maxRecDepth 100000 in
set_option maxHeartbeats 4000000 in
/-- Where it only asks whether all is awake. -/
theorem order_far (W : World) (a0 b0 : Option Addr) (n m ca cb : Nat) (room : Int) (hn : n ≤ 9223372036854775807) (hm : m ≤ 9223372036854775807) (h : 500 < n ∨ 500 < m ∨ room < 0 ∨ 1000 < room) :
    Gwp Try.prog orB (OrPost W) ⟨#[.slice a0 n ca, .slice b0 m cb, .int .i64 room] ++ Array.replicate 181 undef, []⟩ W := by
  have hP := plain
  simp only [orB, Try.f4, Option.getD_some, Array.replicate_succ, Array.replicate_zero]
  walk_nrm
  refine gwp_seq hP (gwp_of_wp hP (fun _ _ h => h) (fun _ _ _ h => h) fun τ d => ?_)
  have hk : KP W (re W τ d) := rely_re τ d
  generalize re W τ d = w at hk ⊢
  go_wp2
  by_cases h1 : 500 < n
  · refine gwp_seq hP (gwp_seq hP (gwp_of_wp hP (fun _ _ h => h) (fun _ _ _ h => h) fun τ d => ?_))
    have hk : KP W (re w τ d) := hk.trans (rely_re τ d)
    generalize re w τ d = w at hk ⊢
    go_wp2
    refine gwp_cond_true hP rfl ?_
    refine gwp_awake rfl rfl rfl rfl rfl rfl rfl (by simp) fun w' hG => ⟨rfl, .bool true, fun w => results_runT (t := 6) rfl _ _, rfl, kp_trans hk hG⟩
  · by_cases h2 : 500 < m
    · refine gwp_seq hP (gwp_seq hP (gwp_of_wp hP (fun _ _ h => h) (fun _ _ _ h => h) fun τ d => ?_))
      have hk : KP W (re w τ d) := hk.trans (rely_re τ d)
      generalize re w τ d = w at hk ⊢
      go_wp2
      refine gwp_cond_true hP rfl ?_
      refine gwp_awake rfl rfl rfl rfl rfl rfl rfl (by simp) fun w' hG => ⟨rfl, .bool true, fun w => results_runT (t := 6) rfl _ _, rfl, kp_trans hk hG⟩
    · by_cases h3 : room < 0
      · refine gwp_seq hP (gwp_seq hP (gwp_of_wp hP (fun _ _ h => h) (fun _ _ _ h => h) fun τ d => ?_))
        have hk : KP W (re w τ d) := hk.trans (rely_re τ d)
        generalize re w τ d = w at hk ⊢
        go_wp2
        refine gwp_cond_true hP rfl ?_
        refine gwp_awake rfl rfl rfl rfl rfl rfl rfl (by simp) fun w' hG => ⟨rfl, .bool true, fun w => results_runT (t := 6) rfl _ _, rfl, kp_trans hk hG⟩
      · have h4 : 1000 < room := by omega
        clear h
        refine gwp_seq hP (gwp_seq hP (gwp_of_wp hP (fun _ _ h => h) (fun _ _ _ h => h) fun τ d => ?_))
        have hk : KP W (re w τ d) := hk.trans (rely_re τ d)
        generalize re w τ d = w at hk ⊢
        go_wp2
        refine gwp_cond_true hP rfl ?_
        refine gwp_awake rfl rfl rfl rfl rfl rfl rfl (by simp) fun w' hG => ⟨rfl, .bool true, fun w => results_runT (t := 6) rfl _ _, rfl, kp_trans hk hG⟩
end Go.Proofs.Ytjcplblnapcfcaa
