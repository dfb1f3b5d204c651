/-
  WORDS FOR WALKING A GOROUTINE ON ITS WAY, WITH THE COUNT OF STEPS WRITTEN OUT: moves of control, operations that only reckon, reads, steps that make or write blocks; where it stands at a communication, a go statement, a close.
-/
import Derived.Test.YtjcplblnapcfcaaWaA
import Derived.Conc.TokenWalk
import Derived.Conc.WalkWords
import Derived.WalkKit
set_option linter.unusedSimpArgs false
namespace Go.Gat
open Go.Conc

section
variable {P : Program} {B : Nat} {m : Bool} {T : Own → Goroutine → World → Prop} {own : Own} {n : Nat} {w : World} {g g' : Goroutine}

theorem way_stop (h : ∀ w₁, Rely B own w w₁ → T own g w₁) : Way P B m T n own g w := by
  cases n with
  | zero => exact h
  | succ n => exact .inl h
theorem way_pure (hg : g.status = .running) (hg' : g'.status = .running) (h : ∀ w, stepG P m g w = .go g' w #[]) (k : Way P B m T n own g' w) : Way P B m T (n + 1) own g w :=
  .inr ⟨hg, fun w₁ h₁ => ⟨g', w₁, #[], own, h w₁, hg', guar_same (by simp), k.rely h₁⟩⟩

variable {b : Frame} {a : Act} {k : List Item} {cs : List Frame} {ops : Array Oper} {i : Nat} {rest : List Nat} {o : Oper} {v : Value}

/-- An operation that only reckons. -/
theorem way_val (ho : ops[i]? = some o) (hw : Region.wanted o (yielded ops a.tmps) = true) (hk : b.kind ≠ .early)
    (h : ∀ w, (execOp a.eval o).run P w = .ok (.value v) w ∧ (execOp a.eval o).events P w #[] = #[])
    (kk : Way P B m T n own (G (b.at (a.put o.dst v) (.inRegion ops rest :: k)) cs) w) : Way P B m T (n + 1) own (G (b.at a (.inRegion ops (i :: rest) :: k)) cs) w :=
  way_pure rfl rfl (fun w => by rw [stepG_value ho hw hk (h w).1, listed_none (h w).2]) kk
/-- An operation that reads. -/
theorem way_read (ho : ops[i]? = some o) (hw : Region.wanted o (yielded ops a.tmps) = true) (hk : b.kind ≠ .early)
    (h : ∀ w₁, Rely B own w w₁ → (execOp a.eval o).run P w₁ = .ok (.value v) w₁ ∧ ∀ e ∈ (execOp a.eval o).events P w₁ #[], EvOK B own e)
    (kk : Way P B m T n own (G (b.at (a.put o.dst v) (.inRegion ops rest :: k)) cs) w) : Way P B m T (n + 1) own (G (b.at a (.inRegion ops (i :: rest) :: k)) cs) w :=
  .inr ⟨rfl, fun w₁ h₁ => ⟨_, w₁, _, own, stepG_value ho hw hk (h w₁ h₁).1, rfl, guar_same fun e he => (h w₁ h₁).2 e (mem_listed he), kk.rely h₁⟩⟩
/-- An operation that turns the world, and yields a value. -/
theorem way_do (ho : ops[i]? = some o) (hw : Region.wanted o (yielded ops a.tmps) = true) (hk : b.kind ≠ .early)
    (h : ∀ w₁, Rely B own w w₁ → ∃ v w' own', (execOp a.eval o).run P w₁ = .ok (.value v) w' ∧ Guar B own own' w₁ w' ((execOp a.eval o).events P w₁ #[]) ∧ Way P B m T n own' (G (b.at (a.put o.dst v) (.inRegion ops rest :: k)) cs) w') :
    Way P B m T (n + 1) own (G (b.at a (.inRegion ops (i :: rest) :: k)) cs) w :=
  .inr ⟨rfl, fun w₁ h₁ => let ⟨_, w', own', h1, h2, h3⟩ := h w₁ h₁; ⟨_, w', _, own', stepG_value ho hw hk h1, rfl, { h2 with evs := fun e he => h2.evs e (mem_listed he) }, h3⟩⟩
/-- .. and yields nothing. -/
theorem way_skip (ho : ops[i]? = some o) (hw : Region.wanted o (yielded ops a.tmps) = true) (hk : b.kind ≠ .early)
    (h : ∀ w₁, Rely B own w w₁ → ∃ w' own', (execOp a.eval o).run P w₁ = .ok .skip w' ∧ Guar B own own' w₁ w' ((execOp a.eval o).events P w₁ #[]) ∧ Way P B m T n own' (G (b.at (a.put o.dst undef) (.inRegion ops rest :: k)) cs) w') :
    Way P B m T (n + 1) own (G (b.at a (.inRegion ops (i :: rest) :: k)) cs) w :=
  .inr ⟨rfl, fun w₁ h₁ => let ⟨w', own', h1, h2, h3⟩ := h w₁ h₁; ⟨_, w', _, own', stepG_none ho hw hk h1, rfl, { h2 with evs := fun e he => h2.evs e (mem_listed he) }, h3⟩⟩

/-! ### control -/
theorem way_seq {x y : Code} (kk : Way P B m T n own (G (b.at a (.code x :: .code y :: k)) cs) w) : Way P B m T (n + 1) own (G (b.at a (.code (.seq x y) :: k)) cs) w := way_pure rfl rfl (fun _ => Conc.stepG_seq) kk
theorem way_sk (kk : Way P B m T n own (G (b.at a k) cs) w) : Way P B m T (n + 1) own (G (b.at a (.code .skip :: k)) cs) w := way_pure rfl rfl (fun _ => Conc.stepG_skip) kk
theorem way_block {id : Nat} {c : Code} (kk : Way P B m T n own (G (b.at a (.code c :: .inBlock id :: k)) cs) w) : Way P B m T (n + 1) own (G (b.at a (.code (.block id c) :: k)) cs) w := way_pure rfl rfl (fun _ => Conc.stepG_block) kk
theorem way_inBlock {id : Nat} (kk : Way P B m T n own (G (b.at a k) cs) w) : Way P B m T (n + 1) own (G (b.at a (.inBlock id :: k)) cs) w := way_pure rfl rfl (fun _ => Conc.stepG_inBlock) kk
theorem way_loop {c : Code} (kk : Way P B m T n own (G (b.at a (.code c :: .inLoop c :: k)) cs) w) : Way P B m T (n + 1) own (G (b.at a (.code (.loop c) :: k)) cs) w := way_pure rfl rfl (fun _ => Conc.stepG_loop) kk
theorem way_inLoop {c : Code} (kk : Way P B m T n own (G (b.at a (.code c :: .inLoop c :: k)) cs) w) : Way P B m T (n + 1) own (G (b.at a (.inLoop c :: k)) cs) w := way_pure rfl rfl (fun _ => Conc.stepG_inLoop) kk
theorem way_cond {c : Operand} {x y : Code} {t : Bool} (h : a.eval c = .bool t) (kk : Way P B m T n own (G (b.at a (.code (if t then x else y) :: k)) cs) w) : Way P B m T (n + 1) own (G (b.at a (.code (.cond c x y) :: k)) cs) w :=
  way_pure rfl rfl (fun _ => Conc.stepG_cond h) kk
theorem way_exit {id : Nat} {k' : List Item} (h : exitTo id k = some k') (kk : Way P B m T n own (G (b.at a k') cs) w) : Way P B m T (n + 1) own (G (b.at a (.code (.exit id) :: k)) cs) w := way_pure rfl rfl (fun _ => Conc.stepG_exit h) kk
theorem way_region {id : Nat} {l : List Nat} (h : List.range ops.size = l) (kk : Way P B m T n own (G (b.at a (.inRegion ops l :: k)) cs) w) : Way P B m T (n + 1) own (G (b.at a (.code (.region id ops false) :: k)) cs) w := way_pure rfl rfl (fun _ => by rw [Conc.stepG_region, h]) kk
theorem way_out (kk : Way P B m T n own (G (b.at a k) cs) w) : Way P B m T (n + 1) own (G (b.at a (.inRegion ops [] :: k)) cs) w := way_pure rfl rfl (fun _ => Conc.stepG_region_end) kk
theorem way_end (kk : Way P B m T n own (G { b.at a [] with mode := .returning } cs) w) : Way P B m T (n + 1) own (G (b.at a []) cs) w := way_pure rfl rfl (fun _ => Conc.stepG_end) kk
/-- A defer statement. -/
theorem way_defer {d : Deferred} (ho : ops[i]? = some o) (hw : Region.wanted o (yielded ops a.tmps) = true) (hk : b.kind ≠ .early)
    (hr : ∀ w, (execOp a.eval o).run P w = .ok (.defer d) w) (he : ∀ w, (execOp a.eval o).events P w #[] = #[])
    (kk : Way P B m T n own (G (b.at (Act.put ⟨a.tmps, d :: a.defers⟩ o.dst undef) (.inRegion ops rest :: k)) cs) w) : Way P B m T (n + 1) own (G (b.at a (.inRegion ops (i :: rest) :: k)) cs) w := by
  refine way_pure rfl rfl (fun w => ?_) kk
  have hfin : (b.at ⟨a.tmps, d :: a.defers⟩ (.inRegion ops (i :: rest) :: k)).finish undef = b.at (Act.put ⟨a.tmps, d :: a.defers⟩ o.dst undef) (.inRegion ops rest :: k) := by rw [Frame.finish_at, ho]; rfl
  have hk' : (b.kind == CallKind.early) = false := by simpa using hk
  rw [stepG_oper ho hw, ← hfin]
  simp [stepG.apply, hr w, he w, G, Frame.at, hk', GStep.after, seen_none]
end

/-! ### where it stands -/
section
variable {P : Program} {B : Nat} {m : Bool} {fin : List Value → Own → Goroutine → World → Prop} {own : Own} {w : World}
variable {b : Frame} {a : Act} {k : List Item} {cs : List Frame} {ops : Array Oper} {i : Nat} {rest : List Nat} {o : Oper}

theorem bare_G (fr : Frame) (cs : List Frame) : bare (G fr cs) = G fr cs := rfl

theorem atP_send {x y : Operand} {c : Nat} {v : Value} {p : Proc} (ho : ops[i]? = some o) (hw : Region.wanted o (yielded ops a.tmps) = true) (hk : b.kind ≠ .early) (hop : o.op = .send x y) (hd : o.dst = none)
    (hx : a.eval x = .chan (some c)) (hy : a.eval y = v) (next : Nx P B m p.isQuit (AtP P B fin p m) own (G (b.at a (.inRegion ops rest :: k)) cs) w) :
    AtP P B fin (.send c v zs p) m own (G (b.at a (.inRegion ops (i :: rest) :: k)) cs) w := by
  refine ⟨rfl, #[], by simp, ?_, ?_⟩
  · rw [stepG_comm (cases := #[scase c v zs]) (blocking := true) (shape := .send) (w' := w) ho hw hk (by simp [execOp, hop, hx, hy, scase, zs])]
    rw [listed_none (by unfold execOp; simp only [hop]; rfl), bare_G]
  · rw [bare_G, served_G, ho]
    simp only [Option.bind_some, hd]
    exact next

theorem atP_recv {c : Nat} {z : Value} {p : Value → Proc} {p0 : Proc} (ho : ops[i]? = some o) (hw : Region.wanted o (yielded ops a.tmps) = true) (hk : b.kind ≠ .early)
    (hr : (execOp a.eval o).run P w = .ok (.comm #[rcase c z] true (.recv true)) w) (he : (execOp a.eval o).events P w #[] = #[])
    (next : ∀ v, Nx P B m (p v).isQuit (AtP P B fin (p v) m) own (G (b.at (a.put o.dst (.tuple #[v, .bool true])) (.inRegion ops rest :: k)) cs) w)
    (next0 : Nx P B m p0.isQuit (AtP P B fin p0 m) own (G (b.at (a.put o.dst (.tuple #[z, .bool false])) (.inRegion ops rest :: k)) cs) w) :
    AtP P B fin (.recv c z p p0) m own (G (b.at a (.inRegion ops (i :: rest) :: k)) cs) w := by
  refine ⟨rfl, #[], by simp, ?_, fun v => ?_, ?_⟩
  · rw [stepG_comm (cases := #[rcase c z]) (blocking := true) (shape := .recv true) (w' := w) ho hw hk hr, listed_none he, bare_G]
  · rw [bare_G, served_G, ho]; exact next v
  · rw [bare_G, served_G, ho]; exact next0

theorem atP_sel {c d : Nat} {zc zd : Value} {p q : Value → Proc} (ho : ops[i]? = some o) (hw : Region.wanted o (yielded ops a.tmps) = true) (hk : b.kind ≠ .early)
    (hr : (execOp a.eval o).run P w = .ok (.comm #[rcase c zc, rcase d zd] true .select) w) (he : (execOp a.eval o).events P w #[] = #[])
    (next : ∀ v, Nx P B m (p v).isQuit (AtP P B fin (p v) m) own (G (b.at (a.put o.dst (.tuple #[goInt 0, .bool true, v, zd])) (.inRegion ops rest :: k)) cs) w)
    (next' : ∀ v, Nx P B m (q v).isQuit (AtP P B fin (q v) m) own (G (b.at (a.put o.dst (.tuple #[goInt 1, .bool true, zc, v])) (.inRegion ops rest :: k)) cs) w) :
    AtP P B fin (.sel c d zc zd p q) m own (G (b.at a (.inRegion ops (i :: rest) :: k)) cs) w := by
  refine ⟨rfl, #[], by simp, ?_, fun v => ?_, fun v => ?_⟩
  · rw [stepG_comm (cases := #[rcase c zc, rcase d zd]) (blocking := true) (shape := .select) (w' := w) ho hw hk hr, listed_none he, bare_G]
  · rw [bare_G, served_G, ho]; exact next v
  · rw [bare_G, served_G, ho]; exact next' v

theorem atP_chan {p : Nat → Proc} (ho : ops[i]? = some o) (hw : Region.wanted o (yielded ops a.tmps) = true) (hk : b.kind ≠ .early)
    (hr : (execOp a.eval o).run P w = .ok (.value (.chan (some w.heap.size))) { w with heap := w.heap.push (.chan 0 #[] false 0 0 false) }) (he : (execOp a.eval o).events P w #[] = #[])
    (next : Nx P B m (p w.heap.size).isQuit (AtP P B fin (p w.heap.size) m) own (G (b.at (a.put o.dst (.chan (some w.heap.size))) (.inRegion ops rest :: k)) cs) { w with heap := w.heap.push (.chan 0 #[] false 0 0 false) }) :
    AtP P B fin (.chan p) m own (G (b.at a (.inRegion ops (i :: rest) :: k)) cs) w :=
  ⟨rfl, _, by rw [stepG_value ho hw hk hr, listed_none he], next⟩

theorem atP_go {ch p : Proc} {d : Deferred} {f : Fn} {c : Array Value} (ho : ops[i]? = some o) (hw : Region.wanted o (yielded ops a.tmps) = true) (hk : b.kind ≠ .early) (hdst : o.dst = none)
    (hr : (execOp a.eval o).run P w = .ok (.spawn d) w) (hd : d.target = .fn f c) (he : (execOp a.eval o).events P w #[] = #[])
    (next : Nx P B m p.isQuit (AtP P B fin p m) own (G (b.at a (.inRegion ops rest :: k)) cs) w) (child : Nx P B false ch.isQuit (AtP P B fin ch false) (fun _ => False) (born P d) w) :
    AtP P B fin (.go ch p) m own (G (b.at a (.inRegion ops (i :: rest) :: k)) cs) w := by
  refine ⟨rfl, G (b.at a (.inRegion ops rest :: k)) cs, born P d, #[], by simp, ?_, rfl, next, child⟩
  rw [stepG_spawn ho hw hk hr hd, listed_none he, hdst]
  rfl

/-- A frame that is on its way out closes a channel by its deferred call. -/
theorem atP_close {todo : List Item} {c : Nat} {ats : Array TypeId} {ty : TypeId} {l : Array Bool} (hd : a.defers = [{ target := .builtin .close ats ty l, args := #[.chan (some c)] }]) (hq : (P.funcs[b.fn]?).any (·.norace) = false)
    (next : ∃ n, QuitsD P n 0 (G { b.at { a with defers := [] } todo with mode := .returning } cs)) : AtP P B fin (.close c) m own (G { b.at a todo with mode := .returning } cs) w := by
  refine ⟨rfl, rfl, fun s hc => ⟨_, ?_, next⟩⟩
  have h1 := run_close_open (P := P) ats ty hc
  have h2 := events_close_open (P := P) (es := #[]) ats ty hc
  simp only [G, stepG, unwind, callDeferred, Frame.at, hd, invoke, builtin, Sem.run_bind, Sem.runT_eq, Sem.events_bind, h1, h2, Result.andThen_ok, Result.evThen_ok, Sem.run_pure, Sem.events_pure, GStep.after]
  rw [seen_eq hq (by intro e he f; simp at he; rcases he with rfl | rfl <;> simp)]
  simp [World.setChan, closeEvents]
end

/-! ### the child -/
/-- What lies beneath a child's function. -/
def root (P : Program) : Frame := { (default : Frame) with fn := P.funcs.size, defers := [], mode := .panicking [goexitEntry] }

section
variable {P : Program} {B : Nat} {m : Bool} {T : Own → Goroutine → World → Prop} {own : Own} {n : Nat} {w : World}

theorem way_born {f : FuncId} {fn : Func} {c : Code} {args : Array Value} (hf : P.funcs[f]? = some fn) (hname : (fn.name == "runtime.NumGoroutine") = false) (hb : fn.body = some c)
    (kk : Way P B m T n own (G ((baseD f).at { tmps := args ++ Array.replicate (fn.ntmps - args.size) undef, defers := [] } [.code c]) [root P]) w) :
    Way P B m T (n + 1) own (born P { target := .fn (.func f) #[], args }) w := by
  have h1 : ¬ fn.name = "runtime.NumGoroutine" := by simpa using hname
  refine way_pure rfl rfl (fun w => ?_) kk
  rw [← enter_atD args hf hb]
  simp [G, born, stepG, unwind, callDeferred, invoke, callFunc, hf, h1, hb, GStep.after, seen_none, root]

/-- A child's function returns: no results, no deferred call: it is gone. -/
theorem quits_child {b : Frame} {a : Act} {todo : List Item} {fn : Func} (hn : b.kind = .deferred) (hd : a.defers = []) (hf : P.funcs[b.fn]? = some fn) (hr : fn.results = #[]) :
    QuitsD P 2 0 (G { b.at a todo with mode := .returning } [root P]) := by
  refine .ctl rfl (g' := G (root P) []) (fun w => ?_) (.ctl rfl (g' := { G (root P) [] with status := .finished }) (fun w => ?_) ⟨rfl, rfl⟩)
  · have h1 := results_none hr a.tmps P w
    have h2 := events_results_none (P := P) (w := w) hr a.tmps #[]
    simp [G, stepG, unwind, doReturn, Frame.at, hn, hd, hf, h1, h2, seen, GStep.after, root]
    rfl
  · simp [G, stepG, unwind, Frame.catches, root, goexitEntry]
    rfl
end

/-! ### memory -/
section
variable {P : Program} {B : Nat} {own : Own} {w : World}

theorem heap_alloc_at (w : World) (o : Obj) : (w.alloc o).heap[w.heap.size]? = some o := by show (w.heap.push o)[_]? = _; simp
theorem guar_alloc {o : Obj} {es : Array Event} (hes : ∀ e ∈ es, EvOK B (fun b => own b ∨ b = w.heap.size) e) : Guar B own (fun b => own b ∨ b = w.heap.size) w (w.alloc o) es :=
  ⟨by simp, fun _ h => .inl h, fun b hb => hb.imp id fun e => ⟨by omega, by simp; omega⟩, fun b hb _ => Go.RowKit.Below.heap_alloc _ _ _ hb, hes, rfl, rfl⟩
theorem guar_row {g : Nat} {cs : Array Value} {es : Array Event} (hg : own g) (hes : ∀ e ∈ es, EvOK B own e) : Guar B own own w (w.setRow g cs) es :=
  ⟨by simp, fun _ h => h, fun b hb => .inl hb, fun b _ hb => setRow_other w g b cs fun e => hb (e ▸ hg), hes, rfl, rfl⟩

theorem run_storeVar3 {t : TypeId} {g : Nat} {p q r x y z : Value} (hs : (sizeOf t).run P w = .ok 3 w) (hg : w.heap[g]? = some (.cells #[p, q, r] t (0, 0))) (hx : x.oneCell' = true) (hy : y.oneCell' = true) (hz : z.oneCell' = true) :
    (storeVar t ⟨g, 0, none⟩ (.agg #[x, y, z])).run P w = .ok () (w.setRow g #[x, y, z]) := by
  have h := run_storeCells_at (P := P) g 0 t [x, y, z] 0 #[p, q, r] w hg (by simp) (by simp [hx, hy, hz])
  simp at h
  simp [storeVar, hs, Value.cells, h]
theorem events_storeVar3 {t : TypeId} {g : Nat} {p q r x y z : Value} (hs : (sizeOf t).run P w = .ok 3 w) (he : (sizeOf t).events P w #[] = #[]) (hg : w.heap[g]? = some (.cells #[p, q, r] t (0, 0))) (hx : x.oneCell' = true) (hy : y.oneCell' = true) (hz : z.oneCell' = true) :
    ∀ e ∈ (storeVar t ⟨g, 0, none⟩ (.agg #[x, y, z])).events P w #[], e.sync = false ∧ ∃ ad, e.loc = .cell ad ∧ ad.block = g := by
  have k0 : w.cell? ⟨g, 0, none⟩ = some p := by simp [World.cell?, hg]
  have f0 : ∀ j, w.frozen? ⟨g, j, none⟩ = false := fun j => by simp [World.frozen?, hg]
  have g1 : (w.setRow g #[x, q, r]).heap[g]? = some (.cells #[x, q, r] t (0, 0)) := setRow_heap w g _ _ _ _ hg
  have g2 : (w.setRow g #[x, y, r]).heap[g]? = some (.cells #[x, y, r] t (0, 0)) := setRow_heap w g _ _ _ _ hg
  have e0 : w.setCell ⟨g, 0, none⟩ x = w.setRow g #[x, q, r] := by rw [setCell_eq_setRow w g 0 _ _ _ _ hg]; rfl
  have e1 : (w.setRow g #[x, q, r]).setCell ⟨g, 1, none⟩ y = w.setRow g #[x, y, r] := by rw [setCell_eq_setRow _ g 1 _ _ _ _ g1, setRow_setRow]; rfl
  have k1 : (w.setRow g #[x, q, r]).cell? ⟨g, 1, none⟩ = some q := by simp [World.cell?, g1]
  have k2 : (w.setRow g #[x, y, r]).cell? ⟨g, 2, none⟩ = some r := by simp [World.cell?, g2]
  have f1 : (w.setRow g #[x, q, r]).frozen? ⟨g, 1, none⟩ = false := by simp [World.frozen?, g1]
  have f2 : (w.setRow g #[x, y, r]).frozen? ⟨g, 2, none⟩ = false := by simp [World.frozen?, g2]
  have a1 : ∀ j, (⟨g, 0, none⟩ : Addr).add j = ⟨g, j, none⟩ := fun j => by unfold Addr.add; split <;> simp_all
  intro e he'
  simp [storeVar, hs, he, Value.cells, storeCells, run_store _ _ _ _ _ hx, run_store _ _ _ _ _ hy, run_store _ _ _ _ _ hz, events_store _ _ _ _ _ _ hx, events_store _ _ _ _ _ _ hy, events_store _ _ _ _ _ _ hz, a1, k0, f0, e0, k1, f1, e1, k2, f2] at he'
  rcases he' with rfl | rfl | rfl <;> exact ⟨rfl, _, rfl, rfl⟩

theorem run_loadVar3 {t : TypeId} {g : Nat} {x y z : Value} (ha : (isAgg t).run P w = .ok true w) (hs : (sizeOf t).run P w = .ok 3 w) (hg : w.heap[g]? = some (.cells #[x, y, z] t (0, 0))) :
    (loadVar t ⟨g, 0, none⟩).run P w = .ok (.agg #[x, y, z]) w := by
  have a1 : ∀ j, (⟨g, 0, none⟩ : Addr).add j = ⟨g, j, none⟩ := fun j => by unfold Addr.add; split <;> simp_all
  have k0 : w.cell? ⟨g, 0, none⟩ = some x := by simp [World.cell?, hg]
  have k1 : w.cell? ⟨g, 1, none⟩ = some y := by simp [World.cell?, hg]
  have k2 : w.cell? ⟨g, 2, none⟩ = some z := by simp [World.cell?, hg]
  simp [loadVar, ha, hs, loadCells, loadCellsFrom, a1, k0, k1, k2]
theorem events_loadVar3 {t : TypeId} {g : Nat} {x y z : Value} (ha : (isAgg t).run P w = .ok true w) (hs : (sizeOf t).run P w = .ok 3 w) (ha' : (isAgg t).events P w #[] = #[]) (hg : w.heap[g]? = some (.cells #[x, y, z] t (0, 0))) :
    ∀ e ∈ (loadVar t ⟨g, 0, none⟩).events P w #[], e.sync = false ∧ e.write = false ∧ ∃ ad, e.loc = .cell ad ∧ ad.block = g := by
  have a1 : ∀ j, (⟨g, 0, none⟩ : Addr).add j = ⟨g, j, none⟩ := fun j => by unfold Addr.add; split <;> simp_all
  have k0 : w.cell? ⟨g, 0, none⟩ = some x := by simp [World.cell?, hg]
  have k1 : w.cell? ⟨g, 1, none⟩ = some y := by simp [World.cell?, hg]
  have k2 : w.cell? ⟨g, 2, none⟩ = some z := by simp [World.cell?, hg]
  intro e he'
  simp [loadVar, ha, hs, ha', loadCells, loadCellsFrom, a1, k0, k1, k2] at he'
  rcases he' with rfl | rfl | rfl <;> exact ⟨rfl, rfl, _, rfl, rfl⟩

theorem evOK_own {e : Event} {g : Nat} (hg : own g) (h : e.sync = false ∧ ∃ ad, e.loc = .cell ad ∧ ad.block = g) : EvOK B own e := by
  obtain ⟨h1, ad, h2, rfl⟩ := h
  cases e
  simp only at h1 h2
  subst h1 h2
  exact .inr ⟨ad, _, rfl, .inl hg⟩
end

/-! ### loads and stores of whole variables, as operations -/
section
variable {P : Program} {w : World} {o : Oper} {a : Act} {t : TypeId} {x y : Operand} {ad : Addr} {v : Value}
theorem run_op_store {w' : World} (hop : o.op = .store t x y) (hx : a.eval x = .pointer (some ad)) (hy : a.eval y = v) (h : (storeVar t ad v).run P w = .ok () w') : (execOp a.eval o).run P w = .ok .skip w' := by
  unfold execOp
  simp only [hop, Instr.storeAt, Instr.sureAddr, hx, hy, Sem.run_bind, Sem.run_pure, Result.andThen_ok, h]
theorem events_op_store {w' : World} (hop : o.op = .store t x y) (hx : a.eval x = .pointer (some ad)) (hy : a.eval y = v) (h : (storeVar t ad v).run P w = .ok () w') : (execOp a.eval o).events P w #[] = (storeVar t ad v).events P w #[] := by
  unfold execOp
  simp only [hop, Instr.storeAt, Instr.sureAddr, hx, hy, Sem.run_bind, Sem.run_pure, Sem.events_bind, Sem.events_pure, Result.evThen_ok, Result.andThen_ok, h]
theorem run_op_load (hop : o.op = .load t x) (hx : a.eval x = .pointer (some ad)) (h : (loadVar t ad).run P w = .ok v w) : (execOp a.eval o).run P w = .ok (.value v) w := by
  unfold execOp
  simp only [hop, Instr.loadAt, Instr.sureAddr, hx, Sem.run_bind, Sem.run_pure, Result.andThen_ok, h]
theorem events_op_load (hop : o.op = .load t x) (hx : a.eval x = .pointer (some ad)) (h : (loadVar t ad).run P w = .ok v w) : (execOp a.eval o).events P w #[] = (loadVar t ad).events P w #[] := by
  unfold execOp
  simp only [hop, Instr.loadAt, Instr.sureAddr, hx, Sem.run_bind, Sem.run_pure, Sem.events_bind, Sem.events_pure, Result.evThen_ok, Result.andThen_ok, h]
end
end Go.Gat
