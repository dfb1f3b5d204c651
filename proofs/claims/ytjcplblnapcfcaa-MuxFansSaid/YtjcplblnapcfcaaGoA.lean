/-
  GOROUTINE 0 BESIDE LEAVERS: 'Gos P g w Stop': from the goroutine g in the world w (whatever the tape), beside whatever leavers, over whatever trace that is 'Past0', the machine comes to a machine whose goroutine 0 is at 'Stop', all others leavers, the trace 'Past0'. ITS CALCULUS: steps, Reach, sequences; code ('Gwp'), operations ('GwpOps'), calls ('GCalls').
-/
import Derived.Test.YtjcplblnapcfcaaBrK
set_option linter.unusedSimpArgs false
namespace Go.Gat
open Go.Conc

abbrev GG (fr : Frame) (cs : List Frame) : Goroutine := { frame := fr, callers := cs, status := .running, dying := none }

/-- From this very world. -/
def GosAt (P : Program) (g : Goroutine) (w : World) (Stop : Goroutine → World → Prop) : Prop :=
  ∀ (gs : Array Goroutine) (sl : Option (Nat × Nat)) (t : Trace) (q : Nat → Nat), gs[0]? = some g → Leavers P t gs q → Past0 t →
    ∃ (N : Nat) (gs' : Array Goroutine) (a' : Goroutine) (w' : World) (sl' : Option (Nat × Nat)) (t' : Trace) (q' : Nat → Nat),
      runNT P N (crowd gs w sl) t = (.next (crowd gs' w' sl'), t') ∧ gs'[0]? = some a' ∧ Stop a' w' ∧ Leavers P t' gs' q' ∧ Past0 t'

/-- .. on whatever tape. -/
def Gos (P : Program) (g : Goroutine) (w : World) (Stop : Goroutine → World → Prop) : Prop := ∀ (τ : Nat → Question → Nat) (e : Nat), GosAt P g (re w τ e) Stop

section
variable {P : Program} {Stop S T : Goroutine → World → Prop} {g : Goroutine} {w : World}

theorem runNT_add (n m : Nat) {M M' : Machine} {t t' : Trace} (h : runNT P n M t = (.next M', t')) : runNT P (n + m) M t = runNT P m M' t' := by
  induction n generalizing M t with
  | zero =>
    simp only [runNT, Prod.mk.injEq, Stepped.next.injEq] at h
    obtain ⟨rfl, rfl⟩ := h
    rw [Nat.zero_add]
  | succ n ih =>
    rw [Nat.succ_add]
    simp only [runNT] at h ⊢
    cases hs : stepT P M with
    | mk r ops =>
      rw [hs] at h
      cases r with
      | next M1 => exact ih h
      | ended o w => simp at h

theorem Gos.re (h : Gos P g w S) (τ : Nat → Question → Nat) (d : Nat) : Gos P g (Gat.re w τ d) S := fun τ' e => by rw [re_re]; exact h τ' e
theorem Gos.here (h : Gos P g w S) : GosAt P g w S := h w.tape w.drawn
theorem gosAt_stop (h : Stop g w) : GosAt P g w Stop := fun gs sl t q h0 hL hP => ⟨0, gs, g, _, sl, t, q, rfl, h0, h, hL, hP⟩
theorem gos_bind (h : Gos P g w S) (k : ∀ g' w', S g' w' → GosAt P g' w' T) : Gos P g w T := by
  intro τ e gs sl t q h0 hL hPt
  obtain ⟨N, gs1, a1, w1, sl1, t1, q1, hr, h1, hS, hL1, hP1⟩ := h τ e gs sl t q h0 hL hPt
  obtain ⟨N2, gs2, a2, w2, sl2, t2, q2, hr2, h2, hS2, hL2, hP2⟩ := k a1 w1 hS gs1 sl1 t1 q1 h1 hL1 hP1
  exact ⟨N + N2, gs2, a2, w2, sl2, t2, q2, by rw [runNT_add _ _ hr]; exact hr2, h2, hS2, hL2, hP2⟩
theorem gos_mono (h : Gos P g w S) (k : ∀ g' w', S g' w' → T g' w') : Gos P g w T := gos_bind h fun _ _ hs => gosAt_stop (k _ _ hs)

theorem Reach.re (h : Reach P Stop g w) (τ : Nat → Question → Nat) (d : Nat) : Reach P Stop g (Gat.re w τ d) := by
  cases h with
  | stop h => exact .stop fun τ' d' => h τ' d'
  | step G h1 h2 h3 h4 => exact .step G h1 h2 (fun τ' d' => h3 τ' d') h4
theorem gos_reach (hP : Plain P) (h : Reach P Stop g w) : Gos P g w Stop := by
  intro τ e gs sl t q h0 hL hPt
  obtain ⟨N, gs1, a1, w1, sl1, t1, q1, hr, _, h1, hS, hL1, hP1⟩ := reach_beside hP (h.re τ e) e gs sl t q h0 hL hPt
  exact ⟨N, gs1, a1, w1, sl1, t1, q1, hr, h1, hS, hL1, hP1⟩

/-- One own step. -/
theorem gos_step (hP : Plain P) {g' : Goroutine} {w' : World} (hr : g.status = .running) (hg : GorOK g) (hr' : g'.status = .running) (h : ∀ τ d, ∃ es, stepG P true g (re w τ d) = .go g' (re w' τ d) es) (k : Gos P g' w' S) : Gos P g w S := by
  refine gos_bind (S := fun g2 w2 => g2 = g' ∧ ∃ τ d, w2 = re w' τ d) (gos_reach hP (.step' hr hg fun τ d => ?_)) fun g2 w2 ⟨h1, τ, d, h2⟩ => ?_
  · obtain ⟨es, hs⟩ := h τ d
    refine ⟨(g', re w' τ d, MemOp.ofEvents 0 g.frame.fn g.frame.place es), ⟨?_, hr'⟩, .stop fun τ' d' => ⟨rfl, τ', d', rfl⟩⟩
    · have := runT_crowd_go (P := P) (gs := #[g]) (sl := none) (i := 0) rfl (show stepG P (0 == 0) g (re w τ d) = _ from hs)
      rw [(calm_one hr).map, set_one] at this
      exact this
  · subst h1 h2
    exact (k.re τ d).here

/-- A lone run, on every tape. -/
theorem gos_steps (hP : Plain P) (hB : Blind S) (hr : g.status = .running) (hg : GorOK g) (h : ∀ τ d, ∃ a wa, a.status = .running ∧ Steps P (crowd #[g] (re w τ d) none) (crowd #[a] wa none) ∧ S a wa) : Gos P g w S :=
  gos_reach hP (reach_of_ever hP hB hg hr fun τ d => let ⟨a, wa, h1, ⟨n, hn⟩, h3⟩ := h τ d; ⟨n, a, wa, path_of_runN hP hg hr h1 hn, h3⟩)
end

/-! ### code -/
/-- The same world up to its tape and its count of draws. -/
def Sim (w w' : World) : Prop := ∃ τ d, w' = re w τ d
theorem Sim.refl (w : World) : Sim w w := ⟨w.tape, w.drawn, rfl⟩
theorem Sim.re {w w' : World} (h : Sim w w') (τ : Nat → Question → Nat) (d : Nat) : Sim w (re w' τ d) := let ⟨_, _, e⟩ := h; ⟨τ, d, by rw [e, re_re]⟩
theorem Gos.sim {P : Program} {g : Goroutine} {w w' : World} {S : Goroutine → World → Prop} (h : Gos P g w S) (hs : Sim w w') : GosAt P g w' S := let ⟨τ, d, e⟩ := hs; e ▸ h τ d
theorem Gos.sim' {P : Program} {g : Goroutine} {w w' : World} {S : Goroutine → World → Prop} (h : Gos P g w S) (hs : Sim w w') : Gos P g w' S := let ⟨τ, d, e⟩ := hs; e ▸ h.re τ d

/-- Where the goroutine is behind a code: 'Arrives' (Derived/Control.lean), as a state. -/
def At (b : Frame) (k : List Item) (cs : List Frame) (e : Exit) (a : Act) (w : World) (g' : Goroutine) (w' : World) : Prop :=
  match e with
  | .normal => g' = GG (b.at a k) cs ∧ Sim w w'
  | .exit id => ∀ k', exitTo id k = some k' → g' = GG (b.at a k') cs ∧ Sim w w'
  | .goto l => ∀ k', gotoIn l k = some k' → g' = GG (b.at a k') cs ∧ Sim w w'
  | .ret => ∃ todo, (∀ it ∈ todo, itemOK it) ∧ g' = GG { b.at a todo with mode := .returning } cs ∧ Sim w w'
  | _ => False
theorem At.re {b : Frame} {k : List Item} {cs : List Frame} {e : Exit} {a : Act} {w : World} {g' : Goroutine} {w' : World} (h : At b k cs e a w g' w') (τ : Nat → Question → Nat) (d : Nat) : At b k cs e a w g' (Gat.re w' τ d) := by
  cases e with
  | normal => exact ⟨h.1, h.2.re τ d⟩
  | exit id => exact fun k' hk' => ⟨(h k' hk').1, (h k' hk').2.re τ d⟩
  | goto l => exact fun k' hk' => ⟨(h k' hk').1, (h k' hk').2.re τ d⟩
  | ret => obtain ⟨todo, h1, h2, h3⟩ := h; exact ⟨todo, h1, h2, h3.re τ d⟩
  | panic ch => exact h
  | outgrown => exact h
/-- .. in a world of which Q speaks. -/
def Done (Q : Exit → Act → World → Prop) (b : Frame) (k : List Item) (cs : List Frame) (g' : Goroutine) (w' : World) : Prop := ∃ e a' w₁, Q e a' w₁ ∧ At b k cs e a' w₁ g' w'

def ItemsOK (k : List Item) : Prop := ∀ it ∈ k, itemOK it

def Gwp (P : Program) (c : Code) (Q : Exit → Act → World → Prop) (a : Act) (w : World) : Prop :=
  ∀ (b : Frame) (k : List Item) (cs : List Frame), ItemsOK k → FramesOK cs → Gos P (GG (b.at a (.code c :: k)) cs) w (Done Q b k cs)

section
variable {P : Program} {Q : Exit → Act → World → Prop} {a : Act} {w : World}

theorem gorOK_at {b : Frame} {k : List Item} {cs : List Frame} (hk : ItemsOK k) (hcs : FramesOK cs) : GorOK (GG (b.at a k) cs) := ⟨hk, hcs⟩
theorem itemsOK_inBlock {id : Nat} {k : List Item} (hk : ItemsOK k) : ItemsOK (.inBlock id :: k) := items_cons trivial hk
theorem itemsOK_inLoop {c : Code} {k : List Item} (hk : ItemsOK k) : ItemsOK (.inLoop c :: k) := items_cons trivial hk
theorem itemsOK_inRegion {ops : Array Oper} {l : List Nat} {k : List Item} (hk : ItemsOK k) : ItemsOK (.inRegion ops l :: k) := items_cons trivial hk
theorem itemsOK_code {c : Code} {k : List Item} (hk : ItemsOK k) : ItemsOK (.code c :: k) := items_cons trivial hk

theorem gwp_mono {c : Code} {Q' : Exit → Act → World → Prop} (h : Gwp P c Q a w) (hq : ∀ e a w, Q e a w → Q' e a w) : Gwp P c Q' a w :=
  fun b k cs hk hcs => gos_mono (h b k cs hk hcs) fun _ _ ⟨e, a', w1, q, r⟩ => ⟨e, a', w1, hq _ _ _ q, r⟩

theorem Path.ok (hP : Plain P) {n g w a wa} (h : Path P n g w a wa) : GorOK g → g.status = .running → GorOK a := by
  induction h with
  | nil => exact fun h _ => h
  | cons h1 _ ih => exact fun hg hr => ih (one_law hP hg hr h1).2.1 h1.2

/-- An own step that looks at no world. -/
theorem gos_go (hP : Plain P) {fr fr' : Frame} {cs : List Frame} {S : Goroutine → World → Prop} (hfr : FrameOK fr) (hcs : FramesOK cs) (h : ∀ w, ∃ es, stepG P true (GG fr cs) w = .go (GG fr' cs) w es) (k : Gos P (GG fr' cs) w S) : Gos P (GG fr cs) w S :=
  gos_step hP rfl ⟨hfr, hcs⟩ rfl (fun τ d => h (re w τ d)) k

theorem gos_of_arrives (hP : Plain P) {fr b : Frame} {k : List Item} {cs : List Frame} (hg : GorOK (GG fr cs)) (hQ : ∀ a w, ¬ Q .outgrown a w) (hQ' : ∀ ch a w, ¬ Q (.panic ch) a w)
    (h : ∀ τ d, ∃ e a' w₁, Q e a' w₁ ∧ Arrives P (lone fr cs (re w τ d)) b k cs e a' w₁) : Gos P (GG fr cs) w (Done Q b k cs) := by
  refine gos_reach hP (reach_of_ever hP ?_ hg rfl fun τ d => ?_)
  · exact fun g w τ d ⟨e, a', w1, hq, hat⟩ => ⟨e, a', w1, hq, hat.re τ d⟩
  · obtain ⟨e, a', w1, hq, harr⟩ := h τ d
    have fin : ∀ {fr' : Frame} {w' : World}, Steps P (lone fr cs (re w τ d)) (lone fr' cs w') → ∃ n, Path P n (GG fr cs) (re w τ d) (GG fr' cs) w' :=
      fun ⟨n, hn⟩ => ⟨n, path_of_runN hP hg rfl rfl hn⟩
    cases e with
    | normal =>
      obtain ⟨n, hn⟩ := fin harr
      exact ⟨n, _, _, hn, .normal, a', w1, hq, rfl, .refl _⟩
    | exit id =>
      cases he : exitTo id k with
      | none => exact ⟨0, _, _, .nil, .exit id, a', w1, hq, fun k' hk' => by rw [he] at hk'; cases hk'⟩
      | some k' =>
        obtain ⟨n, hn⟩ := fin (harr k' he)
        exact ⟨n, _, _, hn, .exit id, a', w1, hq, fun k2 hk2 => by rw [he] at hk2; cases hk2; exact ⟨rfl, .refl _⟩⟩
    | goto l =>
      cases he : gotoIn l k with
      | none => exact ⟨0, _, _, .nil, .goto l, a', w1, hq, fun k' hk' => by rw [he] at hk'; cases hk'⟩
      | some k' =>
        obtain ⟨n, hn⟩ := fin (harr k' he)
        exact ⟨n, _, _, hn, .goto l, a', w1, hq, fun k2 hk2 => by rw [he] at hk2; cases hk2; exact ⟨rfl, .refl _⟩⟩
    | ret =>
      obtain ⟨todo, hs⟩ := harr
      obtain ⟨n, hn⟩ := fin hs
      exact ⟨n, _, _, hn, .ret, a', w1, hq, todo, (hn.ok hP hg rfl).1, rfl, .refl _⟩
    | panic ch => exact absurd hq (hQ' _ _ _)
    | outgrown => exact absurd hq (hQ _ _)

/-- From the kit's walk of lone code. -/
theorem gwp_of_wp (hP : Plain P) {c : Code} (hQ : ∀ a w, ¬ Q .outgrown a w) (hQ' : ∀ ch a w, ¬ Q (.panic ch) a w) (h : ∀ τ d, c.wp P Q a (re w τ d)) : Gwp P c Q a w :=
  fun b k cs hk hcs => gos_of_arrives hP (gorOK_at (itemsOK_code hk) hcs) hQ hQ' fun τ d => h τ d b k cs

theorem stepG_seq {b : Frame} {k : List Item} {cs : List Frame} {x y : Code} (w : World) : stepG P true (GG (b.at a (.code (.seq x y) :: k)) cs) w = .go (GG (b.at a (.code x :: .code y :: k)) cs) w := by simp [stepG, stepG.exec, Frame.at]
theorem stepG_block {b : Frame} {k : List Item} {cs : List Frame} {id : Nat} {x : Code} (w : World) : stepG P true (GG (b.at a (.code (.block id x) :: k)) cs) w = .go (GG (b.at a (.code x :: .inBlock id :: k)) cs) w := by simp [stepG, stepG.exec, Frame.at]
theorem stepG_inBlock {b : Frame} {k : List Item} {cs : List Frame} {id : Nat} (w : World) : stepG P true (GG (b.at a (.inBlock id :: k)) cs) w = .go (GG (b.at a k) cs) w := by simp [stepG, stepG.exec, Frame.at]
theorem stepG_loop {b : Frame} {k : List Item} {cs : List Frame} {x : Code} (w : World) : stepG P true (GG (b.at a (.code (.loop x) :: k)) cs) w = .go (GG (b.at a (.code x :: .inLoop x :: k)) cs) w := by simp [stepG, stepG.exec, Frame.at]
theorem stepG_inLoop {b : Frame} {k : List Item} {cs : List Frame} {x : Code} (w : World) : stepG P true (GG (b.at a (.inLoop x :: k)) cs) w = .go (GG (b.at a (.code x :: .inLoop x :: k)) cs) w := by simp [stepG, stepG.exec, Frame.at]
theorem stepG_cond {b : Frame} {k : List Item} {cs : List Frame} {c : Operand} {x y : Code} {t : Bool} (hc : a.eval c = .bool t) (w : World) : stepG P true (GG (b.at a (.code (.cond c x y) :: k)) cs) w = .go (GG (b.at a (.code (if t then x else y) :: k)) cs) w := by
  have h := Frame.eval_at b a (.code (.cond c x y) :: k) c
  rw [hc] at h
  simp only [Frame.at] at h
  simp [stepG, stepG.exec, Frame.at, h]
theorem stepG_region {b : Frame} {k : List Item} {cs : List Frame} {id : Nat} {ops : Array Oper} (w : World) : stepG P true (GG (b.at a (.code (.region id ops false) :: k)) cs) w = .go (GG (b.at a (.inRegion ops (List.range ops.size) :: k)) cs) w := by simp [stepG, stepG.exec, Frame.at]
theorem stepG_region_end {b : Frame} {k : List Item} {cs : List Frame} {ops : Array Oper} (w : World) : stepG P true (GG (b.at a (.inRegion ops [] :: k)) cs) w = .go (GG (b.at a k) cs) w := by simp [stepG, stepG.exec, Frame.at]

theorem At.pass {b : Frame} {x : Item} {k : List Item} {cs : List Frame} {e : Exit} {g' : Goroutine} {w' : World} (hx : x.plain = true) (he : e ≠ .normal) (h : At b (x :: k) cs e a w g' w') : At b k cs e a w g' w' := by
  cases e with
  | normal => exact absurd rfl he
  | exit id => exact fun k' hk => h k' (by cases x <;> simp_all [exitTo, Item.plain])
  | goto l => exact fun k' hk => h k' (by cases x <;> simp_all [gotoIn, Item.plain])
  | ret => exact h
  | panic ch => exact h
  | outgrown => exact h

theorem gwp_seq (hP : Plain P) {x y : Code} (h : Gwp P x (Exit.then (Gwp P y Q) Q) a w) : Gwp P (.seq x y) Q a w := by
  intro b k cs hk hcs
  refine gos_go hP (itemsOK_code hk) hcs (fun w => ⟨_, stepG_seq w⟩) (gos_bind (h b (.code y :: k) cs (itemsOK_code hk) hcs) ?_)
  rintro g' w' ⟨e, a1, w1, hq, hat⟩
  cases e with
  | normal => obtain ⟨rfl, hs⟩ := hat; exact (hq b k cs hk hcs).sim hs
  | _ => exact gosAt_stop ⟨_, a1, w1, hq, .pass (x := .code y) rfl (by simp) hat⟩

theorem gos_done {b : Frame} {k : List Item} {cs : List Frame} (h : Q .normal a w) : Gos P (GG (b.at a k) cs) w (Done Q b k cs) := fun τ d => gosAt_stop ⟨.normal, a, w, h, rfl, τ, d, rfl⟩

theorem gwp_skip (hP : Plain P) (h : Q .normal a w) : Gwp P .skip Q a w := fun _ _ _ hk hcs =>
  gos_go hP (itemsOK_code hk) hcs (fun w => ⟨#[], by simp [stepG, stepG.exec, Frame.at]⟩) (gos_done h)

theorem gwp_ret (hP : Plain P) (h : Q .ret a w) : Gwp P .ret Q a w := fun b k cs hk hcs =>
  gos_go hP (fr' := { b.at a (.code .ret :: k) with mode := .returning }) (itemsOK_code hk) hcs (fun w => ⟨#[], by simp [stepG, stepG.exec, Frame.at]⟩) fun τ d => gosAt_stop ⟨.ret, a, w, h, .code .ret :: k, itemsOK_code hk, rfl, τ, d, rfl⟩
theorem gwp_exit (hP : Plain P) {id : Nat} (h : Q (.exit id) a w) : Gwp P (.exit id) Q a w := fun b k cs hk hcs => by
  cases he : exitTo id k with
  | none => exact fun τ d => gosAt_stop ⟨.exit id, a, w, h, fun k' hk' => by rw [he] at hk'; cases hk'⟩
  | some k' =>
    refine gos_go hP (fr' := b.at a k') (itemsOK_code hk) hcs (fun w => ⟨#[], by simp only [Frame.at]; simp [stepG, stepG.exec, he]⟩) fun τ d => gosAt_stop ⟨.exit id, a, w, h, fun k2 hk2 => ?_⟩
    rw [he] at hk2; cases hk2
    exact ⟨rfl, τ, d, rfl⟩

theorem gwp_cond (hP : Plain P) {c : Operand} {x y : Code} {t : Bool} (hc : a.eval c = .bool t) (h : Gwp P (if t then x else y) Q a w) : Gwp P (.cond c x y) Q a w :=
  fun b k cs hk hcs => gos_go hP (itemsOK_code hk) hcs (fun w => ⟨_, stepG_cond hc w⟩) (h b k cs hk hcs)
theorem gwp_cond_true (hP : Plain P) {c : Operand} {x y : Code} (hc : a.eval c = .bool true) (h : Gwp P x Q a w) : Gwp P (.cond c x y) Q a w := gwp_cond hP hc h
theorem gwp_cond_false (hP : Plain P) {c : Operand} {x y : Code} (hc : a.eval c = .bool false) (h : Gwp P y Q a w) : Gwp P (.cond c x y) Q a w := gwp_cond hP hc h

theorem gwp_block (hP : Plain P) {id : Nat} {c : Code} (h : Gwp P c (Exit.inBlock id Q) a w) : Gwp P (.block id c) Q a w := by
  intro b k cs hk hcs
  refine gos_go hP (itemsOK_code hk) hcs (fun w => ⟨_, stepG_block w⟩) (gos_bind (h b (.inBlock id :: k) cs (items_cons trivial hk) hcs) ?_)
  rintro g' w' ⟨e, a1, w1, hq, hat⟩
  cases e with
  | normal =>
    obtain ⟨rfl, hs⟩ := hat
    have h2 : Gos P (GG (b.at a1 (.inBlock id :: k)) cs) w1 (Done Q b k cs) := gos_go hP (itemsOK_inBlock hk) hcs (fun w => ⟨_, stepG_inBlock w⟩) (gos_done hq)
    exact h2.sim hs
  | exit id' =>
    by_cases hid : id' = id
    · simp only [Exit.inBlock, hid, if_true] at hq
      exact gosAt_stop ⟨.normal, a1, w1, hq, hat k (by simp [exitTo, hid])⟩
    · simp only [Exit.inBlock, hid, if_false] at hq
      refine gosAt_stop ⟨.exit id', a1, w1, hq, fun k' hk' => hat k' ?_⟩
      have : (id == id') = false := by simp; exact fun h => hid h.symm
      simp [exitTo, this, hk']
  | goto l => exact gosAt_stop ⟨_, a1, w1, hq, fun k' hk' => hat k' (by simp [gotoIn, hk'])⟩
  | ret => exact gosAt_stop ⟨_, a1, w1, hq, hat⟩
  | panic ch => exact hat.elim
  | outgrown => exact hat.elim

theorem gwp_loop (hP : Plain P) {c : Code} (I : Act → World → Prop) (μ : Act → World → Nat) (h₀ : I a w)
    (round : ∀ a w, I a w → Gwp P c (Exit.then (fun a' w' => I a' w' ∧ μ a' w' < μ a w) Q) a w) : Gwp P (.loop c) Q a w := by
  intro b k cs hk hcs
  have key : ∀ n a w, μ a w = n → I a w → Gos P (GG (b.at a (.code c :: .inLoop c :: k)) cs) w (Done Q b k cs) := by
    intro n
    induction n using Nat.strongRecOn with
    | _ n ih =>
      intro a w hn hI
      refine gos_bind (round a w hI b (.inLoop c :: k) cs (items_cons trivial hk) hcs) ?_
      rintro g' w' ⟨e, a1, w1, hq, hat⟩
      cases e with
      | normal =>
        obtain ⟨rfl, hs⟩ := hat
        obtain ⟨hI1, hlt⟩ := hq
        have h2 : Gos P (GG (b.at a1 (.inLoop c :: k)) cs) w1 (Done Q b k cs) := gos_go hP (itemsOK_inLoop hk) hcs (fun w => ⟨_, stepG_inLoop w⟩) (ih (μ a1 w1) (hn ▸ hlt) a1 w1 rfl hI1)
        exact h2.sim hs
      | _ => exact gosAt_stop ⟨_, a1, w1, hq, .pass (x := .inLoop c) rfl (by simp) hat⟩
  exact gos_go hP (itemsOK_code hk) hcs (fun w => ⟨_, stepG_loop w⟩) (key _ a w rfl h₀)

/-! ### operations -/
def GwpOps (P : Program) (ops : Array Oper) (Q : Exit → Act → World → Prop) (l : List Nat) (a : Act) (w : World) : Prop :=
  ∀ (b : Frame) (k : List Item) (cs : List Frame), ItemsOK k → FramesOK cs → Gos P (GG (b.at a (.inRegion ops l :: k)) cs) w (Done Q b k cs)
/-- A call beside leavers: it returns. -/
def GCalls (P : Program) (f : FuncId) (args : Array Value) (w : World) (R : Value → World → Prop) : Prop :=
  ∀ (c : Frame) (cs : List Frame), FrameOK c → FramesOK cs → Gos P (GG (Frame.enter P f args .normal) (c :: cs)) w fun g' w' => ∃ v w₁, R v w₁ ∧ g' = GG (c.finish v) cs ∧ Sim w₁ w'

variable {ops : Array Oper}
theorem gwp_region (hP : Plain P) {id : Nat} (h : GwpOps P ops Q (List.range ops.size) a w) : Gwp P (.region id ops false) Q a w := fun b k cs hk hcs =>
  gos_go hP (itemsOK_code hk) hcs (fun w => ⟨_, stepG_region w⟩) (h b k cs hk hcs)
theorem gwpOps_nil (hP : Plain P) (h : Q .normal a w) : GwpOps P ops Q [] a w := fun _ _ _ hk hcs =>
  gos_go hP (itemsOK_inRegion hk) hcs (fun w => ⟨_, stepG_region_end w⟩) (gos_done h)

theorem gwpOps_value (hP : Plain P) {i : Nat} {rest : List Nat} {o : Oper} {v : Value} {w₁ : World} (ho : ops[i]? = some o) (hw : Region.wanted o (yielded ops a.tmps) = true)
    (hr : ∀ τ d, (execOp a.eval o).run P (re w τ d) = .ok (.value v) (re w₁ τ d)) (h : GwpOps P ops Q rest (a.put o.dst v) w₁) : GwpOps P ops Q (i :: rest) a w := fun b k cs hk hcs => by
  have hfin : ∀ v, (b.at a (.inRegion ops (i :: rest) :: k)).finish v = b.at (a.put o.dst v) (.inRegion ops rest :: k) := by
    intro v; rw [Frame.finish_at, ho]; rfl
  refine gos_step hP rfl ⟨itemsOK_inRegion hk, hcs⟩ (g' := GG (b.at (a.put o.dst v) (.inRegion ops rest :: k)) cs) rfl (fun τ d => ?_) (h b k cs hk hcs)
  refine ⟨(GStep.after (evs P (b.at a (.inRegion ops (i :: rest) :: k)) ((execOp a.eval o).runT P (re w τ d) #[]).1 ((execOp a.eval o).runT P (re w τ d) #[]).2) (.go default default)).es, ?_⟩
  rw [stepG_op ho hw, apply_eq, Sem.runT_fst, hr, ← hfin]
  simp [stepG.apply, asSem, Sem.runT, GStep.after, seen_nil, GStep.es]
  rfl
theorem gwpOps_skip (hP : Plain P) {i : Nat} {rest : List Nat} {o : Oper} {w₁ : World} (ho : ops[i]? = some o) (hw : Region.wanted o (yielded ops a.tmps) = true)
    (hr : ∀ τ d, (execOp a.eval o).run P (re w τ d) = .ok .skip (re w₁ τ d)) (h : GwpOps P ops Q rest (a.put o.dst undef) w₁) : GwpOps P ops Q (i :: rest) a w := fun b k cs hk hcs => by
  have hfin : ∀ v, (b.at a (.inRegion ops (i :: rest) :: k)).finish v = b.at (a.put o.dst v) (.inRegion ops rest :: k) := by
    intro v; rw [Frame.finish_at, ho]; rfl
  refine gos_step hP rfl ⟨itemsOK_inRegion hk, hcs⟩ (g' := GG (b.at (a.put o.dst undef) (.inRegion ops rest :: k)) cs) rfl (fun τ d => ?_) (h b k cs hk hcs)
  refine ⟨(GStep.after (evs P (b.at a (.inRegion ops (i :: rest) :: k)) ((execOp a.eval o).runT P (re w τ d) #[]).1 ((execOp a.eval o).runT P (re w τ d) #[]).2) (.go default default)).es, ?_⟩
  rw [stepG_op ho hw, apply_eq, Sem.runT_fst, hr, ← hfin]
  simp [stepG.apply, asSem, Sem.runT, GStep.after, seen_nil, GStep.es]
  rfl
theorem gwpOps_call (hP : Plain P) {i : Nat} {rest : List Nat} {o : Oper} {f : FuncId} {args : Array Value} {R : Value → World → Prop} (ho : ops[i]? = some o) (hw : Region.wanted o (yielded ops a.tmps) = true)
    (hr : ∀ τ d, (execOp a.eval o).run P (re w τ d) = .ok (.enter f args) (re w τ d)) (hc : GCalls P f args w R) (h : ∀ v w₁, R v w₁ → GwpOps P ops Q rest (a.put o.dst v) w₁) : GwpOps P ops Q (i :: rest) a w := fun b k cs hk hcs => by
  have hfin : ∀ v, (b.at a (.inRegion ops (i :: rest) :: k)).finish v = b.at (a.put o.dst v) (.inRegion ops rest :: k) := by
    intro v; rw [Frame.finish_at, ho]; rfl
  refine gos_step hP rfl ⟨itemsOK_inRegion hk, hcs⟩ (g' := GG (Frame.enter P f args .normal) (b.at a (.inRegion ops (i :: rest) :: k) :: cs)) (w' := w) rfl (fun τ d => ?_) ?_
  · refine ⟨(GStep.after (evs P (b.at a (.inRegion ops (i :: rest) :: k)) ((execOp a.eval o).runT P (re w τ d) #[]).1 ((execOp a.eval o).runT P (re w τ d) #[]).2) (.go default default)).es, ?_⟩
    rw [stepG_op ho hw, apply_eq, Sem.runT_fst, hr]
    simp [stepG.apply, asSem, Sem.runT, GStep.after, seen_nil, GStep.es, Frame.at]
    rfl
  · refine gos_bind (hc _ cs (itemsOK_inRegion hk) hcs) ?_
    rintro g' w' ⟨v, w1, hR, rfl, hs⟩
    rw [hfin]
    exact (h v w1 hR b k cs hk hcs).sim hs

theorem gwpOps_of_wpOps (hP : Plain P) {l : List Nat} (hQ : ∀ a w, ¬ Q .outgrown a w) (hQ' : ∀ ch a w, ¬ Q (.panic ch) a w) (h : ∀ τ d, wpOps P ops Q l a (re w τ d)) : GwpOps P ops Q l a w :=
  fun b k cs hk hcs => gos_of_arrives hP (gorOK_at (itemsOK_inRegion hk) hcs) hQ hQ' fun τ d => wp_ops l a (re w τ d) (h τ d) b k cs

/-! ### calls -/
theorem gcalls_of_calls (hP : Plain P) {f : FuncId} {args : Array Value} {R : Value → World → Prop} (h : ∀ τ d, Calls P f args (re w τ d) fun e w' => match e with | .returned v => R v w' | _ => False) : GCalls P f args w R :=
  fun c cs hc hcs => gos_mono (gos_reach hP (reach_of_calls hP (R := fun v w' => ∃ w₁, R v w₁ ∧ Sim w₁ w') (fun v w τ d ⟨w1, h1, h2⟩ => ⟨w1, h1, h2.re τ d⟩) (.cons hc hcs)
    fun τ d => (h τ d).mono fun e w' he => by
      cases e with
      | returned v => exact ⟨w', he, .refl _⟩
      | panicked ch => exact he
      | outgrown => exact he)) fun g' w' ⟨v, ⟨w1, h1, h2⟩, h3⟩ => ⟨v, w1, h1, h3, h2⟩

theorem GCalls.mono {f : FuncId} {args : Array Value} {R R' : Value → World → Prop} (h : GCalls P f args w R) (hr : ∀ v w', R v w' → R' v w') : GCalls P f args w R' :=
  fun c cs hc hcs => gos_mono (h c cs hc hcs) fun _ _ ⟨v, w1, h1, h2, h3⟩ => ⟨v, w1, hr _ _ h1, h2, h3⟩

/-- What a body comes to. -/
def gPost (P : Program) (fn : Func) (R : Value → World → Prop) : Exit → Act → World → Prop
  | .normal, a, w | .ret, a, w => a.defers = [] ∧ ∃ v, (∀ τ d, (results fn a.tmps).run P (re w τ d) = .ok v (re w τ d)) ∧ R v w
  | _, _, _ => False

theorem gos_leave (hP : Plain P) {f : FuncId} {fn : Func} {b : Frame} {todo : List Item} {c : Frame} {cs : List Frame} {v : Value} {S : Goroutine → World → Prop} (hf : P.funcs[f]? = some fn) (hbf : b.fn = f) (hbk : b.kind = .normal) (hd : a.defers = []) (ht : ItemsOK todo) (hc : FrameOK c) (hcs : FramesOK cs)
    (hr : ∀ τ d, (results fn a.tmps).run P (re w τ d) = .ok v (re w τ d)) (k : Gos P (GG (c.finish v) cs) w S) : Gos P (GG { b.at a todo with mode := .returning } (c :: cs)) w S := by
  refine gos_step hP rfl ⟨ht, .cons hc hcs⟩ rfl (fun τ d => ?_) k
  obtain ⟨es, he⟩ : ∃ es, (results fn a.tmps).runT P (re w τ d) #[] = (.ok v (re w τ d), es) := ⟨_, Prod.ext (by rw [Sem.runT_fst]; exact hr τ d) rfl⟩
  refine ⟨seen P f es, ?_⟩
  subst hbf
  simp only [stepG, unwind, Frame.at, hd, hf, he, doReturn, hbk, GStep.after]
  simp

theorem gcalls_of_gwp (hP : Plain P) {f : FuncId} {fn : Func} {c : Code} {args : Array Value} {R : Value → World → Prop} (hf : P.funcs[f]? = some fn) (hb : fn.body = some c)
    (h : Gwp P c (gPost P fn R) { tmps := args ++ Array.replicate (fn.ntmps - args.size) undef, defers := [] } w) : GCalls P f args w R := by
  intro cc cs hcc hcs
  let b : Frame := { (default : Frame) with fn := f, kind := .normal }
  have henter : Frame.enter P f args .normal = b.at { tmps := args ++ Array.replicate (fn.ntmps - args.size) undef, defers := [] } [.code c] := by
    simp [Frame.enter, Frame.at, hf, hb, b]
  rw [henter]
  refine gos_bind (h b [] (cc :: cs) (fun _ h => by cases h) (.cons hcc hcs)) ?_
  rintro g' w' ⟨e, a1, w1, hq, hat⟩
  have last : ∀ {v : Value}, R v w1 → Gos P (GG (cc.finish v) cs) w1 fun g' w' => ∃ v w₁, R v w₁ ∧ g' = GG (cc.finish v) cs ∧ Sim w₁ w' := fun hR τ d => gosAt_stop ⟨_, w1, hR, rfl, τ, d, rfl⟩
  cases e with
  | normal =>
    obtain ⟨hd, v, hr, hR⟩ := hq
    obtain ⟨rfl, hs⟩ := hat
    have h2 : Gos P (GG (b.at a1 []) (cc :: cs)) w1 _ := gos_go hP (fr' := { b.at a1 [] with mode := .returning }) (fun _ h => by cases h) (.cons hcc hcs) (fun w => ⟨#[], by simp [stepG, stepG.exec, Frame.at]⟩)
      (gos_leave hP hf rfl rfl hd (fun _ h => by cases h) hcc hcs hr (last hR))
    exact h2.sim hs
  | ret =>
    obtain ⟨hd, v, hr, hR⟩ := hq
    obtain ⟨todo, ht, rfl, hs⟩ := hat
    exact (gos_leave hP hf rfl rfl hd ht hcc hcs hr (last hR)).sim hs
  | exit id => exact hq.elim
  | goto l => exact hq.elim
  | panic ch => exact hq.elim
  | outgrown => exact hq.elim
end
end Go.Gat
