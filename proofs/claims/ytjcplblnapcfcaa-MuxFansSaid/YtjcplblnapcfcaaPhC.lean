/-
  THE TRACE OF A PHASE, known by no machine: from its length T0 on each goroutine touches its own blocks, or reads blocks below B, or takes atomic steps of channels; what stands ahead of T0 every live goroutine knows; 'kn x y': x knows every touch of y's (who touches nothing any more); 'cl c = some y': y has closed c, as its last touch.
-/
import Derived.Test.YtjcplblnapcfcaaPhB
set_option linter.unusedSimpArgs false
namespace Go.Gat
open Go.Conc

structure TInv (B T0 : Nat) (ow : Nat → Own) (live : Nat → Prop) (kn : Nat → Nat → Prop) (cl : Nat → Option Nat) (t : Trace) : Prop where
  clean : ∀ said, ¬ Race said t
  size : T0 ≤ t.size
  base : ∀ i a, i < T0 → touchAt t i = some a → a.loc.isMemory = true → ∀ x, live x → Knows t x i
  mine : ∀ i op a, T0 ≤ i → t[i]? = some op → op.act.touch? = some a → a.loc.isMemory = true →
    (∃ ad, a.loc = .cell ad ∧ (ow op.g ad.block ∨ (a.write = false ∧ ad.block < B))) ∨ (∃ c, a.loc = .obj c ∧ a.kind = .atomic)
  knw : ∀ x y, kn x y → ∀ i op, T0 ≤ i → t[i]? = some op → op.g = y → op.act.touch? ≠ none → Knows t x i
  shut : ∀ c y, cl c = some y → ∃ p op, t[p]? = some op ∧ op.g = y ∧ op.act = .close c ∧ t.heard p ∧ ∀ i op', T0 ≤ i → t[i]? = some op' → op'.g = y → op'.act.touch? ≠ none → Before t i p

section
variable {B T0 : Nat} {ow : Nat → Own} {live : Nat → Prop} {kn : Nat → Nat → Prop} {cl : Nat → Option Nat} {t u : Trace}

theorem touch_app_cases {i : Nat} {a : Touch} (h : touchAt (t ++ u) i = some a) : (i < t.size ∧ touchAt t i = some a) ∨ (t.size ≤ i ∧ ∃ op ∈ u, (t ++ u)[i]? = some op ∧ op.act.touch? = some a) := by
  obtain ⟨op, h1, h2⟩ := touch_of h
  rcases getElem?_append_cases h1 with ⟨h3, h4⟩ | ⟨h3, h4⟩
  · exact .inl ⟨h3, by rw [touchAt_of h4, h2]⟩
  · exact .inr ⟨h3, op, h4, h1, h2⟩

/-- Operations that touch nothing. -/
theorem TInv.mute (h : TInv B T0 ow live kn cl t) (hn : ∀ op ∈ u, op.act.touch? = none) : TInv B T0 ow live kn cl (t ++ u) where
  clean said := noRace_appendMute (h.clean said) hn
  size := by have := h.size; simp only [Array.size_append]; omega
  base i a hi ha hm x hx := by
    rcases touch_app_cases ha with ⟨_, h2⟩ | ⟨h2, _⟩
    · exact (h.base i a hi h2 hm x hx).app u
    · have := h.size; omega
  mine i op a hi ho ha hm := by
    rcases getElem?_append_cases ho with ⟨_, h2⟩ | ⟨_, h2⟩
    · exact h.mine i op a hi h2 ha hm
    · rw [hn op h2] at ha; cases ha
  knw x y hk i op hi ho hg ha := by
    rcases getElem?_append_cases ho with ⟨_, h2⟩ | ⟨_, h2⟩
    · exact (h.knw x y hk i op hi h2 hg ha).app u
    · exact absurd (hn op h2) ha
  shut c y hc := by
    obtain ⟨p, op, h1, h2, h3, h4, h5⟩ := h.shut c y hc
    have hp := lt_size_of_getElem? h1
    refine ⟨p, op, by rw [getElem?_append_old hp]; exact h1, h2, h3, (heard_old hp).2 h4, fun i op' hi ho hg ha => ?_⟩
    rcases getElem?_append_cases ho with ⟨_, h6⟩ | ⟨_, h6⟩
    · exact (h5 i op' hi h6 hg ha).app u
    · exact absurd (hn op' h6) ha

/-- Fewer live ones, less known. -/
theorem TInv.less (h : TInv B T0 ow live kn cl t) {live' : Nat → Prop} {kn' : Nat → Nat → Prop} {cl' : Nat → Option Nat} (hl : ∀ x, live' x → live x) (hk : ∀ x y, kn' x y → kn x y) (hc : ∀ c y, cl' c = some y → cl c = some y) : TInv B T0 ow live' kn' cl' t :=
  { h with base := fun i a hi ha hm x hx => h.base i a hi ha hm x (hl x hx), knw := fun x y hxy => h.knw x y (hk x y hxy), shut := fun c y hcy => h.shut c y (hc c y hcy) }

/-- What 'x' lists in its own step, its blocks 'own'' behind it. -/
theorem TInv.own (h : TInv B T0 ow live kn cl t) {x : Nat} {own' : Own} {fn : FuncId} {pos : String} {es : Array Event} (hx : live x) (hes : ∀ e ∈ es, EvOK B own' e) (hgrow : ∀ b, ow x b → own' b)
    (hdis : ∀ y b, y ≠ x → ow y b → ¬ own' b) (hlow : ∀ y b, ow y b → B ≤ b) (hlow' : ∀ b, own' b → B ≤ b) (hkn : ∀ z, ¬ kn z x) (hcl : ∀ c, cl c ≠ some x) :
    TInv B T0 (fun y => if y = x then own' else ow y) live kn cl (t ++ MemOp.ofEvents x fn pos es) := by
  have hu : ∀ op ∈ MemOp.ofEvents x fn pos es, op.g = x := MemOp.ofEvents_g x fn pos es
  have hev : ∀ op ∈ MemOp.ofEvents x fn pos es, ∀ a, op.act.touch? = some a → ∃ ad, a = ⟨.cell ad, a.write, .plain⟩ ∧ (own' ad.block ∨ (a.write = false ∧ ad.block < B)) := by
    intro op hop a ha
    obtain ⟨e, he, rfl⟩ := Conc.mem_ofEvents hop
    rcases hes e he with ⟨hm, _⟩ | ⟨ad, wr, rfl, ho⟩
    · rw [hm] at ha; cases ha
    · simp only [ofEvent_cell0, MemAct.touch?, Option.some.injEq] at ha
      subst ha
      exact ⟨ad, rfl, ho⟩
  refine ⟨fun said => noRace_append (h.clean said) hu fun i a ha op hop b hb hc => ?_, by have := h.size; simp only [Array.size_append]; omega, fun i a hi ha hm y hy => ?_, fun i op a hi ho ha hm => ?_, fun y z hk i op hi ho hg ha => ?_, fun c y hc => ?_⟩
  · -- whom it may conflict with it knows
    rcases Nat.lt_or_ge i T0 with hi | hi
    · exact h.base i a hi ha hc.2.1 x hx
    · obtain ⟨op', h1, h2⟩ := touch_of ha
      by_cases hg : op'.g = x
      · have := knows_own h1
        rw [hg] at this
        exact this
      · exfalso
        obtain ⟨bd, hb1, hb2⟩ := hev op hop b hb
        rcases h.mine i op' a hi h1 h2 hc.2.1 with ⟨ad, e1, e2⟩ | ⟨c, e1, _⟩
        · have hloc := hc.1
          rw [e1, hb1] at hloc
          simp only [Loc.cell.injEq] at hloc
          subst hloc
          rcases e2 with e2 | ⟨e2, e3⟩
          · rcases hb2 with hb2 | ⟨_, hb3⟩
            · exact hdis _ _ hg e2 hb2
            · exact absurd (hlow _ _ e2) (by omega)
          · rcases hb2 with hb2 | ⟨hb3, _⟩
            · exact absurd (hlow' _ hb2) (by omega)
            · rcases hc.2.2.1 with hw | hw
              · rw [e2] at hw; cases hw
              · rw [hb3] at hw; cases hw
        · have hloc := hc.1
          rw [e1, hb1] at hloc
          cases hloc
  · rcases touch_app_cases ha with ⟨_, h2⟩ | ⟨h2, _⟩
    · exact (h.base i a hi h2 hm y hy).app _
    · have := h.size; omega
  · rcases getElem?_append_cases ho with ⟨_, h2⟩ | ⟨_, h2⟩
    · refine (h.mine i op a hi h2 ha hm).imp (fun ⟨ad, e1, e2⟩ => ⟨ad, e1, e2.imp (fun e => ?_) id⟩) id
      by_cases hg : op.g = x
      · rw [if_pos hg]; exact hgrow _ (hg ▸ e)
      · rw [if_neg hg]; exact e
    · obtain ⟨ad, e1, e2⟩ := hev op h2 a ha
      refine .inl ⟨ad, by rw [e1], e2.imp (fun e => ?_) id⟩
      rw [if_pos (hu op h2)]; exact e
  · rcases getElem?_append_cases ho with ⟨_, h2⟩ | ⟨_, h2⟩
    · exact (h.knw y z hk i op hi h2 hg ha).app _
    · have := hu op h2
      rw [hg] at this
      subst this
      exact absurd hk (hkn y)
  · obtain ⟨p, op, h1, h2, h3, h4, h5⟩ := h.shut c y hc
    have hp := lt_size_of_getElem? h1
    refine ⟨p, op, by rw [getElem?_append_old hp]; exact h1, h2, h3, (heard_old hp).2 h4, fun i op' hi ho hg ha => ?_⟩
    rcases getElem?_append_cases ho with ⟨_, h6⟩ | ⟨_, h6⟩
    · exact (h5 i op' hi h6 hg ha).app _
    · have := hu op' h6
      rw [hg] at this
      subst this
      exact absurd hc (hcl c)

theorem opOf_touch (i : Nat) (fr : Frame) (a : MemAct) : (opOf i fr a).act = a := rfl
theorem meetOps_mute (x y : Nat) (fx fy : Frame) (c s : Nat) : ∀ op ∈ meetOps (opOf x fx) (opOf y fy) c s, op.act.touch? = none ∧ op.act ≠ .mark .disable ∧ op.act ≠ .mark .enable := by
  intro op hop
  simp only [meetOps, List.mem_toArray, List.mem_cons, List.not_mem_nil, or_false] at hop
  rcases hop with rfl | rfl | rfl | rfl <;> exact ⟨rfl, by simp [opOf], by simp [opOf]⟩

theorem meetOps_quiet (x y : Nat) (fx fy : Frame) (c s g : Nat) : ∀ op ∈ meetOps (opOf x fx) (opOf y fy) c s, ∀ d, deafStep g d op = d := by
  intro op hop d
  simp only [meetOps, List.mem_toArray, List.mem_cons, List.not_mem_nil, or_false] at hop
  rcases hop with rfl | rfl | rfl | rfl <;> rfl

/-- 'x' has sent to 'y': y knows what x knew. -/
theorem TInv.meet (h : TInv B T0 ow live kn cl t) {x y : Nat} {fx fy : Frame} {c s : Nat} (hx : Deaf t x = 0) (hy : Deaf t y = 0) {kn' : Nat → Nat → Prop}
    (hk : ∀ a b, kn' a b → kn a b ∨ (a = y ∧ (kn x b ∨ b = x))) : TInv B T0 ow live kn' cl (t ++ meetOps (opOf x fx) (opOf y fy) c s) := by
  have hn := fun op hop => (meetOps_mute x y fx fy c s op hop).1
  have hm := h.mute (u := meetOps (opOf x fx) (opOf y fy) c s) hn
  have e0 : (t ++ meetOps (opOf x fx) (opOf y fy) c s)[t.size]? = some (opOf x fx (.send c s)) := by simp [meetOps]
  have e3 : (t ++ meetOps (opOf x fx) (opOf y fy) c s)[t.size + 3]? = some (opOf y fy (.recvDone c s)) := by simp [meetOps]
  have edge : HappensBefore (t ++ meetOps (opOf x fx) (opOf y fy) c s) t.size (t.size + 3) :=
    Relation.TransGen.single (.inr ⟨.handOver (act?_of e0) (act?_of e3), ⟨x, g?_of e0, by rw [deaf_old (Nat.le_refl _)]; exact hx⟩, ⟨y, g?_of e3, by rw [deaf_quiet (meetOps_quiet x y fx fy c s y) 3 (by simp [meetOps])]; exact hy⟩⟩)
  have pass : ∀ i, Knows t x i → Knows (t ++ meetOps (opOf x fx) (opOf y fy) c s) y i := fun i hi => ⟨t.size + 3, _, e3, rfl, .inr ((hi.hb_new (Nat.le_refl _) e0 rfl).trans edge)⟩
  refine { hm with knw := fun a b hab i op hi ho hg ha => ?_ }
  rcases hk a b hab with h1 | ⟨rfl, h1⟩
  · exact hm.knw a b h1 i op hi ho hg ha
  · rcases getElem?_append_cases ho with ⟨_, h2⟩ | ⟨_, h2⟩
    · refine pass i ?_
      rcases h1 with h1 | rfl
      · exact h.knw x b h1 i op hi h2 hg ha
      · exact hg ▸ knows_own h2
    · exact absurd (hn op h2) ha

/-- 'y' has found c closed, by 'x': y knows all that x has touched. -/
theorem TInv.found (h : TInv B T0 ow live kn cl t) {x y : Nat} {fy : Frame} {c : Nat} (hc : cl c = some x) (hy : Deaf t y = 0) {kn' : Nat → Nat → Prop}
    (hk : ∀ a b, kn' a b → kn a b ∨ (a = y ∧ b = x)) : TInv B T0 ow live kn' cl (t ++ #[opOf y fy (.recvClosed c)]) := by
  have hn : ∀ op ∈ #[opOf y fy (.recvClosed c)], op.act.touch? = none := by
    intro op hop
    simp only [List.mem_toArray, List.mem_cons, List.not_mem_nil, or_false] at hop
    rw [hop]; rfl
  have hm := h.mute (u := #[opOf y fy (.recvClosed c)]) hn
  obtain ⟨p, op, h1, h2, h3, h4, h5⟩ := h.shut c x hc
  have hp := lt_size_of_getElem? h1
  have e0 : (t ++ #[opOf y fy (.recvClosed c)])[p]? = some op := by rw [getElem?_append_old hp]; exact h1
  have e1 : (t ++ #[opOf y fy (.recvClosed c)])[t.size]? = some (opOf y fy (.recvClosed c)) := by simp
  have edge : HappensBefore (t ++ #[opOf y fy (.recvClosed c)]) p t.size :=
    Relation.TransGen.single (.inr ⟨.closed (by rw [act?_of e0, h3]) (act?_of e1), (heard_old hp).2 h4, ⟨y, g?_of e1, by rw [deaf_old (Nat.le_refl _)]; exact hy⟩⟩)
  refine { hm with knw := fun a b hab i op' hi ho hg ha => ?_ }
  rcases hk a b hab with h6 | ⟨rfl, rfl⟩
  · exact hm.knw a b h6 i op' hi ho hg ha
  · rcases getElem?_append_cases ho with ⟨_, h6⟩ | ⟨_, h6⟩
    · refine ⟨t.size, _, e1, rfl, .inr ?_⟩
      exact ((h5 i op' hi h6 hg ha).app _).hb edge
    · exact absurd (hn op' h6) ha

/-- 'x' closes c. -/
theorem TInv.close (h : TInv B T0 ow live kn cl t) {x : Nat} {fn : FuncId} {pos : String} {c : Nat} (hx : live x) (hd : Deaf t x = 0) (hkn : ∀ z, ¬ kn z x) (hcl : ∀ c, cl c ≠ some x) {cl' : Nat → Option Nat}
    (hc' : ∀ c' y, cl' c' = some y → cl c' = some y ∨ (c' = c ∧ y = x)) : TInv B T0 ow live kn cl' (t ++ MemOp.ofEvents x fn pos (closeEvents c)) := by
  have hu : ∀ op ∈ MemOp.ofEvents x fn pos (closeEvents c), op.g = x := MemOp.ofEvents_g x fn pos _
  have hops : MemOp.ofEvents x fn pos (closeEvents c) = #[{ g := x, fn, pos, act := .access ⟨.obj c, false, true⟩ }, { g := x, fn, pos, act := .close c }] := closeOps x fn pos c
  have hev : ∀ op ∈ MemOp.ofEvents x fn pos (closeEvents c), ∀ a, op.act.touch? = some a → a = ⟨.obj c, false, .atomic⟩ := by
    intro op hop a ha
    rw [hops] at hop
    simp only [List.mem_toArray, List.mem_cons, List.not_mem_nil, or_false] at hop
    rcases hop with rfl | rfl
    · simp only [MemAct.touch?, if_true, Option.some.injEq] at ha; exact ha.symm
    · simp [MemAct.touch?] at ha
  refine ⟨fun said => noRace_append (h.clean said) hu fun i a ha op hop b hb hcf => ?_, by have := h.size; simp only [Array.size_append]; omega, fun i a hi ha hm y hy => ?_, fun i op a hi ho ha hm => ?_, fun y z hk i op hi ho hg ha => ?_, fun c' y hcy => ?_⟩
  · rcases Nat.lt_or_ge i T0 with hi | hi
    · exact h.base i a hi ha hcf.2.1 x hx
    · obtain ⟨op', h1, h2⟩ := touch_of ha
      have hb1 := hev op hop b hb
      have hloc := hcf.1
      rw [hb1] at hloc
      rcases h.mine i op' a hi h1 h2 hcf.2.1 with ⟨ad, e1, _⟩ | ⟨c2, e1, e2⟩
      · rw [e1] at hloc; cases hloc
      · exfalso
        rcases hcf.2.2.2 with e | e | ⟨_, e, _⟩
        · rw [e2] at e; cases e
        · rw [hb1] at e; cases e
        · rw [e2] at e; cases e
  · rcases touch_app_cases ha with ⟨_, h2⟩ | ⟨h2, _⟩
    · exact (h.base i a hi h2 hm y hy).app _
    · have := h.size; omega
  · rcases getElem?_append_cases ho with ⟨_, h2⟩ | ⟨_, h2⟩
    · exact h.mine i op a hi h2 ha hm
    · have := hev op h2 a ha
      exact .inr ⟨c, by rw [this], by rw [this]⟩
  · rcases getElem?_append_cases ho with ⟨_, h2⟩ | ⟨_, h2⟩
    · exact (h.knw y z hk i op hi h2 hg ha).app _
    · have := hu op h2
      rw [hg] at this
      subst this
      exact absurd hk (hkn y)
  · rcases hc' c' y hcy with hc | ⟨rfl, rfl⟩
    · obtain ⟨p, op, h1, h2, h3, h4, h5⟩ := h.shut c' y hc
      have hp := lt_size_of_getElem? h1
      refine ⟨p, op, by rw [getElem?_append_old hp]; exact h1, h2, h3, (heard_old hp).2 h4, fun i op' hi ho hg ha => ?_⟩
      rcases getElem?_append_cases ho with ⟨_, h6⟩ | ⟨_, h6⟩
      · exact (h5 i op' hi h6 hg ha).app _
      · have := hu op' h6
        rw [hg] at this
        subst this
        exact absurd hc (hcl c')
    · have e1 : (t ++ MemOp.ofEvents y fn pos (closeEvents c'))[t.size + 1]? = some { g := y, fn, pos, act := .close c' } := by rw [hops, at_new]; rfl
      have hq : ∀ op ∈ MemOp.ofEvents y fn pos (closeEvents c'), ∀ d, deafStep y d op = d := by
        intro op hop d
        rw [hops] at hop
        simp only [List.mem_toArray, List.mem_cons, List.not_mem_nil, or_false] at hop
        rcases hop with rfl | rfl <;> rfl
      refine ⟨t.size + 1, _, e1, rfl, rfl, ⟨y, g?_of e1, by rw [deaf_quiet hq 1 (by rw [hops]; simp)]; exact hd⟩, fun i op' hi ho hg ha => ?_⟩
      have hlt := lt_size_of_getElem? ho
      rcases Nat.lt_trichotomy i (t.size + 1) with hl | hl | hl
      · exact .inr (hb_po hl ho e1 hg)
      · exact .inl hl
      · rw [hops] at hlt
        simp at hlt
        omega

/-- Goroutine 0 starts goroutine k. -/
theorem TInv.fork (h : TInv B T0 ow live kn cl t) {k : Nat} {x y : MemOp} (hx : x.g = 0 ∧ x.act = .go k) (hy : y.g = k ∧ y.act = .start) (h0 : Deaf t 0 = 0) (hk : Deaf t k = 0) (hl : live 0) :
    TInv B T0 ow (fun z => live z ∨ z = k) kn cl (t ++ #[x, y]) := by
  have hn : ∀ op ∈ #[x, y], op.act.touch? = none := by
    intro op hop
    simp only [List.mem_toArray, List.mem_cons, List.not_mem_nil, or_false] at hop
    rcases hop with rfl | rfl
    · rw [hx.2]; rfl
    · rw [hy.2]; rfl
  have hm := h.mute (u := #[x, y]) hn
  refine { hm with base := fun i a hi ha hmm z hz => ?_ }
  rcases hz with hz | rfl
  · exact hm.base i a hi ha hmm z hz
  · rcases touch_app_cases ha with ⟨_, h2⟩ | ⟨h2, _⟩
    · exact Go.ConcN.fork_knows hx hy h0 hk (h.base i a hi h2 hmm 0 hl)
    · have := h.size; omega
end
end Go.Gat
