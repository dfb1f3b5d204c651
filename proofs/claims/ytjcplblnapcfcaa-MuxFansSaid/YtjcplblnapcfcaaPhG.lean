/-
  THE CROWD THAT CARRIES OUT PROTOCOL TERMS: a communication's step.
-/
import Derived.Test.YtjcplblnapcfcaaPhF
set_option linter.unusedSimpArgs false
namespace Go.Gat
open Go.Conc
open Go.ConcN (sumTo upd sumTo_upd upd_ne upd_same)

section
variable {P : Program} {B T0 : Nat} {fin : List Value → Own → Goroutine → World → Prop} {A : Abs} {gs : Array Goroutine} {w : World} {t : Trace} {ow : Nat → Own} {ns : Nat → Nat}

/-- The channel's block is turned; nothing else. -/
theorem Inv.setChan (h : Inv P B T0 fin A gs w t ow ns) {c : Nat} (hc : ∃ x, A.ch c = some x) (d : Nat) (cl : Bool) (s : Nat) :
    (∀ j, Rely B (ow j) w ((w.at d).setChan c 0 #[] cl s s false)) ∧ (∀ c' x, c' ≠ c → A.ch c' = some x → Chan ((w.at d).setChan c 0 #[] cl s s false) c' x.isSome) ∧ Chan ((w.at d).setChan c 0 #[] cl s s false) c cl := by
  obtain ⟨x, hx⟩ := hc
  obtain ⟨hB, s0, hs0⟩ := h.chans c x hx
  have hlt : c < w.heap.size := (Array.getElem?_eq_some_iff.1 hs0).1
  have hother : ∀ b, b ≠ c → ((w.at d).setChan c 0 #[] cl s s false).heap[b]? = w.heap[b]? := fun b hb => by
    show (w.heap.setIfInBounds c _)[b]? = _
    rw [Array.getElem?_setIfInBounds_ne (Ne.symm hb)]
  refine ⟨fun j => ⟨by simp [World.setChan, World.at], fun b hb _ => hother b fun e => ?_, rfl, rfl⟩, fun c' x' hne hx' => ?_, s, ?_⟩
  · subst e
    rcases hb with hb | hb
    · omega
    · have := (h.low j b hb).2.2
      rw [hx] at this; cases this
  · obtain ⟨_, s', hs'⟩ := h.chans c' x' hx'
    exact ⟨s', by rw [hother c' hne, hs']⟩
  · show (w.heap.setIfInBounds c _)[c]? = _
    rw [Array.getElem?_setIfInBounds_self_of_lt hlt]

theorem Inv.meet (h : Inv P B T0 fin A gs w t ow ns) {s r c n d : Nat} {v z : Value} {k p' : Proc} {kn' : Nat → Nat → Prop} {gs' : Array Goroutine} {t' : Trace} {xs xr : Goroutine}
    (hs : s < gs.size) (hr : r < gs.size) (hps : A.pr s = .send c v z k) (hpr : Gets (A.pr r) c v p') (hch : A.ch c = some none)
    (hsz : gs'.size = gs.size) (h1 : gs'[s]? = some xs) (h2 : gs'[r]? = some xr) (h3 : ∀ j, j ≠ s → j ≠ r → gs'[j]? = gs[j]?)
    (d1 : Does P B fin k (s == 0) (ow s) xs w) (d2 : Does P B fin p' (r == 0) (ow r) xr w)
    (hd : ∀ g, Deaf t' g = Deaf t g) (hkn : ∀ a b, kn' a b ↔ A.kn a b ∨ (a = r ∧ (A.kn s b ∨ (b = s ∧ k = .quit))))
    (htr : TInv B T0 ow (fun i => A.pr i ≠ .quit) kn' (fun c => (A.ch c).join) t') :
    ∃ ns', Inv P B T0 fin { A with pr := upd (upd A.pr s k) r p', pk := upd (upd A.pk s false) r false, kn := kn' } gs' ((w.at d).setChan c 0 #[] false n n false) t' ow ns' := by
  obtain ⟨hrel, hoth, hown⟩ := h.setChan ⟨_, hch⟩ d false n
  have hsr : s ≠ r := by
    rintro rfl
    rw [hps] at hpr
    cases hpr
  have hqs : A.pr s ≠ .quit := by rw [hps]; simp
  have hqr : A.pr r ≠ .quit := by intro e; rw [e] at hpr; cases hpr
  have hd0 : ∀ i, i < gs.size → A.pr i ≠ .quit → Deaf t i = 0 := fun i hi hq => ((h.stand i _ (Array.getElem?_eq_getElem hi)).2 hq).1
  obtain ⟨n1, hn1⟩ := (d1.rely (hrel s)).stand
  obtain ⟨n2, hn2⟩ := (d2.rely (hrel r)).stand
  have hpr' : ∀ j, j ≠ s → j ≠ r → upd (upd A.pr s k) r p' j = A.pr j := fun j e1 e2 => by rw [upd_ne _ _ e2, upd_ne _ _ e1]
  have hpk' : ∀ j, j ≠ s → j ≠ r → upd (upd A.pk s false) r false j = A.pk j := fun j e1 e2 => by rw [upd_ne _ _ e2, upd_ne _ _ e1]
  have hprs : upd (upd A.pr s k) r p' s = k := by rw [upd_ne _ _ hsr, upd_same]
  have hpks : upd (upd A.pk s false) r false s = false := by rw [upd_ne _ _ hsr, upd_same]
  refine ⟨upd (upd ns s n1) r n2, ?_⟩
  refine { stand := fun j y hj => ?_, out := fun j hj => ?_, low := fun j b hb => ?_, disj := h.disj, chans := fun c' x hc => ?_, shown := fun i hi c' hc' => ?_, room := Nat.le_trans h.room (by simp [World.setChan, World.at]), tr := ?_, knq := fun a b hab => ?_, clq := fun c' y hc => ?_ }
  · by_cases e1 : j = r
    · subst e1
      rw [h2] at hj
      obtain rfl := Option.some.inj hj
      simp only [upd_same]
      rw [hd, hd0 j hr hqr]
      exact hn2
    · by_cases e2 : j = s
      · subst e2
        rw [h1] at hj
        obtain rfl := Option.some.inj hj
        simp only
        rw [hprs, hpks, hd, hd0 j hs hqs, upd_ne _ _ hsr, upd_same]
        exact hn1
      · rw [h3 j e2 e1] at hj
        simp only
        rw [hpr' j e2 e1, hpk' j e2 e1, hd, upd_ne _ _ e1, upd_ne _ _ e2]
        exact (h.stand j y hj).rely (hrel j)
  · have hj' : gs.size ≤ j := by rw [hsz] at hj; exact hj
    obtain ⟨a1, a2, a3, a4⟩ := h.out j hj'
    refine ⟨by rw [hd]; exact a1, ?_, ?_, a4⟩
    · simp only; rw [hpr' j (by omega) (by omega)]; exact a2
    · simp only; rw [hpk' j (by omega) (by omega)]; exact a3
  · obtain ⟨a1, a2, a3⟩ := h.low j b hb
    exact ⟨a1, by simpa [World.setChan, World.at] using a2, a3⟩
  · refine ⟨(h.chans c' x hc).1, ?_⟩
    by_cases e : c' = c
    · subst e
      have hc2 : A.ch c' = some x := hc
      rw [hch] at hc2
      obtain rfl := Option.some.inj hc2
      exact hown
    · exact hoth c' x e hc
  · by_cases e1 : i = r
    · subst e1; simp only [upd_same] at hi; cases hi
    · by_cases e2 : i = s
      · subst e2
        simp only at hi
        rw [hpks] at hi; cases hi
      · simp only at hi hc'
        rw [hpk' i e2 e1] at hi
        rw [hpr' i e2 e1] at hc'
        exact h.shown i hi c' hc'
  · refine htr.less (fun x hx => ?_) (fun _ _ h => h) (fun _ _ h => h)
    simp only at hx
    by_cases e1 : x = r
    · subst e1; exact hqr
    · by_cases e2 : x = s
      · subst e2; exact hqs
      · rw [hpr' x e2 e1] at hx; exact hx
  · have hq : ∀ b, A.pr b = .quit → upd (upd A.pr s k) r p' b = .quit := fun b hb => by
      rw [hpr' b (fun e => hqs (e ▸ hb)) (fun e => hqr (e ▸ hb))]; exact hb
    rcases (hkn a b).1 hab with h4 | ⟨rfl, h4 | ⟨rfl, rfl⟩⟩
    · exact hq b (h.knq a b h4)
    · exact hq b (h.knq s b h4)
    · exact hprs
  · have := h.clq c' y hc
    simp only
    rw [hpr' y (fun e => hqs (e ▸ this)) (fun e => hqr (e ▸ this))]
    exact this

theorem opens_of {p : Proc} {cs : Array CommCase} {sh : CommShape} {c : Nat} (hp : p.offers = some (cs, sh)) (hc : p.at c) : ∃ cc ∈ cs, cc.chan = .chan (some c) := by
  cases p <;> simp [Proc.offers] at hp
  case send c' v z k => obtain ⟨rfl, rfl⟩ := hp; cases hc; exact ⟨scase c v z, by simp, rfl⟩
  case recv c' z k k0 => obtain ⟨rfl, rfl⟩ := hp; cases hc; exact ⟨rcase c z, by simp, rfl⟩
  case sel c' d zc zd kc kd =>
    obtain ⟨rfl, rfl⟩ := hp
    rcases hc with rfl | rfl
    · exact ⟨rcase c zc, by simp, rfl⟩
    · exact ⟨rcase c zd, by simp, rfl⟩

theorem Inv.comm (h : Inv P B T0 fin A gs w t ow ns) (hw : Wf gs.size A) {i : Nat} {g : Goroutine} {cs : Array CommCase} {sh : CommShape} (hi : gs[i]? = some g) (hpk : A.pk i = false) (hp : (A.pr i).offers = some (cs, sh))
    (hT : ∀ w₁, Rely B (ow i) w w₁ → AtP P B fin (A.pr i) (i == 0) (ow i) g w₁) (sl : Option (Nat × Nat)) :
    ∃ gs' w' ops ns' A', runT P (crowd gs w sl) i = (.next (crowd gs' w' sl), ops) ∧ gs'.size = gs.size ∧ ATo gs.size A A' gs.size ∧ Inv P B T0 fin A' gs' w' (t ++ ops) ow ns' := by
  have hq : A.pr i ≠ .quit := by intro e; rw [e] at hp; cases hp
  have hlt : i < gs.size := (Array.getElem?_eq_some_iff.1 hi).1
  have hat := hT w (.refl _ _ _)
  obtain ⟨hrun, es, hes, hst⟩ := hat.comm hp
  have hatb := hat.bare (by rw [hp]; rfl)
  have hr := runT_crowd_comm (P := P) (sl := sl) hi hst
  have hout := comm_out (P := P) (r := (crowd gs w sl).rest) (gs := gs.setIfInBounds i ph) (i := i) (g := bare g) (sh := sh) (h.ours hw hp) rfl
  generalize communicate P (crowd gs w sl).rest (gs.setIfInBounds i ph) i (bare g) cs true sh w = X at hr hout
  have hu := MemOp.ofEvents_g i g.frame.fn g.frame.place es
  have hd0 : ∀ j, j < gs.size → A.pr j ≠ .quit → Deaf t j = 0 := fun j hj hqj => ((h.stand j _ (Array.getElem?_eq_getElem hj)).2 hqj).1
  have hd1 : ∀ j, Deaf (t ++ MemOp.ofEvents i g.frame.fn g.frame.place es) j = Deaf t j := fun j => by
    by_cases e : j = i
    · subst e; rw [Deaf_own, deaf_ok hes]
    · exact Deaf_other t (Ne.symm e) _ hu
  have hset : ∀ y, (gs.setIfInBounds i ph).setIfInBounds i y = gs.setIfInBounds i y := fun y => by
    apply Array.ext_getElem?
    intro j
    by_cases e : i = j
    · subst e; simp [hlt]
    · simp [Array.getElem?_setIfInBounds_ne e]
  have htr1 : TInv B T0 ow (fun i => A.pr i ≠ .quit) A.kn (fun c => (A.ch c).join) (t ++ MemOp.ofEvents i g.frame.fn g.frame.place es) := by
    have h1 := h.tr.own (x := i) (own' := ow i) (fn := g.frame.fn) (pos := g.frame.place) hq hes (fun _ h => h) (fun y b hy hb hb' => h.disj y i b hy hb hb') (fun y b hb => (h.low y b hb).1) (fun b hb => (h.low i b hb).1)
      (fun z hz => hq (h.knq z i hz)) (fun c hc => hq (h.clq c i (by
        cases hcc : A.ch c with
        | none => rw [hcc] at hc; cases hc
        | some x => rw [hcc] at hc; simpa using hc)))
    rw [show (fun y => if y = i then ow i else ow y) = ow from funext fun y => by split <;> simp_all] at h1
    exact h1
  have hseti : ∀ (G : Array Goroutine) (y : Goroutine), i < G.size → (G.setIfInBounds i y)[i]? = some y := fun G y hG => Array.getElem?_setIfInBounds_self_of_lt hG
  cases hout with
  | park hno =>
    rw [hset] at hr
    have hopen : ∀ c, (A.pr i).at c → A.ch c = some none := fun c hc => by
      obtain ⟨cc, hcc, hcc2⟩ := opens_of hp hc
      obtain ⟨c2, e2, hch, _⟩ := hno cc hcc
      rw [hcc2] at e2
      obtain rfl : c = c2 := by simpa using e2
      cases hpr : A.pr i <;> simp [hpr, Proc.offers] at hp
      case send c' v z k => rw [hpr] at hc; cases hc; exact hw.send i _ _ _ _ hpr
      case recv c' z k k0 =>
        rw [hpr] at hc; cases hc
        obtain ⟨x, hx⟩ := Option.isSome_iff_exists.1 (hw.recv i _ _ _ _ hpr)
        have := (h.chans c x hx).2.unique hch
        cases x with
        | none => exact hx
        | some y => cases this
      case sel c' d zc zd kc kd =>
        rw [hpr] at hc
        rcases hc with rfl | rfl
        · exact (hw.sel i _ _ _ _ _ _ hpr).1
        · exact (hw.sel i _ _ _ _ _ _ hpr).2
    refine ⟨_, _, _, ns, _, hr, by simp, .park i hlt hpk (by rw [hp]; rfl) (fun j hj => ?_) hopen, ?_⟩
    · -- nobody who waits could meet it
      have hjlt : j < gs.size := by
        rcases Nat.lt_or_ge j gs.size with hl | hl
        · exact hl
        · rw [(h.out j hl).2.2.1] at hj; cases hj
      have hji : j ≠ i := fun e => by rw [e, hpk] at hj; cases hj
      have hgj := Array.getElem?_eq_getElem hjlt
      have hwj : A.pr j ≠ .quit ∧ Waiting P B fin (A.pr j) (j == 0) (ow j) gs[j] w := by
        have hsj := h.stand j _ hgj
        by_cases e : A.pr j = .quit
        · have := (hsj.1 e).1; rw [hj] at this; cases this
        · exact ⟨e, (hsj.2 e).2.1 hj⟩
      obtain ⟨w1, w2⟩ := waits_of (i := i) (p := A.pr j) hji hgj hwj.2.blocked hwj.2.offers
      constructor
      · rintro ⟨c, v, z, k, p', e1, e2⟩
        obtain ⟨hk, hW⟩ := w2 c v p' e2
        rw [e1] at hp
        simp only [Proc.offers, Option.some.injEq, Prod.mk.injEq] at hp
        obtain ⟨rfl, rfl⟩ := hp
        obtain ⟨c2, e3, _, hnw⟩ := hno (scase c v z) (by simp)
        simp only [scase, Value.chan.injEq, Option.some.injEq] at e3
        subst e3
        exact hnw j hk hW
      · rintro ⟨c, v, z, k, p', e1, e2⟩
        have hW := w1 c v z k e1
        generalize A.pr i = pi at e2 hp
        cases e2 with
        | recv c z k k0 v =>
          simp only [Proc.offers, Option.some.injEq, Prod.mk.injEq] at hp
          obtain ⟨rfl, rfl⟩ := hp
          obtain ⟨c2, e3, _, hnw⟩ := hno (rcase c z) (by simp)
          simp only [rcase, Value.chan.injEq, Option.some.injEq] at e3
          subst e3
          exact hnw j 0 hW
        | fst c d zc zd kc kd v =>
          simp only [Proc.offers, Option.some.injEq, Prod.mk.injEq] at hp
          obtain ⟨rfl, rfl⟩ := hp
          obtain ⟨c2, e3, _, hnw⟩ := hno (rcase c zc) (by simp)
          simp only [rcase, Value.chan.injEq, Option.some.injEq] at e3
          subst e3
          exact hnw j 0 hW
        | snd c d zc zd kc kd v =>
          simp only [Proc.offers, Option.some.injEq, Prod.mk.injEq] at hp
          obtain ⟨rfl, rfl⟩ := hp
          obtain ⟨c2, e3, _, hnw⟩ := hno (rcase _ zd) (Array.mem_of_getElem? (i := 1) rfl)
          simp only [rcase, Value.chan.injEq, Option.some.injEq] at e3
          subst e3
          exact hnw j 0 hW
    · simp only [Array.append_empty]
      refine { h with stand := fun j y hj => ?_, out := fun j hj => ?_, shown := fun j hj c hc => ?_, tr := htr1 }
      · rcases set_cases hj with ⟨rfl, rfl⟩ | ⟨hne, hj⟩
        · refine ⟨fun e => absurd e hq, fun _ => ⟨by rw [hd1]; exact hd0 j hlt hq, fun _ => ?_, fun e => (by simp only [upd_same] at e; cases e)⟩⟩
          exact ⟨rfl, hp.symm, by rw [hp]; rfl, fun w₁ h₁ => (hT w₁ h₁).bare (by rw [hp]; rfl)⟩
        · simp only
          rw [upd_ne _ _ hne, hd1]
          exact h.stand j y hj
      · simp only [Array.size_setIfInBounds] at hj
        obtain ⟨a1, a2, a3, a4⟩ := h.out j hj
        exact ⟨by rw [hd1]; exact a1, a2, by simp only; rw [upd_ne _ _ (by omega)]; exact a3, a4⟩
      · by_cases e : j = i
        · subst e; exact hopen c hc
        · simp only at hj; rw [upd_ne _ _ e] at hj; exact h.shown j hj c hc
  | shut k c d cc hk hc hch hs =>
    rw [hset] at hr
    have hrecv : ∃ z k1 k0 y, A.pr i = .recv c z k1 k0 ∧ A.ch c = some (some y) ∧ Does P B fin k0 (i == 0) (ow i) ((bare g).finishComm P cs sh k cc.zero false) w := by
      cases hpr : A.pr i <;> simp [hpr, Proc.offers] at hp
      case send c' v z k' =>
        obtain ⟨rfl, rfl⟩ := hp
        cases k with
        | zero => simp [scase] at hk; subst hk; cases hs
        | succ k => simp at hk
      case recv c' z k1 k0 =>
        obtain ⟨rfl, rfl⟩ := hp
        cases k with
        | succ k => simp at hk
        | zero =>
          simp only [rcase, List.getElem?_toArray, List.getElem?_cons_zero, Option.some.injEq] at hk
          subst hk
          simp only [Value.chan.injEq, Option.some.injEq] at hc
          subst hc
          obtain ⟨x, hx⟩ := Option.isSome_iff_exists.1 (hw.recv i _ _ _ _ hpr)
          have := (h.chans c' x hx).2.unique hch
          obtain ⟨y, rfl⟩ := Option.isSome_iff_exists.1 this
          rw [hpr] at hatb
          unfold AtP at hatb
          obtain ⟨_, es', _, _, _, h2⟩ := hatb
          exact ⟨z, k1, k0, y, rfl, hx, h2⟩
      case sel c' d' zc zd kc kd =>
        obtain ⟨rfl, rfl⟩ := hp
        obtain ⟨h1, h2⟩ := hw.sel i _ _ _ _ _ _ hpr
        cases k with
        | zero =>
          simp only [rcase, List.getElem?_toArray, List.getElem?_cons_zero, Option.some.injEq] at hk
          subst hk
          simp only [Value.chan.injEq, Option.some.injEq] at hc
          subst hc
          have := (h.chans c' _ h1).2.unique hch
          cases this
        | succ k =>
          cases k with
          | succ k => simp at hk
          | zero =>
            simp only [rcase, List.getElem?_toArray, List.getElem?_cons_succ, List.getElem?_cons_zero, Option.some.injEq] at hk
            subst hk
            simp only [Value.chan.injEq, Option.some.injEq] at hc
            subst hc
            have := (h.chans d' _ h2).2.unique hch
            cases this
    obtain ⟨z, k1, k0, y, hpr, hcy, hdo⟩ := hrecv
    obtain ⟨n1, hn1⟩ := (hdo.rely (rely_at B (ow i) w d)).stand
    have htr2 := htr1.found (x := y) (y := i) (fy := (bare g).frame) (c := c) (by simp [hcy]) (by rw [hd1]; exact hd0 i hlt hq) (kn' := fun a b => A.kn a b ∨ (a = i ∧ b = y)) (fun _ _ h => h)
    have hd2 : ∀ j, Deaf (t ++ (MemOp.ofEvents i g.frame.fn g.frame.place es ++ #[opOf i (bare g).frame (.recvClosed c)])) j = Deaf t j := fun j => by
      rw [← Array.append_assoc, Go.ConcN.Deaf_still _ j _ fun op hop => ?_, hd1]
      simp only [List.mem_toArray, List.mem_cons, List.not_mem_nil, or_false] at hop
      subst hop
      exact ⟨by simp [opOf], by simp [opOf]⟩
    refine ⟨_, _, _, upd ns i n1, _, hr, by simp, .shut i c y z k1 k0 (fun a b => A.kn a b ∨ (a = i ∧ b = y)) hlt hpk hpr hcy (fun _ _ => Iff.rfl), ?_⟩
    have hAt := h.at d
    refine { stand := fun j x hj => ?_, out := fun j hj => ?_, low := hAt.low, disj := h.disj, chans := hAt.chans, shown := fun j hj c' hc' => ?_, room := hAt.room, tr := ?_, knq := fun a b hab => ?_, clq := fun c' y' hc' => ?_ }
    · rcases set_cases hj with ⟨rfl, rfl⟩ | ⟨hne, hj⟩
      · simp only
        rw [upd_same, hd2, hd0 j hlt hq, hpk, upd_same]
        exact hn1
      · simp only
        rw [upd_ne _ _ hne, hd2, upd_ne _ _ hne]
        exact hAt.stand j x hj
    · simp only [Array.size_setIfInBounds] at hj
      obtain ⟨a1, a2, a3, a4⟩ := h.out j hj
      exact ⟨by rw [hd2]; exact a1, by simp only; rw [upd_ne _ _ (by omega)]; exact a2, a3, a4⟩
    · have hji : j ≠ i := fun e => by subst e; simp only at hj; rw [hpk] at hj; cases hj
      simp only at hc'
      rw [upd_ne _ _ hji] at hc'
      exact h.shown j hj c' hc'
    · rw [← Array.append_assoc]
      refine htr2.less (fun x hx => ?_) (fun _ _ h => h) (fun _ _ h => h)
      by_cases e : x = i
      · subst e; exact hq
      · simp only at hx; rw [upd_ne _ _ e] at hx; exact hx
    · have hy := h.clq c y hcy
      have hqq : ∀ b, A.pr b = .quit → upd A.pr i k0 b = .quit := fun b hb => by
        have hbi : b ≠ i := fun e => hq (by rw [← e]; exact hb)
        rw [upd_ne _ _ hbi]; exact hb
      rcases hab with hab | ⟨_, rfl⟩
      · exact hqq b (h.knq a b hab)
      · exact hqq b hy
    · have hq' : A.pr y' = .quit := h.clq c' y' hc'
      have hyi : y' ≠ i := fun e => hq (by rw [← e]; exact hq')
      simp only
      rw [upd_ne _ _ hyi]
      exact hq'
  | send k c d s j hk cc v hkk hc hs hhp hW =>
    obtain ⟨hji, hjlt, hjk, hjq, gj, cs', sh', cc', hgj, hoj, hpj, hwj, hcc', hch', hsn'⟩ := h.waits hW
    have hj0 : (gs.setIfInBounds i ph)[j]? = some gj := by rw [Array.getElem?_setIfInBounds_ne (Ne.symm hji)]; exact hgj
    rw [finishPartner_at P _ hj0 hoj hk v] at hr
    have hnone : cc'.send = none := by cases e : cc'.send <;> simp_all
    rw [hcc', Option.map_some, Option.getD_some, hnone] at hr
    obtain ⟨z, k', hpr, hdo1⟩ := AtP.sent hatb hp hkk hc hs undef false
    obtain ⟨p', hget, hdo2⟩ := AtP.gets v (hwj.back w (.refl _ _ _)) hpj hcc' hch' hnone
    obtain ⟨ns', hI⟩ := h.meet (s := i) (r := j) (n := s + 1) (d := d) (kn' := fun a b => A.kn a b ∨ (a = j ∧ (A.kn i b ∨ (b = i ∧ k' = .quit)))) (gs' := ((gs.setIfInBounds i ph).setIfInBounds j (gj.finishComm P cs' sh' hk v true)).setIfInBounds i ((bare g).finishComm P cs sh k undef false))
      (t' := t ++ (MemOp.ofEvents i g.frame.fn g.frame.place es ++ meetOps (opOf i (bare g).frame) (opOf j ((gs.setIfInBounds i ph).getD j default).frame) c s)) hlt hjlt hpr hget (hw.send i _ _ _ _ hpr) (by simp) (by simp [hlt])
      (by rw [Array.getElem?_setIfInBounds_ne (Ne.symm hji), Array.getElem?_setIfInBounds_self_of_lt (by simpa using hjlt)]; rfl)
      (fun l h1 h2 => by rw [Array.getElem?_setIfInBounds_ne (Ne.symm h1), Array.getElem?_setIfInBounds_ne (Ne.symm h2), Array.getElem?_setIfInBounds_ne (Ne.symm h1)]) hdo1 hdo2
      (fun l => by rw [← Array.append_assoc, Go.ConcN.Deaf_still _ l _ fun op hop => (meetOps_mute i j _ _ c s op hop).2, hd1]) (fun _ _ => Iff.rfl)
      (by
        rw [← Array.append_assoc]
        exact htr1.meet (by rw [hd1]; exact hd0 i hlt hq) (by rw [hd1]; exact hd0 j hjlt hjq) fun a b hab => hab.imp id fun ⟨e1, e2⟩ => ⟨e1, e2.imp id (·.1)⟩)
    exact ⟨_, _, _, ns', _, hr, by simp, .meet i j c v z k' p' _ hlt hjlt (Ne.symm hji) hpr hget (.inr ⟨hpk, hjk⟩) (fun _ _ => Iff.rfl), hI⟩
  | recv k c d s j hk cl cc hkk hc hs hhp hW =>
    obtain ⟨hji, hjlt, hjk, hjq, gj, cs', sh', cc', hgj, hoj, hpj, hwj, hcc', hch', hsn'⟩ := h.waits hW
    have hj0 : (gs.setIfInBounds i ph)[j]? = some gj := by rw [Array.getElem?_setIfInBounds_ne (Ne.symm hji)]; exact hgj
    obtain ⟨v, hv⟩ := Option.isSome_iff_exists.1 hsn'
    have hov : offeredValue (gs.setIfInBounds i ph) j hk = v := by simp [offeredValue, hj0, hoj, hcc', hv]
    rw [finishPartner_at P _ hj0 hoj hk undef, hov] at hr
    rw [hcc', Option.map_some, Option.getD_some, hv] at hr
    obtain ⟨z, k', hpr, hdo1⟩ := AtP.sent (hwj.back w (.refl _ _ _)) hpj hcc' hch' hv undef false
    obtain ⟨p', hget, hdo2⟩ := AtP.gets v hatb hp hkk hc hs
    have hcl : cl = false := Chan.unique (w := w) ⟨s, hhp⟩ (h.chans c _ (hw.send j _ _ _ _ hpr)).2
    subst hcl
    obtain ⟨ns', hI⟩ := h.meet (s := j) (r := i) (n := s + 1) (d := d) (kn' := fun a b => A.kn a b ∨ (a = i ∧ (A.kn j b ∨ (b = j ∧ k' = .quit)))) (gs' := ((gs.setIfInBounds i ph).setIfInBounds j (gj.finishComm P cs' sh' hk undef false)).setIfInBounds i ((bare g).finishComm P cs sh k v true))
      (t' := t ++ (MemOp.ofEvents i g.frame.fn g.frame.place es ++ meetOps (opOf j ((gs.setIfInBounds i ph).getD j default).frame) (opOf i (bare g).frame) c s)) hjlt hlt hpr hget (hw.send j _ _ _ _ hpr) (by simp)
      (by rw [Array.getElem?_setIfInBounds_ne (Ne.symm hji), Array.getElem?_setIfInBounds_self_of_lt (by simpa using hjlt)]; rfl) (by simp [hlt])
      (fun l h1 h2 => by rw [Array.getElem?_setIfInBounds_ne (Ne.symm h2), Array.getElem?_setIfInBounds_ne (Ne.symm h1), Array.getElem?_setIfInBounds_ne (Ne.symm h2)]) hdo1 hdo2
      (fun l => by rw [← Array.append_assoc, Go.ConcN.Deaf_still _ l _ fun op hop => (meetOps_mute j i _ _ c s op hop).2, hd1]) (fun _ _ => Iff.rfl)
      (by
        rw [← Array.append_assoc]
        exact htr1.meet (by rw [hd1]; exact hd0 j hjlt hjq) (by rw [hd1]; exact hd0 i hlt hq) fun a b hab => hab.imp id fun ⟨e1, e2⟩ => ⟨e1, e2.imp id (·.1)⟩)
    exact ⟨_, _, _, ns', _, hr, by simp, .meet j i c v z k' p' _ hjlt hlt hji hpr hget (.inl ⟨hjk, hpk⟩) (fun _ _ => Iff.rfl), hI⟩
end
end Go.Gat
