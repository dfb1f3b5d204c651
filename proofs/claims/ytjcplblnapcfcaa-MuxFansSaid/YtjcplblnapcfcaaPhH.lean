/-
  THE CROWD THAT CARRIES OUT PROTOCOL TERMS: a close; a new channel; a go statement.
-/
import Derived.Test.YtjcplblnapcfcaaPhG
set_option linter.unusedSimpArgs false
namespace Go.Gat
open Go.Conc
open Go.ConcN (sumTo upd sumTo_upd upd_ne upd_same)

section
variable {P : Program} {B T0 : Nat} {fin : List Value → Own → Goroutine → World → Prop} {A : Abs} {gs : Array Goroutine} {w : World} {t : Trace} {ow : Nat → Own} {ns : Nat → Nat}

theorem Waiting.woken {p : Proc} {m : Bool} {own : Own} {g : Goroutine} {w' : World} {c : Nat} (h : Waiting P B fin p m own g w) (hc : p.at c) (ho : Chan w' c true) : g.again w' = { g with status := .running } := by
  have hb := h.blocked
  have hof := h.offers
  obtain ⟨s, ho⟩ := ho
  unfold Goroutine.again
  cases p with
  | send c' v z k => cases hc; rw [hof, hb]; simp [Proc.offers, scase, ho]
  | recv c' z k k0 => cases hc; rw [hof, hb]; simp [Proc.offers, rcase, ho]
  | sel c' e zc zd kc kd =>
    rw [hof, hb]
    rcases hc with rfl | rfl <;> simp [Proc.offers, rcase, ho]
  | _ => exact hc.elim

theorem AtP.same {p : Proc} {m : Bool} {own : Own} {g g' : Goroutine} (h : AtP P B fin p m own g w) (hp : p.offers.isSome = true) (h1 : g'.frame = g.frame) (h2 : g'.callers = g.callers) (h3 : g'.dying = g.dying) (h4 : g'.status = .running) : AtP P B fin p m own g' w := by
  have hb : Gat.bare g' = Gat.bare g := by unfold Gat.bare; rw [h1, h2, h3]
  cases p <;> simp [Proc.offers] at hp
  all_goals
    unfold AtP at h ⊢
    rw [stepG_same h1 h2 h3, hb]
    exact ⟨h4, h.2⟩

theorem Inv.close (h : Inv P B T0 fin A gs w t ow ns) (hw : Wf gs.size A) {i c : Nat} {g : Goroutine} (hi : gs[i]? = some g) (hpk : A.pk i = false) (hp : A.pr i = .close c)
    (hat : AtP P B fin (.close c) (i == 0) (ow i) g w) (sl : Option (Nat × Nat)) :
    ∃ gs' w' ops ns' A', runT P (crowd gs w sl) i = (.next (crowd gs' w' sl), ops) ∧ gs'.size = gs.size ∧ ATo gs.size A A' gs.size ∧ Inv P B T0 fin A' gs' w' (t ++ ops) ow ns' := by
  have hq : A.pr i ≠ .quit := by rw [hp]; simp
  have hlt : i < gs.size := (Array.getElem?_eq_some_iff.1 hi).1
  have hch := hw.close i c hp
  obtain ⟨_, s, hs⟩ := h.chans c _ hch
  unfold AtP at hat
  obtain ⟨hrun, hmay, hat⟩ := hat
  obtain ⟨g', hst, n, hn⟩ := hat s hs
  have hr := runT_crowd_go (P := P) (sl := sl) hi hst
  have hu := MemOp.ofEvents_g i g.frame.fn g.frame.place (closeEvents c)
  have hd0 : Deaf t i = 0 := ((h.stand i g hi).2 hq).1
  have hd1 : ∀ j, Deaf (t ++ MemOp.ofEvents i g.frame.fn g.frame.place (closeEvents c)) j = Deaf t j := fun j => by
    by_cases e : j = i
    · subst e; rw [Deaf_own]; rfl
    · exact Deaf_other t (Ne.symm e) _ hu
  obtain ⟨hrel, hoth, hown⟩ := h.setChan ⟨_, hch⟩ w.drawn true s
  change (∀ j, Rely B (ow j) w (w.setChan c 0 #[] true s s false)) at hrel
  change (∀ c' x, c' ≠ c → A.ch c' = some x → Chan (w.setChan c 0 #[] true s s false) c' x.isSome) at hoth
  change Chan (w.setChan c 0 #[] true s s false) c true at hown
  have hg's : g'.status = .running ∨ g'.status = .finished := hn.status
  have hwk : ∀ o, Conc.woken P g g' (w.setChan c 0 #[] true s s false) o = o.again (w.setChan c 0 #[] true s s false) := fun o => by
    unfold Conc.woken
    rw [if_pos]
    rcases hg's with e | e <;> simp [hmay, e]
  obtain ⟨pk', hpk'⟩ : ∃ pk' : Nat → Bool, ∀ j, pk' j = true ↔ A.pk j = true ∧ ¬ (A.pr j).at c :=
    ⟨fun j => @decide (A.pk j = true ∧ ¬ (A.pr j).at c) (Classical.propDecidable _), fun j => @decide_eq_true_iff _ (Classical.propDecidable _)⟩
  refine ⟨_, _, _, upd ns i n, { A with pr := upd A.pr i .quit, ch := upd A.ch c (some (some i)), pk := pk' }, hr, by simp, .close i c pk' hlt hpk hp hpk', ?_⟩
  refine { stand := fun j y hj => ?_, out := fun j hj => ?_, low := fun j b hb => ?_, disj := h.disj, chans := fun c' x hc => ?_, shown := fun j hj c' hc' => ?_, room := Nat.le_trans h.room (by simp [World.setChan]), tr := ?_, knq := fun a b hab => ?_, clq := fun c' y hc' => ?_ }
  · rcases set_cases hj with ⟨rfl, rfl⟩ | ⟨hne, hj⟩
    · simp only [upd_same]
      have hpkj : pk' j = false := by
        cases e : pk' j with
        | false => rfl
        | true => have := ((hpk' j).1 e).1; rw [hpk] at this; cases this
      rw [hd1, hd0]
      exact ⟨fun _ => ⟨hpkj, hn⟩, fun e => absurd rfl e⟩
    · rw [Array.getElem?_map] at hj
      obtain ⟨o, ho, rfl⟩ := Option.map_eq_some_iff.1 hj
      rw [hwk]
      simp only
      rw [upd_ne _ _ hne, upd_ne _ _ hne, hd1]
      have hso := h.stand j o ho
      rcases hso.cases with hcal | ⟨hqj, hkj, hWj⟩
      · rw [again_calm hcal]
        have hkj : A.pk j = false := by
          by_cases e : A.pr j = .quit
          · exact (hso.1 e).1
          · cases hk : A.pk j with
            | false => rfl
            | true =>
              have := ((hso.2 e).2.1 hk).blocked
              rcases hcal with z | z <;> rw [z] at this <;> cases this
        have : pk' j = A.pk j := by
          rw [hkj]
          cases e : pk' j with
          | false => rfl
          | true => have := ((hpk' j).1 e).1; rw [hkj] at this; cases this
        rw [this]
        exact hso.rely (hrel j)
      · have hd0j := (hso.2 hqj).1
        by_cases hatc : (A.pr j).at c
        · rw [hWj.woken hatc hown]
          have : pk' j = false := by
            cases e : pk' j with
            | false => rfl
            | true => exact absurd hatc ((hpk' j).1 e).2
          rw [this]
          refine ⟨fun e => absurd e hqj, fun _ => ⟨hd0j, fun e => (by cases e), fun _ => ?_⟩⟩
          have hway : ∀ n, Way P B (j == 0) (AtP P B fin (A.pr j) (j == 0)) n (ow j) { o with status := .running } (w.setChan c 0 #[] true s s false) := fun n => by
            have h1 : ∀ w₁, Rely B (ow j) (w.setChan c 0 #[] true s s false) w₁ → AtP P B fin (A.pr j) (j == 0) (ow j) { o with status := .running } w₁ := fun w₁ h₁ =>
              (hWj.back w₁ ((hrel j).trans h₁)).same hWj.some rfl rfl rfl rfl
            cases n with
            | zero => exact h1
            | succ n => exact .inl h1
          exact hway _
        · rw [hWj.again fun c' hc' => hoth c' none (fun e => hatc (e ▸ hc')) (h.shown j hkj c' hc')]
          have : pk' j = true := (hpk' j).2 ⟨hkj, hatc⟩
          rw [this]
          have hso' := hso.rely (hrel j)
          rw [hkj] at hso'
          exact hso'
  · simp only [Array.size_setIfInBounds, Array.size_map] at hj
    obtain ⟨a1, a2, a3, a4⟩ := h.out j hj
    refine ⟨by rw [hd1]; exact a1, ?_, ?_, a4⟩
    · simp only; rw [upd_ne _ _ (by omega)]; exact a2
    · simp only
      cases e : pk' j with
      | false => rfl
      | true => have := ((hpk' j).1 e).1; rw [a3] at this; cases this
  · obtain ⟨a1, a2, a3⟩ := h.low j b hb
    refine ⟨a1, by simpa [World.setChan] using a2, ?_⟩
    simp only
    rw [upd_ne _ _ (fun e => by rw [e, hch] at a3; cases a3)]
    exact a3
  · simp only at hc
    by_cases e : c' = c
    · subst e
      rw [upd_same] at hc
      obtain rfl := Option.some.inj hc
      exact ⟨(h.chans c' _ hch).1, hown⟩
    · rw [upd_ne _ _ e] at hc
      exact ⟨(h.chans c' x hc).1, hoth c' x e hc⟩
  · simp only at hj hc' ⊢
    obtain ⟨hj1, hj2⟩ := (hpk' j).1 hj
    have hji : j ≠ i := fun e => by rw [e, hpk] at hj1; cases hj1
    rw [upd_ne _ _ hji] at hc'
    have hcc : c' ≠ c := fun e => hj2 (by rw [← e]; exact hc')
    rw [upd_ne _ _ hcc]
    exact h.shown j hj1 c' hc'
  · have h1 := h.tr.close (x := i) (fn := g.frame.fn) (pos := g.frame.place) (c := c) hq hd0 (fun z hz => hq (h.knq z i hz)) (fun c hc => hq (h.clq c i (by
        cases hcc : A.ch c with
        | none => rw [hcc] at hc; cases hc
        | some x => rw [hcc] at hc; simpa using hc))) (cl' := fun c' => (upd A.ch c (some (some i)) c').join) (fun c' y hy => by
      by_cases e : c' = c
      · subst e; rw [upd_same] at hy; exact .inr ⟨rfl, by simpa using hy.symm⟩
      · rw [upd_ne _ _ e] at hy; exact .inl hy)
    refine h1.less (fun x hx => ?_) (fun _ _ h => h) (fun _ _ h => h)
    by_cases e : x = i
    · subst e; exact hq
    · simp only at hx; rw [upd_ne _ _ e] at hx; exact hx
  · have hb := h.knq a b hab
    simp only
    by_cases e : b = i
    · subst e; exact upd_same _ _ _
    · rw [upd_ne _ _ e]; exact hb
  · simp only at hc' ⊢
    by_cases e : c' = c
    · subst e
      rw [upd_same] at hc'
      simp only [Option.some.injEq] at hc'
      subst hc'
      exact upd_same _ _ _
    · rw [upd_ne _ _ e] at hc'
      have hy := h.clq c' y hc'
      by_cases e2 : y = i
      · subst e2; exact upd_same _ _ _
      · rw [upd_ne _ _ e2]; exact hy

theorem Inv.chan (h : Inv P B T0 fin A gs w t ow ns) {i : Nat} {k : Nat → Proc} {g : Goroutine} (hi : gs[i]? = some g) (hpk : A.pk i = false) (hp : A.pr i = .chan k)
    (hat : AtP P B fin (.chan k) (i == 0) (ow i) g w) (sl : Option (Nat × Nat)) :
    ∃ gs' w' ops ns' A', runT P (crowd gs w sl) i = (.next (crowd gs' w' sl), ops) ∧ gs'.size = gs.size ∧ ATo gs.size A A' gs.size ∧ Inv P B T0 fin A' gs' w' (t ++ ops) ow ns' := by
  have hq : A.pr i ≠ .quit := by rw [hp]; simp
  have hlt : i < gs.size := (Array.getElem?_eq_some_iff.1 hi).1
  unfold AtP at hat
  obtain ⟨hrun, g', hst, hdo⟩ := hat
  have hr := runT_crowd_go (P := P) (sl := sl) hi hst
  have hd0 : Deaf t i = 0 := ((h.stand i g hi).2 hq).1
  have hold : ∀ b, b < w.heap.size → (w.heap.push (.chan 0 #[] false 0 0 false))[b]? = w.heap[b]? := fun b hb => by
    rw [Array.getElem?_push]
    rw [if_neg (by omega)]
  have hnew : A.ch w.heap.size = none := by
    cases hc : A.ch w.heap.size with
    | none => rfl
    | some x =>
      obtain ⟨_, s, hs⟩ := h.chans _ x hc
      have := (Array.getElem?_eq_some_iff.1 hs).1
      omega
  have hoth : ∀ c x, A.ch c = some x → Chan { w with heap := w.heap.push (.chan 0 #[] false 0 0 false) } c x.isSome := fun c x hc => by
    obtain ⟨_, s, hs⟩ := h.chans c x hc
    exact ⟨s, by show (w.heap.push _)[c]? = _; rw [hold c (Array.getElem?_eq_some_iff.1 hs).1, hs]⟩
  rw [h.woken (fun c hc => hoth c none hc)] at hr
  have hops : MemOp.ofEvents i g.frame.fn g.frame.place #[] = #[] := by simp [MemOp.ofEvents]
  rw [hops] at hr
  have hrel : ∀ j, Rely B (ow j) w { w with heap := w.heap.push (.chan 0 #[] false 0 0 false) } := fun j => ⟨by simp, fun b _ hb => hold b hb, rfl, rfl⟩
  obtain ⟨n, hn⟩ := Does.stand (p := k w.heap.size) hdo
  refine ⟨_, _, _, upd ns i n, _, hr, by simp, .chan i w.heap.size k hlt hpk hp hnew, ?_⟩
  rw [Array.append_empty]
  refine { stand := fun j y hj => ?_, out := fun j hj => ?_, low := fun j b hb => ?_, disj := h.disj, chans := fun c' x hc => ?_, shown := fun j hj c' hc' => ?_, room := Nat.le_trans h.room (by simp), tr := ?_, knq := fun a b hab => ?_, clq := fun c' y hc' => ?_ }
  · rcases set_cases hj with ⟨rfl, rfl⟩ | ⟨hne, hj⟩
    · simp only [upd_same]
      rw [hd0, hpk]
      exact hn
    · simp only
      rw [upd_ne _ _ hne, upd_ne _ _ hne]
      exact (h.stand j y hj).rely (hrel j)
  · simp only [Array.size_setIfInBounds] at hj
    obtain ⟨a1, a2, a3, a4⟩ := h.out j hj
    exact ⟨a1, by simp only; rw [upd_ne _ _ (by omega)]; exact a2, a3, a4⟩
  · obtain ⟨a1, a2, a3⟩ := h.low j b hb
    refine ⟨a1, by simp; omega, ?_⟩
    simp only
    rw [upd_ne _ _ (by omega)]
    exact a3
  · simp only at hc
    by_cases e : c' = w.heap.size
    · subst e
      rw [upd_same] at hc
      obtain rfl := Option.some.inj hc
      exact ⟨h.room, 0, by show (w.heap.push _)[w.heap.size]? = _; simp⟩
    · rw [upd_ne _ _ e] at hc
      exact ⟨(h.chans c' x hc).1, hoth c' x hc⟩
  · simp only at hj hc' ⊢
    have hji : j ≠ i := fun e => by rw [e, hpk] at hj; cases hj
    rw [upd_ne _ _ hji] at hc'
    have h1 := h.shown j hj c' hc'
    rw [upd_ne _ _ (fun e => by rw [e, hnew] at h1; cases h1)]
    exact h1
  · refine h.tr.less (fun x hx => ?_) (fun _ _ h => h) (fun c' y hy => ?_)
    · by_cases e : x = i
      · subst e; exact hq
      · simp only at hx; rw [upd_ne _ _ e] at hx; exact hx
    · by_cases e : c' = w.heap.size
      · subst e; simp only [upd_same] at hy; cases hy
      · simp only at hy; rw [upd_ne _ _ e] at hy; exact hy
  · have hb := h.knq a b hab
    have hbi : b ≠ i := fun e => hq (by rw [← e]; exact hb)
    simp only
    rw [upd_ne _ _ hbi]; exact hb
  · simp only at hc' ⊢
    have hcc : c' ≠ w.heap.size := fun e => by rw [e, upd_same] at hc'; cases hc'
    rw [upd_ne _ _ hcc] at hc'
    have hy := h.clq c' y hc'
    have hyi : y ≠ i := fun e => hq (by rw [← e]; exact hy)
    rw [upd_ne _ _ hyi]; exact hy

theorem Inv.go (h : Inv P B T0 fin A gs w t ow ns) (hw : Wf gs.size A) {ch k : Proc} {g : Goroutine} (hi : gs[0]? = some g) (hpk : A.pk 0 = false) (hp : A.pr 0 = .go ch k)
    (hat : AtP P B fin (.go ch k) true (ow 0) g w) (sl : Option (Nat × Nat)) :
    ∃ gs' w' ops ns' A', runT P (crowd gs w sl) 0 = (.next (crowd gs' w' sl), ops) ∧ gs'.size = gs.size + 1 ∧ ATo gs.size A A' (gs.size + 1) ∧ Inv P B T0 fin A' gs' w' (t ++ ops) ow ns' := by
  have hq : A.pr 0 ≠ .quit := by rw [hp]; simp
  have hlt : 0 < gs.size := (Array.getElem?_eq_some_iff.1 hi).1
  unfold AtP at hat
  obtain ⟨hrun, g', cg, es, hes, hst, hrun', hdo, hdc⟩ := hat
  have hr := runT_crowd_spawn (P := P) (sl := sl) hi hst
  have hu := MemOp.ofEvents_g 0 g.frame.fn g.frame.place es
  have hd0 : Deaf t 0 = 0 := ((h.stand 0 g hi).2 hq).1
  have hdn : Deaf t gs.size = 0 := (h.out gs.size (Nat.le_refl _)).1
  have hd1 : ∀ j, Deaf (t ++ MemOp.ofEvents 0 g.frame.fn g.frame.place es) j = Deaf t j := fun j => by
    by_cases e : j = 0
    · subst e; rw [Deaf_own, deaf_ok hes]
    · exact Deaf_other t (Ne.symm e) _ hu
  have hops : ((MemOp.ofEvents 0 g.frame.fn g.frame.place es).push { g := 0, fn := g.frame.fn, pos := g.frame.place, act := .go gs.size } |>.push { g := gs.size, fn := cg.frame.fn, pos := g.frame.place, act := .start }) =
      MemOp.ofEvents 0 g.frame.fn g.frame.place es ++ #[{ g := 0, fn := g.frame.fn, pos := g.frame.place, act := .go gs.size }, { g := gs.size, fn := cg.frame.fn, pos := g.frame.place, act := .start }] := by
    apply Array.ext'
    simp
  rw [hops] at hr
  have hd2 : ∀ j, Deaf (t ++ (MemOp.ofEvents 0 g.frame.fn g.frame.place es ++ #[{ g := 0, fn := g.frame.fn, pos := g.frame.place, act := .go gs.size }, { g := gs.size, fn := cg.frame.fn, pos := g.frame.place, act := .start }])) j = Deaf t j := fun j => by
    rw [← Array.append_assoc, Go.ConcN.Deaf_still _ j _ fun op hop => ?_, hd1]
    simp only [List.mem_toArray, List.mem_cons, List.not_mem_nil, or_false] at hop
    rcases hop with rfl | rfl <;> exact ⟨by simp, by simp⟩
  have htr1 : TInv B T0 ow (fun i => A.pr i ≠ .quit) A.kn (fun c => (A.ch c).join) (t ++ MemOp.ofEvents 0 g.frame.fn g.frame.place es) := by
    have h1 := h.tr.own (x := 0) (own' := ow 0) (fn := g.frame.fn) (pos := g.frame.place) hq hes (fun _ h => h) (fun y b hy hb hb' => h.disj y 0 b hy hb hb') (fun y b hb => (h.low y b hb).1) (fun b hb => (h.low 0 b hb).1)
      (fun z hz => hq (h.knq z 0 hz)) (fun c hc => hq (h.clq c 0 (by
        cases hcc : A.ch c with
        | none => rw [hcc] at hc; cases hc
        | some x => rw [hcc] at hc; simpa using hc)))
    rw [show (fun y => if y = 0 then ow 0 else ow y) = ow from funext fun y => by split <;> simp_all] at h1
    exact h1
  have htr2 := htr1.fork (k := gs.size) (x := { g := 0, fn := g.frame.fn, pos := g.frame.place, act := .go gs.size }) (y := { g := gs.size, fn := cg.frame.fn, pos := g.frame.place, act := .start }) ⟨rfl, rfl⟩ ⟨rfl, rfl⟩ (by rw [hd1]; exact hd0) (by rw [hd1]; exact hdn) hq
  obtain ⟨n1, hn1⟩ := Does.stand (p := k) hdo
  obtain ⟨n2, hn2⟩ := Does.stand (p := ch) hdc
  have hown : ow gs.size = fun _ => False := funext fun b => propext ⟨fun hb => (h.out gs.size (Nat.le_refl _)).2.2.2 b hb, False.elim⟩
  have hn0 : gs.size ≠ 0 := by omega
  refine ⟨_, _, _, upd (upd ns 0 n1) gs.size n2, _, hr, by simp, .go ch k (fun a b => A.kn a b ∧ b ≠ gs.size) hlt hpk hp (fun _ _ => Iff.rfl), ?_⟩
  refine { stand := fun j y hj => ?_, out := fun j hj => ?_, low := h.low, disj := h.disj, chans := h.chans, shown := fun j hj c' hc' => ?_, room := h.room, tr := ?_, knq := fun a b hab => ?_, clq := fun c' y hc' => ?_ }
  · rw [Array.getElem?_push] at hj
    split at hj
    · rename_i e
      simp only [Array.size_setIfInBounds] at e
      subst e
      obtain rfl := Option.some.inj hj
      simp only [upd_same]
      rw [hd2, hdn, (h.out gs.size (Nat.le_refl _)).2.2.1, hown, show (gs.size == 0) = false from by simpa using hn0]
      exact hn2
    · rename_i e
      simp only [Array.size_setIfInBounds] at e
      simp only
      rw [upd_ne _ _ e, upd_ne _ _ e, hd2]
      rcases set_cases hj with ⟨rfl, rfl⟩ | ⟨hne, hj⟩
      · rw [upd_same, upd_same, hd0, hpk]
        exact hn1
      · rw [upd_ne _ _ hne, upd_ne _ _ hne]
        exact h.stand j y hj
  · simp only [Array.size_push, Array.size_setIfInBounds] at hj
    obtain ⟨a1, a2, a3, a4⟩ := h.out j (by omega)
    exact ⟨by rw [hd2]; exact a1, by simp only; rw [upd_ne _ _ (by omega), upd_ne _ _ (by omega)]; exact a2, a3, a4⟩
  · have hj0 : j ≠ 0 := fun e => by simp only at hj; rw [e, hpk] at hj; cases hj
    have hjn : j ≠ gs.size := fun e => by simp only at hj; rw [e, (h.out gs.size (Nat.le_refl _)).2.2.1] at hj; cases hj
    simp only at hc' hj ⊢
    rw [upd_ne _ _ hjn, upd_ne _ _ hj0] at hc'
    exact h.shown j hj c' hc'
  · rw [← Array.append_assoc]
    refine htr2.less (fun x hx => ?_) (fun _ _ h => h.1) (fun _ _ h => h)
    by_cases e : x = gs.size
    · exact .inr e
    · refine .inl ?_
      simp only at hx
      rw [upd_ne _ _ e] at hx
      by_cases e0 : x = 0
      · subst e0; exact hq
      · rw [upd_ne _ _ e0] at hx; exact hx
  · have hb := h.knq a b hab.1
    have hb0 : b ≠ 0 := fun e => hq (by rw [← e]; exact hb)
    have hbn : b ≠ gs.size := hab.2
    simp only
    rw [upd_ne _ _ hbn, upd_ne _ _ hb0]; exact hb
  · have hy := h.clq c' y hc'
    have hy0 : y ≠ 0 := fun e => hq (by rw [← e]; exact hy)
    have hyn : y ≠ gs.size := fun e => hw.cl c' (by rw [← e]; exact hc')
    simp only
    rw [upd_ne _ _ hyn, upd_ne _ _ hy0]; exact hy
end
end Go.Gat
