/-
  A STEP OF A GOROUTINE OF A PLAIN PROGRAM HANGS ON THE TAPE BY ITS OWN DRAWS ALONE, leaves the goroutine as deaf as it was, and asks nothing of the machine but to go on, to communicate, to start a goroutine.
-/
import Derived.Test.YtjcplblnapcfcaaBrC
namespace Go.Gat

/-! ### frames -/
def itemOK : Item → Prop
  | .call .. => False
  | .extern row _ => row = printRow
  | _ => True
def FrameOK (fr : Frame) : Prop := ∀ it ∈ fr.todo, itemOK it
def FramesOK (l : List Frame) : Prop := ∀ fr ∈ l, FrameOK fr
def GorOK (g : Goroutine) : Prop := FrameOK g.frame ∧ FramesOK g.callers

theorem FrameOK.raise {fr : Frame} (h : FrameOK fr) (c : List PanicEntry) : FrameOK (fr.raise c) := by
  unfold Frame.raise
  split <;> exact h
theorem FrameOK.finish {fr : Frame} (h : FrameOK fr) (v : Value) : FrameOK (fr.finish v) := by
  unfold Frame.finish
  split
  all_goals first
    | exact h
    | (rename_i e
       unfold FrameOK at h ⊢
       rw [e] at h
       intro it hit
       simp only [List.mem_cons] at hit h
       first
         | exact h it (.inr hit)
         | (rcases hit with rfl | hit <;> first | trivial | exact h _ (.inr hit) | exact (h _ (.inl rfl)).elim))
theorem FrameOK.todo {fr : Frame} {k : List Item} (h : ∀ it ∈ k, itemOK it) : FrameOK { fr with todo := k } := h
theorem FrameOK.enter (P : Program) (f : FuncId) (args : Array Value) (k : CallKind) : FrameOK (Frame.enter P f args k) := by
  intro it hit
  simp [Frame.enter] at hit
  subst hit
  trivial
theorem FrameOK.round (l f : Nat) (t : Array Value) (a b : Code) (k : CallKind) : FrameOK (Frame.round l f t a b k) := by
  intro it hit
  simp [Frame.round] at hit
  rcases hit with rfl | rfl | rfl <;> trivial
theorem FrameOK.ofRow (P : Program) (args : Array Value) (k : CallKind) : FrameOK (Frame.ofRow P printRow args k) := by
  intro it hit
  simp [Frame.ofRow] at hit
  subst hit
  rfl
theorem exitTo_ok {id : Nat} : ∀ {k k' : List Item}, (∀ it ∈ k, itemOK it) → exitTo id k = some k' → ∀ it ∈ k', itemOK it
  | [], _, _, h => by simp [exitTo] at h
  | x :: k, k', hk, h => by
    have hk' : ∀ it ∈ k, itemOK it := fun it hit => hk it (by simp [hit])
    unfold exitTo at h
    split at h
    · rename_i heq
      simp only [List.cons.injEq] at heq
      obtain ⟨_, rfl⟩ := heq
      split at h
      · simp only [Option.some.injEq] at h; exact h ▸ hk'
      · exact exitTo_ok hk' h
    · rename_i heq
      simp only [List.cons.injEq] at heq
      obtain ⟨_, rfl⟩ := heq
      exact exitTo_ok hk' h
    · rename_i heq; cases heq
theorem gotoIn_ok {l : Nat} : ∀ {k k' : List Item}, (∀ it ∈ k, itemOK it) → gotoIn l k = some k' → ∀ it ∈ k', itemOK it
  | [], _, _, h => by simp [gotoIn] at h
  | x :: k, k', hk, h => by
    have hk' : ∀ it ∈ k, itemOK it := fun it hit => hk it (by simp [hit])
    unfold gotoIn at h
    split at h
    · rename_i heq
      simp only [List.cons.injEq] at heq
      obtain ⟨_, rfl⟩ := heq
      split at h
      · simp only [Option.some.injEq] at h
        subst h
        intro it hit
        simp only [List.mem_cons] at hit
        rcases hit with rfl | rfl | hit
        · trivial
        · trivial
        · exact hk' it hit
      · exact gotoIn_ok hk' h
    · rename_i heq
      simp only [List.cons.injEq] at heq
      obtain ⟨_, rfl⟩ := heq
      exact gotoIn_ok hk' h
    · rename_i heq; cases heq
theorem tryRecover_ok : ∀ {fr : Frame} {l : List Frame} {v : Value} {l' : List Frame}, FramesOK l → tryRecover fr l = some (v, l') → FramesOK l' := by
  intro fr l
  induction l generalizing fr with
  | nil => intro v l' _ h; unfold tryRecover at h; split at h <;> first | (rename_i e; cases e) | cases h
  | cons c l ih =>
    intro v l' hl h
    have hl' : FramesOK l := fun f hf => hl f (by simp [hf])
    unfold tryRecover at h
    split at h
    · rename_i heq
      simp only [List.cons.injEq] at heq
      obtain ⟨rfl, rfl⟩ := heq
      split at h
      · simp only [Option.some.injEq, Prod.mk.injEq] at h
        obtain ⟨_, rfl⟩ := h
        intro f hf
        simp only [List.mem_cons] at hf
        rcases hf with rfl | hf
        · exact hl c (by simp)
        · exact hl' f hf
      · cases h
    · rename_i heq
      simp only [List.cons.injEq] at heq
      obtain ⟨rfl, rfl⟩ := heq
      obtain ⟨⟨v1, l1⟩, h1, h2⟩ := Option.map_eq_some_iff.1 h
      simp only [Prod.mk.injEq] at h2
      obtain ⟨_, rfl⟩ := h2
      intro f hf
      simp only [List.mem_cons] at hf
      rcases hf with rfl | hf
      · exact hl f (by simp)
      · exact ih hl' h1 f hf
    · cases h
theorem tryRecoverLoop_ok : ∀ {l : List Frame} {n : Nat} {v : Value} {l' : List Frame}, FramesOK l → tryRecoverLoop n l = some (v, l') → FramesOK l' := by
  intro l
  induction l with
  | nil => intro n v l' _ h; simp [tryRecoverLoop] at h
  | cons c l ih =>
    intro n v l' hl h
    have hl' : FramesOK l := fun f hf => hl f (by simp [hf])
    unfold tryRecoverLoop at h
    obtain ⟨⟨v1, l1⟩, h1, h2⟩ := Option.map_eq_some_iff.1 h
    simp only [Prod.mk.injEq] at h2
    obtain ⟨_, rfl⟩ := h2
    have h3 : FramesOK l1 := by
      split at h1
      · exact ih hl' h1
      · split at h1
        · exact tryRecover_ok hl' h1
        · exact ih hl' h1
      · exact ih hl' h1
    intro f hf
    simp only [List.mem_cons] at hf
    rcases hf with rfl | hf
    · exact hl f (by simp)
    · exact h3 f hf

/-! ### a step as a function of the world -/
/-- 'τ' answers from 'd' on as 'w's tape answers from its count of draws on, up to what 'w'' has drawn. -/
def Agree (w w' : World) (τ : Nat → Question → Nat) (d : Nat) : Prop := ∀ j q, w.drawn + j < w'.drawn → τ (d + j) q = w.tape (w.drawn + j) q
/-- 'w'', its draws counted from 'd' on. -/
def sh (w w' : World) (τ : Nat → Question → Nat) (d : Nat) : World := re w' τ (d + (w'.drawn - w.drawn))
def Draws (w w' : World) : Prop := w.drawn ≤ w'.drawn ∧ w'.tape = w.tape
theorem Draws.refl (w : World) : Draws w w := ⟨Nat.le_refl _, rfl⟩
theorem Draws.trans {a b c : World} (h : Draws a b) (k : Draws b c) : Draws a c := ⟨Nat.le_trans h.1 k.1, k.2.trans h.2⟩
theorem sh_self (w : World) (τ : Nat → Question → Nat) (d : Nat) : sh w w τ d = re w τ d := by unfold sh; rw [Nat.sub_self]; rfl
theorem Agree.left {a b c : World} {τ : Nat → Question → Nat} {d : Nat} (h : Agree a c τ d) (hbc : Draws b c) : Agree a b τ d := fun j q hj => h j q (Nat.lt_of_lt_of_le hj hbc.1)
theorem Agree.right {a b c : World} {τ : Nat → Question → Nat} {d : Nat} (h : Agree a c τ d) (hab : Draws a b) : Agree b c τ (d + (b.drawn - a.drawn)) := fun j q hj => by
  have h1 := hab.1
  have h2 := h (b.drawn - a.drawn + j) q (by omega)
  rw [show a.drawn + (b.drawn - a.drawn + j) = b.drawn + j by omega] at h2
  rw [show d + (b.drawn - a.drawn) + j = d + (b.drawn - a.drawn + j) by omega, h2, hab.2]
theorem sh_sh {a b c : World} (hab : Draws a b) (hbc : Draws b c) (τ : Nat → Question → Nat) (d : Nat) : sh b c τ (d + (b.drawn - a.drawn)) = sh a c τ d := by
  have h1 := hab.1
  have h2 := hbc.1
  unfold sh
  rw [show d + (b.drawn - a.drawn) + (c.drawn - b.drawn) = d + (c.drawn - a.drawn) by omega]

/-- It neither runs nor sleeps. -/
def Asleep (g : Goroutine) : Prop := g.status ≠ .running ∧ ∀ t, g.status ≠ .sleeping t
/-- The step 'r' = F w. -/
def Res (F : World → GStep) (w : World) : GStep → Prop
  | .go g' w' es => (∀ t, g'.status ≠ .sleeping t) ∧ (g'.status = .running → Draws w w' ∧ Hears es ∧ GorOK g' ∧ ∀ τ d, Agree w w' τ d → F (re w τ d) = .go g' (sh w w' τ d) es)
  | .comm g' cs b s w' es => g'.status = .running ∧ Draws w w' ∧ Hears es ∧ GorOK g' ∧ ∀ τ d, Agree w w' τ d → F (re w τ d) = .comm g' cs b s (sh w w' τ d) es
  | .coroswitch g' c x w' es => Draws w w' ∧ Hears es ∧ GorOK g' ∧ ∀ τ d, Agree w w' τ d → F (re w τ d) = .coroswitch g' c x (sh w w' τ d) es
  | .spawn .. | .ended .. => True
  | _ => False
def Lawful (F : World → GStep) : Prop := ∀ w, Res F w (F w)

theorem lawful_go {g : Goroutine} (h : GorOK g) (hs : g.status = .running := by exact rfl) : Lawful fun w => .go g w := fun w => ⟨fun t e => (by rw [hs] at e; cases e), fun _ => ⟨.refl w, hears_nil, h, fun τ d _ => by rw [sh_self]⟩⟩
theorem lawful_ended {f : World → GStep} (h : ∀ w, ∃ o w' es, f w = .ended o w' es) : Lawful f := fun w => by
  obtain ⟨o, w', es, e⟩ := h w
  rw [e]; trivial
theorem lawful_asleep {f : World → GStep} (h : ∀ w, ∃ g w' es, f w = .go g w' es ∧ Asleep g) : Lawful f := fun w => by
  obtain ⟨g, w', es, e, hg⟩ := h w
  rw [e]; exact ⟨hg.2, fun x => absurd x hg.1⟩
theorem lawful_comm {g : Goroutine} {cs : Array CommCase} {b : Bool} {s : CommShape} (h : GorOK g) (hs : g.status = .running := by exact rfl) : Lawful fun w => .comm g cs b s w := fun w => ⟨hs, .refl w, hears_nil, h, fun τ d _ => by rw [sh_self]⟩
theorem lawful_coro {g : Goroutine} {c : Nat} {x : Bool} (h : GorOK g) : Lawful fun w => .coroswitch g c x w := fun w => ⟨.refl w, hears_nil, h, fun τ d _ => by rw [sh_self]⟩
theorem lawful_spawn {g g' : Goroutine} : Lawful fun w => .spawn g g' w := fun _ => trivial

/-- A run, and what stands behind it. -/
theorem Res.after {F K : World → GStep} {w w' : World} {es : Array Event} (hd : Draws w w') (hes : Hears es) (hK : Res K w' (K w'))
    (hF : ∀ τ d, Agree w w' τ d → F (re w τ d) = GStep.after es (K (sh w w' τ d))) : Res F w (GStep.after es (K w')) := by
  have key : ∀ w'' (hd' : Draws w' w'') τ d, Agree w w'' τ d → F (re w τ d) = GStep.after es (K (re w' τ (d + (w'.drawn - w.drawn)))) ∧ Agree w' w'' τ (d + (w'.drawn - w.drawn)) ∧ sh w' w'' τ (d + (w'.drawn - w.drawn)) = sh w w'' τ d :=
    fun w'' hd' τ d ha => ⟨hF τ d (ha.left hd'), ha.right hd, sh_sh hd hd' τ d⟩
  generalize hr : K w' = r at hK
  cases r with
  | go g' w'' es' =>
    refine ⟨hK.1, fun hg => ?_⟩
    obtain ⟨h1, h2, h3, h4⟩ := hK.2 hg
    refine ⟨hd.trans h1, hes.append h2, h3, fun τ d ha => ?_⟩
    obtain ⟨k1, k2, k3⟩ := key w'' h1 τ d ha
    rw [k1, h4 _ _ k2, k3]; rfl
  | comm g' cs b s w'' es' =>
    obtain ⟨h0, h1, h2, h3, h4⟩ := hK
    refine ⟨h0, hd.trans h1, hes.append h2, h3, fun τ d ha => ?_⟩
    obtain ⟨k1, k2, k3⟩ := key w'' h1 τ d ha
    rw [k1, h4 _ _ k2, k3]; rfl
  | coroswitch g' c x w'' es' =>
    obtain ⟨h1, h2, h3, h4⟩ := hK
    refine ⟨hd.trans h1, hes.append h2, h3, fun τ d ha => ?_⟩
    obtain ⟨k1, k2, k3⟩ := key w'' h1 τ d ha
    rw [k1, h4 _ _ k2, k3]; rfl
  | spawn g' c w'' es' => trivial
  | ended o w'' es' => trivial
  | _ => exact hK.elim

/-- THE RUN OF AN OPERATION, THEN WHAT ITS RESULT COMES TO: 'G' (a function of the result and of what was listed). -/
theorem lawful_run {α : Type} {P : Program} {L : α → Prop} {s : Sem α} (hs : Fine P L s) (E : Result α → Array Event → Array Event) (G : Result α → GStep)
    (hE : ∀ r es, r.live = true → Hears es → Hears (E r es)) (hEw : ∀ (r : Result α) f es, E (r.mapW f) es = E r es) (hE0 : ∀ h w es, h.on = true → h.live = false → Hears (E (.halt h w) es) ∨ ∃ o w' es', G (.halt h w) = .ended o w' es')
    (hok : ∀ a, L a → Lawful fun w => G (.ok a w)) (hhalt : ∀ h, Lawful fun w => G (.halt h w)) (hdead : ∀ h w, h.on = false → (∃ o w' es, G (.halt h w) = .ended o w' es) ∨ ∃ g w' es, G (.halt h w) = .go g w' es ∧ Asleep g) :
    Lawful fun w => GStep.after (E (s.runT P w #[]).1 (s.runT P w #[]).2) (G (s.runT P w #[]).1) := by
  intro w
  obtain ⟨h1, h2, h3⟩ := runT_re P s hs.firm w #[]
  have h4 := hs.hears w #[]
  have h5 := hs.leaf w #[]
  have hF : ∀ τ d, (s.runT P w #[]).1.on = true → Agree w (s.runT P w #[]).1.world τ d → s.runT P (re w τ d) #[] = ((s.runT P w #[]).1.mapW (fun w' => re w' τ (d + (w'.drawn - w.drawn))), (s.runT P w #[]).2) := fun τ d hon ha => h3 hon τ d ha
  clear h3
  show Res _ w (GStep.after (E (s.runT P w #[]).1 (s.runT P w #[]).2) (G (s.runT P w #[]).1))
  obtain ⟨r, es, hx⟩ : ∃ r es, s.runT P w #[] = (r, es) := ⟨_, _, rfl⟩
  rw [hx] at h1 h2 h4 h5 hF ⊢
  simp only at h1 h2 h4 h5 hF
  cases r with
  | ok a w' =>
    refine Res.after (K := fun w => G (.ok a w)) ⟨h1, h2⟩ (hE (.ok a w') es rfl ?_) (hok a (h5 a w' rfl) w') fun τ d ha => ?_
    · obtain ⟨new, e, hn⟩ := h4 rfl
      simp only [Array.empty_append] at e
      exact e ▸ hn
    · simp only [hF τ d rfl ha, mapW_ok]
      rw [show E (.ok a (re w' τ (d + (w'.drawn - w.drawn)))) es = E (.ok a w') es from hEw (.ok a w') (fun w' => re w' τ (d + (w'.drawn - w.drawn))) es]
      rfl
  | halt h w' =>
    by_cases hon : h.on = true
    · have hh : Hears (E (.halt h w') es) ∨ ∃ o w1 es1, G (.halt h w') = .ended o w1 es1 := by
        by_cases hl : h.live = true
        · refine .inl (hE (.halt h w') es hl ?_)
          obtain ⟨new, e, hn⟩ := h4 hl
          simp only [Array.empty_append] at e
          exact e ▸ hn
        · exact hE0 h w' es hon (by simpa using hl)
      rcases hh with hh | ⟨o, w1, es1, e⟩
      · refine Res.after (w' := w') (K := fun w => G (.halt h w)) ⟨h1, h2⟩ hh (hhalt h w') fun τ d ha => ?_
        simp only [hF τ d hon ha, mapW_halt]
        rw [show E (.halt h (re w' τ (d + (w'.drawn - w.drawn)))) es = E (.halt h w') es from hEw (.halt h w') (fun w' => re w' τ (d + (w'.drawn - w.drawn))) es]
        rfl
      · simp only [e]; trivial
    · rcases hdead h w' (by simpa using hon) with ⟨o, w1, es1, e⟩ | ⟨g, w1, es1, e, hg⟩
      · simp only [e]; trivial
      · simp only [e]; exact ⟨hg.2, fun x => absurd x hg.1⟩

end Go.Gat
