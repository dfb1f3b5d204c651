/-
  EVERY STEP OF A GOROUTINE OF A PLAIN PROGRAM IS LAWFUL (YtjcplblnapcfcaaBrD.lean): operations, calls, returns, panics and their report.
-/
import Derived.Test.YtjcplblnapcfcaaBrD
set_option linter.unusedSimpArgs false
namespace Go.Gat

theorem after_nil (r : GStep) : GStep.after #[] r = r := by cases r <;> simp [GStep.after]
theorem after_after (a b : Array Event) (r : GStep) : GStep.after a (GStep.after b r) = GStep.after (a ++ b) r := by cases r <;> simp [GStep.after]
theorem seen_nil (P : Program) (fn : FuncId) : seen P fn #[] = #[] := by simp [seen]

/-- A run whose accesses are dropped. -/
theorem lawful_run0 {α : Type} {P : Program} {s : Sem α} (hs : s.firm P) (G : Result α → GStep)
    (hok : ∀ a, Lawful fun w => G (.ok a w)) (hhalt : ∀ h, Lawful fun w => G (.halt h w)) (hdead : ∀ h w, h.on = false → (∃ o w' es, G (.halt h w) = .ended o w' es) ∨ ∃ g w' es, G (.halt h w) = .go g w' es ∧ Asleep g) :
    Lawful fun w => G (s.run P w) := by
  intro w
  obtain ⟨h1, h2, h3⟩ := runT_re P s hs w #[]
  have hF : ∀ τ d, (s.runT P w #[]).1.on = true → Agree w (s.runT P w #[]).1.world τ d → s.run P (re w τ d) = (s.runT P w #[]).1.mapW (fun w' => re w' τ (d + (w'.drawn - w.drawn))) := fun τ d hon ha => by
    rw [← Sem.runT_fst P s (re w τ d) #[], h3 hon τ d ha]
  clear h3
  show Res _ w (G (s.run P w))
  rw [← Sem.runT_fst P s w #[], ← after_nil (G _)]
  obtain ⟨r, es, hx⟩ : ∃ r es, s.runT P w #[] = (r, es) := ⟨_, _, rfl⟩
  rw [hx] at h1 h2 hF ⊢
  simp only at h1 h2 hF
  cases r with
  | ok a w' =>
    refine Res.after (K := fun w => G (.ok a w)) ⟨h1, h2⟩ hears_nil (hok a w') fun τ d ha => ?_
    simp only [hF τ d rfl ha, mapW_ok, after_nil]
    rfl
  | halt h w' =>
    by_cases hon : h.on = true
    · refine Res.after (w' := w') (K := fun w => G (.halt h w)) ⟨h1, h2⟩ hears_nil (hhalt h w') fun τ d ha => ?_
      simp only [hF τ d hon ha, mapW_halt, after_nil]
      rfl
    · rw [after_nil]
      rcases hdead h w' (by simpa using hon) with ⟨o, w1, es1, e⟩ | ⟨g, w1, es1, e, hg⟩
      · simp only [e]; trivial
      · simp only [e]; exact ⟨hg.2, fun x => absurd x hg.1⟩

section
variable {P : Program} {main : Bool} {fr : Frame} {callers : List Frame} {dying : Option Dying}

theorem framesOK_nil : FramesOK [] := fun _ h => by cases h
theorem FramesOK.cons {fr : Frame} {l : List Frame} (h : FrameOK fr) (k : FramesOK l) : FramesOK (fr :: l) := fun f hf => by
  simp only [List.mem_cons] at hf
  rcases hf with rfl | hf
  · exact h
  · exact k f hf
theorem FramesOK.head {fr : Frame} {l : List Frame} (h : FramesOK (fr :: l)) : FrameOK fr := h fr (by simp)
theorem FramesOK.tail {fr : Frame} {l : List Frame} (h : FramesOK (fr :: l)) : FramesOK l := fun f hf => h f (by simp [hf])

theorem lawful_doReturn (hf : FrameOK fr) (hc : FramesOK callers) (v : Value) : Lawful fun w => doReturn P main fr callers dying v w := by
  unfold doReturn
  split
  · split
    · exact lawful_go ⟨(hc.head).finish v, hc.tail⟩
    · exact lawful_go ⟨(hc.head).finish v, hc.tail⟩
    · exact lawful_go ⟨hc.head, hc.tail⟩
    · refine lawful_go ⟨?_, hc.tail⟩
      dsimp only
      split
      · split <;> exact hc.head
      · exact hc.head
  · split
    · exact lawful_go ⟨hf, framesOK_nil⟩
    · exact lawful_ended fun w => ⟨_, _, _, rfl⟩
    · split
      · exact lawful_asleep fun w => ⟨_, _, _, rfl, by simp [Asleep]⟩
      · split
        · exact lawful_go ⟨FrameOK.enter _ _ _ _, framesOK_nil⟩
        · exact lawful_ended fun w => ⟨_, _, _, rfl⟩

theorem c_mapM {α β : Type} (l : List α) (f : α → Sem β) (hf : ∀ a, Calm (f a)) : Calm (l.mapM f) := inferInstance
instance (l : List PanicEntry) (b : Bool) : Calm (reportChain l b) := by
  induction l generalizing b with
  | nil => unfold reportChain; infer_instance
  | cons e l ih =>
    unfold reportChain
    repeat' (first | infer_instance | (exact ih _) | (intro _) | (refine c_bind _ _ ?_ ?_) | split | (dsimp only))
instance (s : ByteArray) : Calm (withAddress s) := by unfold withAddress; infer_instance

theorem lawful_dieOf (hf : FrameOK fr) (a : List ByteArray) (m : String) (b : Bool) : Lawful fun w => dieOf fr a m b w := lawful_go ⟨hf, framesOK_nil⟩
theorem lawful_endThrow (hf : FrameOK fr) (m : String) : Lawful fun w => endThrow fr m w := lawful_dieOf hf _ _ _
theorem lawful_endPrinting (hf : FrameOK fr) (v : Value) : Lawful fun w => endPrinting P fr v w := by
  unfold endPrinting
  dsimp only
  split
  · exact lawful_endThrow hf _
  · exact lawful_ended fun w => ⟨_, _, _, rfl⟩

theorem lawful_endFatal (hf : FrameOK fr) (m : String) : Lawful fun w => endFatal P fr callers dying m w := by
  unfold endFatal
  dsimp only
  refine lawful_run0 (P := P) (s := _) ?_ (fun r => match r with
    | .ok (texts, tabs) w => dieOf fr (panicPieces texts ++ tabs) m true w
    | .halt (.unsupported u) w => .ended (.unsupported u "") w
    | .halt _ w => .ended (.stuck "the report of a panic" "") w) ?_ ?_ ?_
  · refine calm_firm (L := fun _ => True) P _ (@Calm.out _ _ ?_)
    repeat' (first | infer_instance | (intro _) | (refine c_bind _ _ ?_ ?_) | (refine c_ite _ _ _ ?_ ?_) | (refine c_mapM _ _ ?_) | split | (dsimp only))
  · rintro ⟨t, b⟩; exact lawful_dieOf hf _ _ _
  · intro h; cases h <;> exact lawful_ended fun w => ⟨_, _, _, rfl⟩
  · intro h w _; exact .inl (by cases h <;> exact ⟨_, _, _, rfl⟩)

theorem endWith_ended (w : World) (fd : Nat) (t : ByteArray) (o : Outcome) : ∃ o' w' es, endWith w fd t o = .ended o' w' es := by
  unfold endWith
  dsimp only
  split
  · split <;> exact ⟨_, _, _, rfl⟩
  · exact ⟨_, _, _, rfl⟩
  · exact ⟨_, _, _, rfl⟩

theorem found_re (w : World) (τ : Nat → Question → Nat) (d : Nat) : ∀ n f, P.found (re w τ d) n f = P.found w n f := by
  intro n
  induction n with
  | zero => intro f; rfl
  | succ n ih => intro f; unfold Program.found; simp only [ih]; rfl
theorem brought_re (w : World) (τ : Nat → Question → Nat) (d : Nat) : ∀ n l m, P.brought (re w τ d) n l m = P.brought w n l m := by
  intro n
  induction n with
  | zero => intro l m; rfl
  | succ n ih => intro l m; cases l with
    | nil => rfl
    | cons f l => unfold Program.brought; simp only [ih]; rfl

theorem framesOK_enters (l : List FuncId) (k : CallKind) {m : List Frame} (h : FramesOK m) : FramesOK (l.map (Frame.enter P · #[] k) ++ m) := fun f hf => by
  simp only [List.mem_append, List.mem_map] at hf
  rcases hf with ⟨x, _, rfl⟩ | hf
  · exact FrameOK.enter _ _ _ _
  · exact h f hf

theorem Res.congr {F K : World → GStep} {w : World} (h : ∀ τ d, F (re w τ d) = K (re w τ d)) {r : GStep} (hr : Res K w r) : Res F w r := by
  cases r with
  | go g w' es => exact ⟨hr.1, fun hg => let ⟨a, b, c, k⟩ := hr.2 hg; ⟨a, b, c, fun τ d ha => (h τ d).trans (k τ d ha)⟩⟩
  | comm g cs b s w' es => exact let ⟨z, a, b, c, k⟩ := hr; ⟨z, a, b, c, fun τ d ha => (h τ d).trans (k τ d ha)⟩
  | coroswitch g c x w' es => exact let ⟨a, b, c, k⟩ := hr; ⟨a, b, c, fun τ d ha => (h τ d).trans (k τ d ha)⟩
  | spawn g c w' es => trivial
  | ended o w' es => trivial
  | _ => exact hr.elim
/-- What is looked at of the world is not its tape. -/
theorem lawful_blind {α : Type} (x : World → α) (hx : ∀ w τ d, x (re w τ d) = x w) (K : α → World → GStep) (hK : ∀ a, Lawful (K a)) : Lawful fun w => K (x w) w :=
  fun w => Res.congr (K := K (x w)) (fun τ d => by simp only [hx]) (hK (x w) w)
theorem lawful_heap {g : Goroutine} (h : GorOK g) (H : Array Obj) (hs : g.status = .running := by exact rfl) : Lawful fun w => .go g { w with heap := H } := fun w => ⟨fun t e => (by rw [hs] at e; cases e), fun _ => ⟨⟨Nat.le_refl _, rfl⟩, hears_nil, h, fun τ d _ => by
  unfold sh
  simp only [Nat.sub_self, Nat.add_zero]
  rfl⟩⟩

/-- Cases on what is looked at of the world. -/
theorem lawful_cases {α : Type} (x : World → α) (hx : ∀ w τ d, x (re w τ d) = x w) {F : World → GStep} (h : ∀ a, ∃ K, Lawful K ∧ ∀ w, x w = a → F w = K w) : Lawful F := fun w => by
  obtain ⟨K, hK, e⟩ := h (x w)
  rw [e w rfl]
  exact Res.congr (fun τ d => e (re w τ d) (hx w τ d)) (hK w)

theorem lawful_ite (c : World → Bool) (hc : ∀ w τ d, c (re w τ d) = c w) {F G : World → GStep} (hF : Lawful F) (hG : Lawful G) : Lawful fun w => if c w = true then F w else G w := by
  refine lawful_cases c hc fun b => ?_
  cases b with
  | true => exact ⟨F, hF, fun w hw => by simp only [hw, if_true]⟩
  | false => exact ⟨G, hG, fun w hw => by simp [hw]⟩
theorem lawful_found {N T R E : World → GStep} {n : Nat} {f : FuncId} {k : Bool} {A B : Prop} [Decidable A] [Decidable B] {g : Nat} (hN : Lawful N) (hT : Lawful T) (hR : Lawful R) (hE : ∀ w, ∃ o w' es, E w = .ended o w' es) :
    Lawful fun w => match P.found w n f, k with
      | .unknown, _ => R w
      | .either, true => T w
      | .notYet, true => R w
      | .notYet, false => N w
      | .either, false => if A then T w else if B then N w else match (choose (.early g)).run P w with
        | .ok 0 w => N w
        | .ok _ w => T w
        | .halt _ w => E w := by
  refine lawful_cases (fun w => P.found w n f) (fun w τ d => by simp only [found_re]) fun o => ?_
  cases o with
  | unknown => exact ⟨R, hR, fun w hw => by simp only [hw]⟩
  | notYet => cases k with
    | true => exact ⟨R, hR, fun w hw => by simp only [hw]⟩
    | false => exact ⟨N, hN, fun w hw => by simp only [hw]⟩
  | either => cases k with
    | true => exact ⟨T, hT, fun w hw => by simp only [hw]⟩
    | false =>
      by_cases hA : A
      · exact ⟨T, hT, fun w hw => by simp only [hw, if_pos hA]⟩
      by_cases hB : B
      · exact ⟨N, hN, fun w hw => by simp only [hw, if_neg hA, if_pos hB]⟩
      refine ⟨_, lawful_run0 (P := P) (s := choose (.early g)) (fun _ => trivial) (fun r => match r with
        | .ok 0 w => N w
        | .ok _ w => T w
        | .halt _ w => E w) (fun a => ?_) (fun h => lawful_ended hE) (fun h w _ => .inl (hE w)), fun w hw => by simp only [hw, if_neg hA, if_neg hB]⟩
      cases a with
      | zero => exact hN
      | succ n => exact hT

theorem lawful_early (hf : FrameOK fr) (hc : FramesOK callers) (g : Nat) : Lawful fun w => early P fr callers dying g w := by
  have hnot : Lawful fun w : World => (match w.heap[g]? with
      | some (.pending c elem) => GStep.go { frame := fr, callers, status := .running, dying } { w with heap := w.heap.setIfInBounds g (.cells c elem) }
      | _ => .ended (.stuck "early: the variable does not wait" (fr.pos P)) w) := by
    refine lawful_blind (fun w => w.heap) (fun w τ d => rfl) (fun H w => match H[g]? with
      | some (.pending c elem) => GStep.go { frame := fr, callers, status := .running, dying } { w with heap := H.setIfInBounds g (.cells c elem) }
      | _ => .ended (.stuck "early: the variable does not wait" (fr.pos P)) w) (fun H => ?_)
    split
    · exact lawful_heap ⟨hf, hc⟩ _
    · exact lawful_ended fun w => ⟨_, _, _, rfl⟩
  have hthere : ∀ f, Lawful fun w : World => GStep.go { frame := Frame.enter P f #[] .early, callers := (if (P.code? f).any P.plainData then (P.brought w (2 * P.funcs.size + 1) [f] []).drop 1 else []).map (Frame.enter P · #[] .early) ++ fr :: callers, status := .running, dying } w := fun f =>
    lawful_blind (fun w => if (P.code? f).any P.plainData then (P.brought w (2 * P.funcs.size + 1) [f] []).drop 1 else []) (fun w τ d => by simp only [brought_re]) (fun l w => GStep.go { frame := Frame.enter P f #[] .early, callers := l.map (Frame.enter P · #[] .early) ++ fr :: callers, status := .running, dying } w)
      fun l => lawful_go ⟨FrameOK.enter _ _ _ _, framesOK_enters _ _ (.cons hf hc)⟩
  unfold early
  dsimp only
  split
  · exact hnot
  split
  · exact lawful_ended fun w => ⟨_, _, _, rfl⟩
  rename_i f _
  split
  · exact hnot
  refine lawful_ite (fun w => (((P.code? f).bind fun c => (readies c).getLast?).bind w.shape?).isSome) (fun w τ d => rfl) hnot ?_
  exact lawful_found (R := fun w => .ended (.unsupported (.initOrder g) (fr.pos P)) w) (E := fun w => GStep.ended (.stuck "early" (fr.pos P)) w) hnot (hthere f) (lawful_ended fun w => ⟨_, _, _, rfl⟩) (fun w => ⟨_, _, _, rfl⟩)

end
end Go.Gat
