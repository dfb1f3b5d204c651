/-
  EVERY STEP OF A GOROUTINE OF A PLAIN PROGRAM IS LAWFUL (YtjcplblnapcfcaaBrD.lean), the second half: operations, deferred calls, the way out of a frame, the report of a death.
-/
import Derived.Test.YtjcplblnapcfcaaBrE
set_option linter.unusedSimpArgs false
namespace Go.Gat

section
variable {P : Program} {main : Bool} {fr : Frame} {callers : List Frame} {dying : Option Dying}

/-- The result as an operation's text. -/
def asSem {α : Type} : Result α → Sem α
  | .ok a _ => .pure a
  | .halt h _ => .halt h
/-- What of an operation's accesses counts. -/
def evs (P : Program) (fr : Frame) (r : Result Next) (es : Array Event) : Array Event :=
  seen P fr.fn (if fr.kind == .early then #[] else match r with
    | .halt .blocked _ | .halt .waiting _ | .halt (.unsupported (.initOrder _)) _ => #[]
    | _ => es)

theorem apply_eq (s : Sem Next) (w : World) : stepG.apply P true fr callers dying s w =
    GStep.after (evs P fr (s.runT P w #[]).1 (s.runT P w #[]).2) (stepG.apply P true fr callers dying (asSem (s.runT P w #[]).1) (s.runT P w #[]).1.world) := by
  obtain ⟨r, es, hx⟩ : ∃ r es, s.runT P w #[] = (r, es) := ⟨_, _, rfl⟩
  rw [hx]
  have h0 : ∀ r : Result Next, evs P fr r #[] = #[] := by
    intro r
    unfold evs
    split
    · exact seen_nil _ _
    · split <;> exact seen_nil _ _
  have h1 : ∀ w, stepG.apply P true fr callers dying (asSem r) w = GStep.after (evs P fr ((asSem r).runT P w #[]).1 #[]) (stepG.apply P true fr callers dying (asSem r) w) := fun w => by rw [h0, after_nil]
  cases r with
  | ok a w' =>
    unfold stepG.apply
    simp only [if_true, hx]
    simp only [Result.world, asSem, Sem.runT]
    show GStep.after (evs P fr (.ok a w') es) _ = GStep.after _ (GStep.after (evs P fr (.ok a w') #[]) _)
    rw [h0, after_nil]
  | halt h w' =>
    unfold stepG.apply
    simp only [if_true, hx]
    simp only [Result.world, asSem, Sem.runT]
    show GStep.after (evs P fr (.halt h w') es) _ = GStep.after _ (GStep.after (evs P fr (.halt h w') #[]) _)
    rw [h0, after_nil]

theorem hears_evs (r : Result Next) (es : Array Event) (h : Hears es) : Hears (evs P fr r es) := by
  unfold evs
  refine Hears.seen _ _ ?_
  split
  · exact hears_nil
  · split <;> first | exact hears_nil | exact h

theorem evs_mapW (r : Result Next) (f : World → World) (es : Array Event) : evs P fr (r.mapW f) es = evs P fr r es := by
  cases r with
  | ok a w => rfl
  | halt h w => cases h <;> first | rfl | (rename_i u; cases u <;> rfl)

theorem lawful_apply {s : Sem Next} (hs : Fine P okNext s) (hf : FrameOK fr) (hc : FramesOK callers) : Lawful fun w => stepG.apply P true fr callers dying s w := by
  rw [show (fun w => stepG.apply P true fr callers dying s w) = _ from funext fun w => apply_eq s w]
  have hcc := FramesOK.cons hf hc
  refine lawful_run hs (evs P fr) (fun r => stepG.apply P true fr callers dying (asSem r) r.world) (fun r es _ h => hears_evs r es h) (fun r f es => evs_mapW r f es) (fun h w es h1 h2 => .inl ?_) (fun a ha => ?_) (fun h => ?_) (fun h w hon => ?_)
  · cases h <;> simp [Halt.on, Halt.live] at h1 h2
    rename_i u
    cases u <;> simp [Halt.on, Halt.live] at h1 h2
    unfold evs
    refine Hears.seen _ _ ?_
    split <;> exact hears_nil
  · cases a
    all_goals unfold stepG.apply; simp only [asSem, Result.world, Sem.runT, if_true, ite_self, seen_nil, after_nil]
    case value v => exact lawful_go ⟨hf.finish _, hc⟩
    case skip => exact lawful_go ⟨hf.finish _, hc⟩
    case enter f args => exact lawful_go ⟨FrameOK.enter _ _ _ _, hcc⟩
    case round l f t a b => exact lawful_go ⟨FrameOK.round _ _ _ _ _ _, hcc⟩
    case defer d => exact lawful_go ⟨FrameOK.finish (fr := { fr with defers := d :: fr.defers }) hf _, hc⟩
    case recover =>
      split
      · rename_i v cs he
        refine lawful_go ⟨hf.finish _, ?_⟩
        split at he
        · split at he
          · exact tryRecover_ok hc he
          · exact tryRecoverLoop_ok hc he
        · exact tryRecover_ok hc he
      · exact lawful_go ⟨hf.finish _, hc⟩
    case spawn d =>
      split
      all_goals split
      all_goals first | exact lawful_endThrow hf _ | exact lawful_spawn
    case comm c b s => exact lawful_comm ⟨hf, hc⟩
    case coroswitch c x => exact lawful_coro ⟨hf, hc⟩
    case row r args =>
      have hr : r = printRow := ha
      subst hr
      split
      · rename_i row args' k he
        refine lawful_go ⟨fun it hit => ?_, hc⟩
        simp only [List.mem_cons] at hit
        rcases hit with rfl | hit
        · rfl
        · exact hf it (by rw [he]; simp [hit])
      · exact lawful_go ⟨FrameOK.ofRow _ _ _, hcc⟩
    all_goals exact ha.elim
  · cases h
    all_goals unfold stepG.apply; simp only [asSem, Result.world, Sem.runT, if_true, ite_self, seen_nil, after_nil]
    case panic v => exact lawful_go ⟨hf.raise _, hc⟩
    case goexit => exact lawful_go ⟨hf.raise _, hc⟩
    case blocked => exact lawful_asleep fun w => ⟨_, _, _, rfl, by simp [Asleep]⟩
    case waiting => exact lawful_asleep fun w => ⟨_, _, _, rfl, by simp [Asleep]⟩
    case exit c => exact lawful_ended fun w => ⟨_, _, _, rfl⟩
    case stuck c => exact lawful_ended fun w => ⟨_, _, _, rfl⟩
    case fatal m => exact lawful_endFatal hf _
    case throw m => exact lawful_endThrow hf _
    case unsupported u =>
      cases u
      all_goals simp only [ite_self, seen_nil, after_nil]
      case initOrder g => exact lawful_early hf hc _
      all_goals exact lawful_ended fun w => ⟨_, _, _, rfl⟩
  · cases h
    all_goals simp [Halt.on, Halt.live] at hon
    all_goals unfold stepG.apply; simp only [asSem, Result.world, Sem.runT, if_true, ite_self, seen_nil, after_nil]
    case blocked => exact .inr ⟨_, _, _, rfl, by simp [Asleep]⟩
    case waiting => exact .inr ⟨_, _, _, rfl, by simp [Asleep]⟩
    case exit c => exact .inl ⟨_, _, _, rfl⟩
    case stuck c => exact .inl ⟨_, _, _, rfl⟩
    case unsupported u =>
      cases u
      all_goals simp only [ite_self, seen_nil, after_nil]
      case initOrder g => simp [Halt.on] at hon
      all_goals exact .inl ⟨_, _, _, rfl⟩

/-- 'lawful_run', its 'E' and 'G' to be read off the step. -/
theorem lawful_runQ {α : Type} {L : α → Prop} {s : Sem α} {F : World → GStep} {E : Result α → Array Event → Array Event} {G : Result α → GStep} (hs : Fine P L s)
    (hF : ∀ w r es, s.runT P w #[] = (r, es) → F w = GStep.after (E r es) (G r))
    (hE : ∀ r es, r.live = true → Hears es → Hears (E r es)) (hEw : ∀ (r : Result α) f es, E (r.mapW f) es = E r es)
    (hE0 : ∀ h w es, h.on = true → h.live = false → Hears (E (.halt h w) es) ∨ ∃ o w' es', G (.halt h w) = .ended o w' es')
    (hok : ∀ a, L a → Lawful fun w => G (.ok a w)) (hhalt : ∀ h, Lawful fun w => G (.halt h w)) (hdead : ∀ h w, h.on = false → (∃ o w' es, G (.halt h w) = .ended o w' es) ∨ ∃ g w' es, G (.halt h w) = .go g w' es ∧ Asleep g) : Lawful F := by
  rw [show F = _ from funext fun w => hF w _ _ rfl]
  exact lawful_run hs E G hE hEw hE0 hok hhalt hdead

theorem lawful_callDeferred (hP : Plain P) (hf : FrameOK fr) (hc : FramesOK callers) (d : Deferred) : Lawful fun w => callDeferred P fr callers dying d w := by
  have hcc := FramesOK.cons hf hc
  unfold callDeferred
  dsimp only
  generalize ((match d.target with | .nil => true | _ => false) && match fr.mode with | .panicking _ => true | _ => false) = b
  cases b with
  | true => exact lawful_ended fun w => ⟨_, _, _, rfl⟩
  | false =>
  simp only [Bool.false_eq_true, if_false]
  refine lawful_runQ (E := ?E) (G := ?G) (fine_invoke hP d.target d.args) (fun w r es h => ?hF) ?_ ?_ ?_ ?_ ?_ ?_
  case hF => simp only [h]; rfl
  · intro r es _ h
    refine Hears.seen _ _ ?_
    split <;> first | exact hears_nil | exact h
  · intro r f es
    cases r with
    | ok a w => rfl
    | halt h w => cases h <;> rfl
  · intro h w es h1 h2
    cases h <;> simp [Halt.on, Halt.live] at h1 h2
    exact .inr ⟨_, _, _, rfl⟩
  · intro a ha
    cases a
    case recover =>
      dsimp only
      split
      · rename_i he
        exact lawful_go ⟨hf, tryRecover_ok hc he⟩
      · exact lawful_go ⟨hf, hc⟩
    case row r args =>
      have hr : r = printRow := ha
      subst hr
      exact lawful_go ⟨FrameOK.ofRow _ _ _, hcc⟩
    case enter => exact lawful_go ⟨FrameOK.enter _ _ _ _, hcc⟩
    case round => exact lawful_go ⟨FrameOK.round _ _ _ _ _ _, hcc⟩
    case coroswitch c x =>
      cases x
      · exact lawful_ended fun w => ⟨_, _, _, rfl⟩
      · exact lawful_coro ⟨hf, hc⟩
    all_goals first | exact ha.elim | exact lawful_go ⟨hf, hc⟩
  · intro h
    cases h
    case panic v => exact lawful_go ⟨hf.raise _, hc⟩
    case goexit => exact lawful_go ⟨hf.raise _, hc⟩
    case fatal m => exact lawful_endFatal hf _
    case throw m => exact lawful_endThrow hf _
    case blocked => exact lawful_asleep fun w => ⟨_, _, _, rfl, by simp [Asleep]⟩
    case waiting => exact lawful_asleep fun w => ⟨_, _, _, rfl, by simp [Asleep]⟩
    all_goals exact lawful_ended fun w => ⟨_, _, _, rfl⟩
  · intro h w hon
    cases h
    all_goals simp [Halt.on, Halt.live] at hon
    case blocked => exact .inr ⟨_, _, _, rfl, by simp [Asleep]⟩
    case waiting => exact .inr ⟨_, _, _, rfl, by simp [Asleep]⟩
    all_goals exact .inl ⟨_, _, _, rfl⟩

/-- 'lawful_run0', its 'G' to be read off the step. -/
theorem lawful_runQ0 {α : Type} {s : Sem α} {F : World → GStep} {G : Result α → GStep} (hs : s.firm P)
    (hF : ∀ w r, s.run P w = r → F w = G r)
    (hok : ∀ a, Lawful fun w => G (.ok a w)) (hhalt : ∀ h, Lawful fun w => G (.halt h w)) (hdead : ∀ h w, h.on = false → (∃ o w' es, G (.halt h w) = .ended o w' es) ∨ ∃ g w' es, G (.halt h w) = .go g w' es ∧ Asleep g) : Lawful F := by
  rw [show F = _ from funext fun w => hF w _ rfl]
  exact lawful_run0 hs G hok hhalt hdead

/-- 'lawful_run' of an operation whose ends without a value end the run, and whose accesses count. -/
theorem lawful_runE {α : Type} {L : α → Prop} {fn : FuncId} {s : Sem α} {F : World → GStep} {G : Result α → GStep} (hs : Fine P L s)
    (hF : ∀ w r es, s.runT P w #[] = (r, es) → F w = GStep.after (seen P fn es) (G r))
    (hok : ∀ a, L a → Lawful fun w => G (.ok a w)) (hhalt : ∀ h w, ∃ o w' es, G (.halt h w) = .ended o w' es) : Lawful F :=
  lawful_runQ (E := fun _ es => seen P fn es) hs hF (fun _ _ _ h => h.seen _ _) (fun _ _ _ => rfl) (fun h w _ _ _ => .inr (hhalt h w)) hok (fun h => lawful_ended (hhalt h)) (fun h w _ => .inl (hhalt h w))

theorem c_amapM {α β : Type} (l : Array α) (f : α → Sem β) (hf : ∀ a, Calm (f a)) : Calm (l.mapM f) := inferInstance
instance (fn : Func) (tmps : Array Value) : Calm (results fn tmps) := by
  unfold results
  repeat' (first | infer_instance | (intro _) | (refine c_amapM _ _ ?_) | (refine c_bind _ _ ?_ ?_) | split | (dsimp only))

theorem lawful_unwind (hP : Plain P) (hf : FrameOK fr) (hc : FramesOK callers) : Lawful fun w => unwind P main fr callers dying w := by
  unfold unwind
  dsimp only
  split
  · rename_i _ block _ ds _
    refine lawful_runE (P := P) (G := ?G) (fn := fr.fn) (L := fun _ => True) (s := Instr.takeDeferred block) (.of_calm Calm.out) (fun w r es h => ?hF) ?_ ?_
    case hF => simp only [h]; rfl
    · exact fun a _ => lawful_go ⟨hf, hc⟩
    · exact fun h w => ⟨_, _, _, rfl⟩
  · exact lawful_callDeferred hP (by exact hf) hc _
  · split
    · exact lawful_ended fun w => ⟨_, _, _, rfl⟩
    · split
      · exact lawful_ended fun w => ⟨_, _, _, rfl⟩
      split
      · exact lawful_go ⟨hc.head.raise _, hc.tail⟩
      · split
        · split
          · exact lawful_asleep fun w => ⟨_, _, _, rfl, by simp [Asleep]⟩
          · rename_i chain _ _ _ _ _
            refine lawful_runQ0 (P := P) (G := ?G1) (s := reportChain chain false) (calm_firm P _ Calm.out) (fun w r h => ?hF1) ?_ ?_ ?_
            case hF1 => simp only [h]; rfl
            · exact fun a => lawful_go ⟨hf, framesOK_nil⟩
            · intro h; cases h <;> exact lawful_ended fun w => ⟨_, _, _, rfl⟩
            · intro h w _; cases h <;> exact .inl ⟨_, _, _, rfl⟩
        · split
          · exact lawful_endPrinting hf _
          · exact lawful_ended fun w => ⟨_, _, _, rfl⟩
    · split
      · exact lawful_doReturn hf hc _
      · rename_i fn _
        refine lawful_runE (P := P) (G := ?G2) (fn := fr.fn) (L := fun _ => True) (s := results fn fr.tmps) (.of_calm Calm.out) (fun w r es h => ?hF2) ?_ ?_
        case hF2 => simp only [h]; rfl
        · exact fun a _ => lawful_doReturn hf hc _
        · intro h w; cases h <;> exact ⟨_, _, _, rfl⟩

end
end Go.Gat
