/-
  EVERY STEP OF A GOROUTINE OF A PLAIN PROGRAM IS LAWFUL: 'lawful_stepG'.
-/
import Derived.Test.YtjcplblnapcfcaaBrF
set_option linter.unusedSimpArgs false
namespace Go.Gat

section
variable {P : Program} {main : Bool} {fr : Frame} {callers : List Frame} {dying : Option Dying}

theorem items_cons {x : Item} {k : List Item} (hx : itemOK x) (hk : ∀ it ∈ k, itemOK it) : ∀ it ∈ x :: k, itemOK it := fun it hit => by
  simp only [List.mem_cons] at hit
  rcases hit with rfl | hit
  · exact hx
  · exact hk it hit

theorem fine_skip {s : Sem Unit} (hs : Calm s) : Fine P okNext (do s; pure .skip : Sem Next) := fine_unit s

theorem lawful_oper (hP : Plain P) (hf : FrameOK fr) (hc : FramesOK callers) : Lawful fun w => stepG.oper P true fr callers dying w := by
  unfold stepG.oper
  split
  · exact lawful_ended fun w => ⟨_, _, _, rfl⟩
  · split
    · refine lawful_apply (Fine.of_calm ?_) hf hc
      exact calm_any _ _ fun _ => calm_any _ _ fun _ => trivial
    · exact lawful_apply (fine_execOp hP _ _) hf hc

theorem lawful_exec (hP : Plain P) (hf : FrameOK fr) (hc : FramesOK callers) : Lawful fun w => stepG.exec P main true fr callers dying w := by
  have tl : ∀ {x k}, fr.todo = x :: k → ∀ it ∈ k, itemOK it := fun h it hit => hf it (by rw [h]; simp [hit])
  have hto : ∀ {t : List Item}, (∀ it ∈ t, itemOK it) → Lawful fun w => .go { frame := { fr with todo := t }, callers, status := .running, dying } w := fun h => lawful_go ⟨h, hc⟩
  have hend : ∀ {o : Outcome}, Lawful fun w => .ended o w := fun {o} => lawful_ended fun w => ⟨_, _, _, rfl⟩
  unfold stepG.exec
  dsimp only
  split
  · split
    · first
        | exact lawful_go ⟨hf, hc⟩
        | (split <;> first | exact lawful_go ⟨hf, hc⟩ | exact hend)
        | exact hend
    · rename_i l _
      refine lawful_runE (P := P) (G := ?G1) (fn := fr.fn) (L := fun _ => True) (s := Instr.endRound l none) (.of_calm Calm.out) (fun w r es h => ?h1) ?_ ?_
      case h1 => simp only [h]; rfl
      · exact fun a _ => lawful_doReturn hf hc _
      · intro h w; exact ⟨_, _, _, rfl⟩
  · split
    · first
        | exact lawful_go ⟨hf, hc⟩
        | (split <;> first | exact lawful_go ⟨hf, hc⟩ | exact hend)
        | exact hend
    · rename_i l _
      refine lawful_runE (P := P) (G := ?G2) (fn := fr.fn) (L := fun _ => True) (s := Instr.endRound l (some .ret)) (.of_calm Calm.out) (fun w r es h => ?h2) ?_ ?_
      case h2 => simp only [h]; rfl
      · exact fun a _ => lawful_doReturn hf hc _
      · intro h w; exact ⟨_, _, _, rfl⟩
  · rename_i k h; exact hto (tl h)
  · rename_i k h; exact hto (tl h)
  · rename_i k h; exact hto (tl h)
  · rename_i k h; exact hto (tl h)
  · rename_i k h; exact hto (items_cons trivial (items_cons trivial (tl h)))
  · rename_i k h
    split
    · exact hto (items_cons trivial (tl h))
    · exact hend
  · rename_i k h; exact hto (items_cons trivial (items_cons trivial (tl h)))
  · rename_i k h; exact hto (items_cons trivial (items_cons trivial (tl h)))
  · rename_i k h; exact hto (items_cons trivial (items_cons trivial (tl h)))
  · rename_i k h; exact hto (items_cons trivial (items_cons trivial (tl h)))
  · rename_i id k h
    cases he : exitTo id k with
    | some k' => exact hto (exitTo_ok (tl h) he)
    | none =>
    dsimp only [Option.elim]
    split
    · first
        | exact lawful_go ⟨hf, hc⟩
        | (split <;> first | exact lawful_go ⟨hf, hc⟩ | exact hend)
        | exact hend
    · rename_i l _
      refine lawful_runE (P := P) (G := ?G3) (fn := fr.fn) (L := fun _ => True) (s := Instr.endRound l (some (.exit id))) (.of_calm Calm.out) (fun w r es h => ?h3) ?_ ?_
      case h3 => simp only [h]; rfl
      · exact fun a _ => lawful_doReturn hf hc _
      · intro h w; exact ⟨_, _, _, rfl⟩
  · rename_i id k h
    cases he : gotoIn id k with
    | some k' => exact hto (gotoIn_ok (tl h) he)
    | none =>
    dsimp only [Option.elim]
    split
    · first
        | exact lawful_go ⟨hf, hc⟩
        | (split <;> first | exact lawful_go ⟨hf, hc⟩ | exact hend)
        | exact hend
    · rename_i l _
      refine lawful_runE (P := P) (G := ?G4) (fn := fr.fn) (L := fun _ => True) (s := Instr.endRound l (some (.goto id))) (.of_calm Calm.out) (fun w r es h => ?h4) ?_ ?_
      case h4 => simp only [h]; rfl
      · exact fun a _ => lawful_doReturn hf hc _
      · intro h w; exact ⟨_, _, _, rfl⟩
  · rename_i f params assign body k h
    refine lawful_runE (P := P) (G := ?G5) (fn := fr.fn) (L := fun _ => True) (s := Instr.enterLoop fr.fn fr.tmps params assign body fr.roundOf) (.of_calm Calm.out) (fun w r es h => ?h5) ?_ ?_
    case h5 => simp only [h]; rfl
    · exact fun a _ => lawful_apply (Fine.calm_bind fun d => fine_invoke hP _ _) (by exact items_cons trivial (tl h)) hc
    · intro h w; exact ⟨_, _, _, rfl⟩
  · exact hend
  · refine lawful_apply ?_ hf hc
    cases fr.roundOf with
    | none => exact fine_stuck _
    | some l => exact fine_unit (Instr.beginRound l)
  · rename_i l k h
    refine lawful_runQ (P := P) (E := fun _ es => seen P fr.fn es) (G := ?G6) (L := fun _ => True) (s := Instr.endLoop l) (.of_calm Calm.out) (fun w r es h => ?h6) (fun _ _ _ h => h.seen _ _) (fun _ _ _ => rfl) ?_ ?_ ?_ ?_
    case h6 => simp only [h]; rfl
    · intro h w es h1 h2
      cases h <;> simp [Halt.on, Halt.live] at h1 h2
      exact .inr ⟨_, _, _, rfl⟩
    · intro a _
      refine hto fun it hit => ?_
      rcases List.mem_append.1 hit with hit | hit
      · cases a <;> simp at hit
        subst hit; trivial
      · exact tl h it hit
    · intro h
      cases h
      case panic v => exact lawful_go ⟨hf.raise _, hc⟩
      all_goals exact hend
    · intro h w hon
      cases h
      all_goals simp [Halt.on, Halt.live] at hon
      all_goals exact .inl ⟨_, _, _, rfl⟩
  · exact hend
  · rename_i d wr rs sv k h
    exact False.elim (hf (.call d wr rs sv) (by rw [h]; simp))
  · rename_i row args k h
    have hr : row = printRow := hf (.extern row args) (by rw [h]; simp)
    subst hr
    rw [printRow_next]
    exact lawful_apply (fine_piece _ _ _) hf hc
  · rename_i id ops draw k h
    split
    · exact hto (items_cons trivial (tl h))
    · refine lawful_runQ0 (P := P) (G := ?G7) (s := choose (.order fr.fn id)) (fun _ => trivial) (fun w r h => ?h7) ?_ ?_ ?_
      case h7 => simp only [h]; rfl
      · exact fun a => hto (items_cons trivial (tl h))
      · exact fun h => hend
      · exact fun h w _ => .inl ⟨_, _, _, rfl⟩
  · rename_i k h; exact hto (tl h)
  · split
    · exact lawful_oper hP hf hc
    · exact lawful_go ⟨hf.finish _, hc⟩

theorem FineAt.calmBind {α β : Type} {L : α → Prop} {x : Sem β} {f : β → Sem α} [Calm x] (h : ∀ p, FineAt P L 0 (f p)) : FineAt P L 0 (x >>= f) := (Fine.calm_bind fun a => (h a).fine).at

theorem lawful_write {S : Sem Unit} (hs : Fine P (fun _ => True) S) (hf : FrameOK fr) (d d' : Dying) : Lawful fun w => match S.runT P w #[] with
    | (.ok _ w, es) => .go { frame := fr, callers := [], status := .running, dying := some d } w es
    | (.halt .blocked w, _) => .go { frame := fr, callers := [], status := .blocked, dying := some d' } w #[]
    | (.halt (.unsupported u) w, _) => .ended (.unsupported u "") w
    | (.halt _ w, _) => .ended (.stuck "the report of a fatal error" "") w := by
  refine lawful_runQ (α := Unit) (P := P) (L := fun _ => True) (E := fun r es => match r with | .ok _ _ => es | _ => #[]) (G := fun r => match r with
    | .ok _ w => .go { frame := fr, callers := [], status := .running, dying := some d } w
    | .halt .blocked w => .go { frame := fr, callers := [], status := .blocked, dying := some d' } w
    | .halt (.unsupported u) w => .ended (.unsupported u "") w
    | .halt _ w => .ended (.stuck "the report of a fatal error" "") w) (s := S) hs (fun w r es h => ?hF) ?_ ?_ ?_ ?_ ?_ ?_
  case hF =>
    simp only [h]
    cases r with
    | ok a w' => simp [GStep.after]
    | halt k w' => cases k <;> simp [GStep.after]
  · intro r es _ h
    split
    · exact h
    · exact hears_nil
  · intro r g es; cases r <;> rfl
  · intro h w es h1 h2; exact .inl hears_nil
  · exact fun a _ => lawful_go ⟨hf, framesOK_nil⟩
  · intro h
    cases h
    case blocked => exact lawful_asleep fun w => ⟨_, _, _, rfl, by simp [Asleep]⟩
    all_goals exact lawful_ended fun w => ⟨_, _, _, rfl⟩
  · intro h w hon
    cases h
    case blocked => exact .inr ⟨_, _, _, rfl, by simp [Asleep]⟩
    all_goals first | exact .inl ⟨_, _, _, rfl⟩ | simp [Halt.on, Halt.live] at hon

theorem lawful_writeOn (hf : FrameOK fr) (d : Dying) (f : Fatal) : Lawful fun w => writeOn P fr d f w := by
  unfold writeOn
  dsimp only
  split
  · exact lawful_ended fun w => ⟨_, _, _, rfl⟩
  rename_i piece rest _
  refine lawful_write ?_ hf _ _
  have hprog : ∀ (k : Nat) (f : Program → Sem Unit), (∀ p, FineAt P (fun _ => True) k (f p)) → FineAt P (fun _ => True) k (program >>= f) := fun k f h => FineAt.bind (fun _ => trivial) (fun w es h w' e => by simp only [program, Sem.runT, reduceCtorEq] at e) h
  have hst : ∀ (k : Nat) (p : Program) (x : Bool) (f : Unit → Sem Unit), (∀ p, FineAt P (fun _ => True) k (f p)) → FineAt P (fun _ => True) k (store (printLock p) (.bool x) .atomic >>= f) := fun k p x f h => FineAt.bind trivial (storeBool_mild _ _ _) h
  have hhe : ∀ (k : Nat) (f : Bool → Sem Unit), (∀ p, FineAt P (fun _ => True) k (f p)) → FineAt P (fun _ => True) k (Extern.PrintPieces.held >>= f) := fun k f h => FineAt.bind (Calm.out) held_mild h
  have hsys : ∀ (f : SysRet → Sem Unit), (∃ h, f .wouldBlock = .halt h ∧ h.on = false) → (∀ r, (f r).calm fun _ => True) → FineAt P (fun _ => True) 0 (sys (.write 2 piece) >>= f) := fun f h1 h2 => (Fine.of_calm (s := sys (.write 2 piece) >>= f) (show _ ∧ _ from ⟨h1, h2⟩)).at
  refine FineAt.fine ?_
  repeat' (first | (with_reducible exact trivial) | (exact FineAt.dead _ rfl) | (refine hsys _ ⟨_, rfl, rfl⟩ ?_) | (with_reducible refine FineAt.disable ?_) | (with_reducible refine FineAt.enable ?_) | (with_reducible refine hhe _ _ ?_) | (with_reducible refine hprog _ _ ?_) | (with_reducible refine hst _ _ _ _ ?_) | (intro _) | (refine FineAt.ite ?_ ?_) | trivial | split | (dsimp only))

theorem lawful_or {F K : World → GStep} (hK : Lawful K) (h : ∀ w, F w = K w ∨ (∃ o w' es, F w = .ended o w' es) ∧ ∃ o w' es, K w = .ended o w' es) : Lawful F := fun w => by
  rcases h w with e | ⟨⟨o, w', es, e⟩, _⟩
  · rw [e]
    have hx : ∀ τ d x, K (re w τ d) = x → (∀ o w' es, x ≠ .ended o w' es) → F (re w τ d) = x := fun τ d x hx hn => by
      rcases h (re w τ d) with e | ⟨_, o, w', es, e⟩
      · rw [e, hx]
      · exact absurd (hx.symm.trans e) (hn _ _ _)
    have hr := hK w
    generalize K w = r at hr
    cases r with
    | go g w' es => exact ⟨hr.1, fun hg => let ⟨a, b, c, k⟩ := hr.2 hg; ⟨a, b, c, fun τ d ha => hx _ _ _ (k τ d ha) (by simp)⟩⟩
    | comm g cs b s w' es => exact let ⟨z, a, b, c, k⟩ := hr; ⟨z, a, b, c, fun τ d ha => hx _ _ _ (k τ d ha) (by simp)⟩
    | coroswitch g c x w' es => exact let ⟨a, b, c, k⟩ := hr; ⟨a, b, c, fun τ d ha => hx _ _ _ (k τ d ha) (by simp)⟩
    | spawn g c w' es => trivial
    | ended o w' es => trivial
    | _ => exact hr.elim
  · rw [e]; trivial

theorem lawful_say {s : Sem Next} {f' : FuncId → Array Value → Frame} (hs : Fine P okNext s) (hf : FrameOK fr) (hf' : ∀ f args, FrameOK (f' f args)) (d : Dying) (d' : ByteArray → Dying) :
    Lawful fun w => GStep.after (seen P fr.fn (s.runT P w #[]).2) (match (s.runT P w #[]).1 with
      | .ok (.enter f args) w => .go { frame := f' f args, callers := [], status := .running, dying := some d } w
      | .ok (.value (.string s)) w => .go { frame := fr, callers := [], status := .running, dying := some (d' s) } w
      | .halt (.panic v) w => endPrinting P fr v w
      | .ok _ w => .ended (.stuck "" "") w
      | .halt _ w => .ended (.stuck "" "") w) := by
  refine lawful_runQ (P := P) (E := fun _ es => seen P fr.fn es) (G := ?G2) (L := okNext) (s := s) hs (fun w r es h => ?h2) (fun _ _ _ h => h.seen _ _) (fun _ _ _ => rfl) ?_ ?_ ?_ ?_
  case h2 => simp only [h]; rfl
  · intro h w es h1 h2
    cases h <;> simp [Halt.on, Halt.live] at h1 h2
    exact .inr ⟨_, _, _, rfl⟩
  · intro a ha
    cases a
    case enter f args => exact lawful_go ⟨hf' _ _, framesOK_nil⟩
    case value v => cases v <;> first | exact lawful_go ⟨hf, framesOK_nil⟩ | exact lawful_ended fun w => ⟨_, _, _, rfl⟩
    all_goals exact lawful_ended fun w => ⟨_, _, _, rfl⟩
  · intro h
    cases h
    case panic v => exact lawful_endPrinting hf _
    all_goals exact lawful_ended fun w => ⟨_, _, _, rfl⟩
  · intro h w hon
    cases h
    all_goals first | exact .inl ⟨_, _, _, rfl⟩ | simp [Halt.on, Halt.live] at hon

theorem lawful_die (hP : Plain P) (hf : FrameOK fr) (d : Dying) : Lawful fun w => die P fr d w := by
  unfold die
  dsimp only
  split
  · exact lawful_writeOn hf _ _
  split
  · refine lawful_ite (fun w => printLockHeld P w) (fun w τ d => rfl) ?_ ?_
    · exact lawful_asleep fun w => ⟨_, _, _, rfl, by simp [Asleep]⟩
    · exact lawful_ended fun w => endWith_ended _ _ _ _
  · split
    · exact lawful_go ⟨hf, framesOK_nil⟩
    · rename_i s _
      refine lawful_runQ0 (P := P) (G := ?G1) (s := withAddress s) (calm_firm P _ Calm.out) (fun w r h => ?h1) ?_ ?_ ?_
      case h1 => simp only [h]; rfl
      · exact fun a => lawful_go ⟨hf, framesOK_nil⟩
      · exact fun h => lawful_ended fun w => ⟨_, _, _, rfl⟩
      · exact fun h w _ => .inl ⟨_, _, _, rfl⟩
    · rename_i v mark rest _ _ t recv name _
      refine lawful_or (lawful_say (f' := fun f args => Frame.enter P f args .report) (fine_invoke hP (.fn (.method name) #[]) #[.iface t recv]) hf (fun f args => FrameOK.enter _ _ _ _)
        { d with todo := rest, pending := mark, calling := true, hand := some v } fun s => { d with todo := rest, pending := mark, texts := (s, mark) :: d.texts }) fun w => ?_
      · 
        obtain ⟨r, es, h⟩ : ∃ r es, (invoke (.fn (.method name) #[]) #[.iface t recv]).runT P w #[] = (r, es) := ⟨_, _, rfl⟩
        simp only [h]
        cases r with
        | ok a w' =>
          cases a
          case value v => cases v <;> first | exact .inl rfl | exact .inr ⟨⟨_, _, _, rfl⟩, _, _, _, rfl⟩
          all_goals first | exact .inl rfl | exact .inr ⟨⟨_, _, _, rfl⟩, _, _, _, rfl⟩
        | halt k w' => cases k <;> first | exact .inl rfl | exact .inr ⟨⟨_, _, _, rfl⟩, _, _, _, rfl⟩
    · exact lawful_ended fun w => ⟨_, _, _, rfl⟩

theorem lawful_stepG (hP : Plain P) {g : Goroutine} (hg : GorOK g) : Lawful fun w => stepG P main g w := by
  unfold stepG
  dsimp only
  split
  · exact lawful_die hP hg.1 _
  · exact lawful_exec hP hg.1 hg.2
  · exact lawful_unwind hP hg.1 hg.2

end
end Go.Gat
