/-
  WHAT AN OPERATION MAY LEAVE TO THE MACHINE ('okNext'), AND THAT EVERY OPERATION OF A PLAIN PROGRAM ('Plain': it calls nothing of the run-time that asks for the machine) is 'Fine': it hangs on the tape by its own draws alone, it leaves whoever carries it out as deaf as it was, and it yields no more than 'okNext'.
-/
import Derived.Test.YtjcplblnapcfcaaBrB
import Derived.Conc.Deaf
import Derived.KernelRfl
namespace Go.Gat

/-! ### deafness -/
def silent (e : Event) : Prop := e.loc ≠ .mark .disable ∧ e.loc ≠ .mark .enable

theorem deafBehind_append (d : Nat) (a b : Array Event) : deafBehind d (a ++ b) = deafBehind (deafBehind d a) b := by
  unfold deafBehind
  rw [Array.foldl_append]
theorem deafBehind_push (d : Nat) (a : Array Event) (e : Event) : deafBehind d (a.push e) = deafBehind (deafBehind d a) #[e] := by
  rw [← deafBehind_append]; simp
theorem deafBehind_silent (d : Nat) {e : Event} (h : silent e) : deafBehind d #[e] = d := by
  obtain ⟨h1, h2⟩ := h
  obtain ⟨loc, wr, sy⟩ := e
  cases loc with
  | mark m => cases m <;> simp_all [deafBehind]
  | _ => simp [deafBehind]
theorem deafBehind_silents (d : Nat) (es : Array Event) (h : ∀ e ∈ es, silent e) : deafBehind d es = d := by
  obtain ⟨l⟩ := es
  induction l generalizing d with
  | nil => rfl
  | cons e l ih =>
    have e1 : (⟨e :: l⟩ : Array Event) = #[e] ++ ⟨l⟩ := by simp
    rw [e1, deafBehind_append, deafBehind_silent d (h e (by simp))]
    exact ih d fun x hx => h x (by simp at hx ⊢; exact .inr hx)

/-- What a step lists leaves its goroutine as deaf as it was. -/
def Hears (es : Array Event) : Prop := (∀ d, deafBehind d es = d) ∧ ∀ e ∈ es, silent e ∨ e.sync = true
theorem hears_nil : Hears #[] := ⟨fun _ => rfl, by simp⟩
theorem hears_silent {es : Array Event} (h : ∀ e ∈ es, silent e) : Hears es := ⟨fun d => deafBehind_silents d es h, fun e he => .inl (h e he)⟩
theorem Hears.append {a b : Array Event} (ha : Hears a) (hb : Hears b) : Hears (a ++ b) :=
  ⟨fun d => by rw [deafBehind_append, ha.1, hb.1], fun e he => (Array.mem_append.1 he).elim (ha.2 e) (hb.2 e)⟩

theorem seen_deaf (P : Program) (fn : FuncId) (es : Array Event) (h : ∀ e ∈ es, silent e ∨ e.sync = true) (d : Nat) : deafBehind d (seen P fn es) = deafBehind d es := by
  have key : ∀ (l : List Event), (∀ e ∈ l, silent e ∨ e.sync = true) → ∀ (q : Bool) (kept : Array Event),
      deafBehind d ((l.foldl (fun (x : Bool × Array Event) e =>
        match e.loc with
        | .mark (.extern f) => ((P.funcs[f]?).any (·.norace), x.2)
        | _ => (x.1, if x.1 && !e.sync then x.2 else x.2.push e)) (q, kept)).2) = deafBehind (deafBehind d kept) ⟨l⟩ := by
    intro l
    induction l with
    | nil => intro _ q kept; rfl
    | cons e l ih =>
      intro hl q kept
      have e1 : (⟨e :: l⟩ : Array Event) = #[e] ++ ⟨l⟩ := by simp
      have hs := hl e (by simp)
      simp only [List.foldl_cons]
      obtain ⟨q', kept', hstep, hd⟩ : ∃ q' kept', (match e.loc with
          | .mark (.extern f) => ((P.funcs[f]?).any (·.norace), kept)
          | _ => (q, if q && !e.sync then kept else kept.push e)) = (q', kept') ∧ deafBehind d kept' = deafBehind (deafBehind d kept) #[e] := by
        split
        · rename_i f hf
          exact ⟨_, _, rfl, by rw [deafBehind_silent _ ⟨by rw [hf]; simp, by rw [hf]; simp⟩]⟩
        · refine ⟨_, _, rfl, ?_⟩
          split
          · rename_i _ hq
            simp only [Bool.and_eq_true, Bool.not_eq_true'] at hq
            rcases hs with hs | hs
            · rw [deafBehind_silent _ hs]
            · rw [hs] at hq; exact absurd hq.2 (by simp)
          · rw [deafBehind_push]
      rw [hstep, ih (fun x hx => hl x (by simp [hx])) q' kept', e1, deafBehind_append, hd]
  have h0 := key es.toList (fun e he => h e (by simpa using he)) ((P.funcs[fn]?).any (·.norace)) #[]
  dsimp only [seen]
  rw [← Array.foldl_toList]
  exact h0
theorem mem_seen {P : Program} {fn : FuncId} {es : Array Event} {e : Event} (h : e ∈ seen P fn es) : e ∈ es := by
  have key : ∀ (l : List Event) (q : Bool) (kept : Array Event), e ∈ (l.foldl (fun (x : Bool × Array Event) e =>
        match e.loc with
        | .mark (.extern f) => ((P.funcs[f]?).any (·.norace), x.2)
        | _ => (x.1, if x.1 && !e.sync then x.2 else x.2.push e)) (q, kept)).2 → e ∈ kept ∨ e ∈ l := by
    intro l
    induction l with
    | nil => intro q kept h; exact .inl h
    | cons x l ih =>
      intro q kept h
      simp only [List.foldl_cons] at h
      obtain ⟨q', kept', hstep, hk⟩ : ∃ q' kept', (match x.loc with
          | .mark (.extern f) => ((P.funcs[f]?).any (·.norace), kept)
          | _ => (q, if q && !x.sync then kept else kept.push x)) = (q', kept') ∧ (e ∈ kept' → e ∈ kept ∨ e = x) := by
        split
        · exact ⟨_, _, rfl, .inl⟩
        · refine ⟨_, _, rfl, ?_⟩
          split
          · exact .inl
          · intro h; simpa [or_comm] using Array.mem_push.1 h
      rw [hstep] at h
      rcases ih q' kept' h with h | h
      · rcases hk h with h | rfl
        · exact .inl h
        · exact .inr (by simp)
      · exact .inr (by simp [h])
  dsimp only [seen] at h
  rw [← Array.foldl_toList] at h
  rcases key es.toList _ _ h with h | h
  · simp at h
  · simpa using h
theorem Hears.seen {es : Array Event} (P : Program) (fn : FuncId) (h : Hears es) : Hears (seen P fn es) :=
  ⟨fun d => by rw [seen_deaf P fn es h.2, h.1], fun e he => h.2 e (mem_seen he)⟩

/-- 't' is 'es' and what is silent. -/
def Ext (es t : Array Event) : Prop := ∃ new, t = es ++ new ∧ ∀ e ∈ new, silent e
theorem Ext.refl (es : Array Event) : Ext es es := ⟨#[], by simp, by simp⟩
theorem Ext.push {es t : Array Event} {x : Event} (hx : silent x) (h : Ext (es.push x) t) : Ext es t := by
  obtain ⟨new, rfl, h⟩ := h
  exact ⟨#[x] ++ new, by simp, fun e he => by
    rcases Array.mem_append.1 he with he | he
    · simp at he; subst he; exact hx
    · exact h e he⟩
theorem Ext.more {es t y : Array Event} (hy : ∀ e ∈ y, silent e) (h : Ext (es ++ y) t) : Ext es t := by
  obtain ⟨new, rfl, h⟩ := h
  exact ⟨y ++ new, by simp, fun e he => (Array.mem_append.1 he).elim (hy e) (h e)⟩
theorem silent_cells (l : List Addr) (f : Addr → Bool × Bool) : ∀ e ∈ l.toArray.map (fun a => (⟨.cell a, (f a).1, (f a).2⟩ : Event)), silent e := by
  intro e he
  obtain ⟨a, _, rfl⟩ := Array.mem_map.1 he
  exact ⟨by simp, by simp⟩

/-- What a calm operation lists, and yields. -/
theorem calm_events {α : Type} {L : α → Prop} (P : Program) (s : Sem α) (hs : s.calm L) (w : World) (es : Array Event) :
    Ext es (s.runT P w es).2 ∧ (∀ a w', (s.runT P w es).1 = .ok a w' → L a) := by
  induction s generalizing w es with
  | pure a => exact ⟨.refl es, fun b w' h => by simp only [Sem.runT, Result.ok.injEq] at h; exact h.1 ▸ hs⟩
  | halt h => exact ⟨.refl es, fun b w' h => by simp [Sem.runT] at h⟩
  | load m a k ih =>
    simp only [Sem.runT]
    cases w.cell? a with
    | some v => exact ⟨.push ⟨by simp, by simp⟩ (ih v (hs v) w _).1, (ih v (hs v) w _).2⟩
    | none =>
      simp only []
      cases w.farLoad P a (m == .atomic) with
      | ok r => exact ⟨.more (silent_cells _ fun _ => (false, m == .atomic)) (ih r.1 (hs r.1) w _).1, (ih r.1 (hs r.1) w _).2⟩
      | error h => exact ⟨.refl es, fun b w' h => by simp at h⟩
  | store m a v k ih =>
    by_cases hv : (∃ c, v = .agg c) ∨ (∃ c, v = .tuple c)
    · rcases hv with ⟨c, rfl⟩ | ⟨c, rfl⟩ <;> exact ⟨.refl es, fun b w' h => by simp [Sem.runT] at h⟩
    have e : (Sem.store m a v k).runT P w es = match w.cell? a with
      | some _ =>
        if w.frozen? a then (.halt (.unsupported (.unsafePointer "a write to bytes that a string shares")) w, es)
        else k.runT P (w.setCell a v) (es.push ⟨.cell a, true, m == .atomic⟩)
      | none => match w.farStore P a v (m == .atomic) with
        | .ok (w, touched) => k.runT P w (es ++ touched.toArray.map (⟨.cell ·, true, m == .atomic⟩))
        | .error h => (.halt h w, es) := by
      cases v <;> first | rfl | (exact absurd (.inl ⟨_, rfl⟩) hv) | (exact absurd (.inr ⟨_, rfl⟩) hv)
    rw [e]
    cases w.cell? a with
    | some _ =>
      simp only []
      split
      · exact ⟨.refl es, fun b w' h => by simp at h⟩
      · exact ⟨.push ⟨by simp, by simp⟩ (ih hs _ _).1, (ih hs _ _).2⟩
    | none =>
      simp only []
      cases w.farStore P a v (m == .atomic) with
      | error h => exact ⟨.refl es, fun b w' h => by simp at h⟩
      | ok r => exact ⟨.more (silent_cells _ fun _ => (true, m == .atomic)) (ih hs _ _).1, (ih hs _ _).2⟩
  | new o k ih => exact ih _ (hs _) _ _
  | shape r k ih => exact ih _ (hs _) _ _
  | freeze a n k ih => exact ih hs _ _
  | frozen a k ih => exact ih _ (hs _) _ _
  | getObj r k ih =>
    simp only [Sem.runT]
    split
    · exact ⟨.refl es, fun b w' h => by simp at h⟩
    · exact ⟨.push ⟨by simp, by simp⟩ (ih _ (hs _) _ _).1, (ih _ (hs _) _ _).2⟩
    · exact ⟨.refl es, fun b w' h => by simp at h⟩
  | setObj r o k ih =>
    simp only [Sem.runT]
    split
    · exact ⟨.refl es, fun b w' h => by simp at h⟩
    · exact ⟨.push ⟨by simp, by simp⟩ (ih hs _ _).1, (ih hs _ _).2⟩
    · exact ⟨.refl es, fun b w' h => by simp at h⟩
  | choose q k ih =>
    simp only [Sem.runT]
    split
    · exact ih _ (hs _) _ _
    · exact ih _ (hs _) _ _
  | sys c k ih => exact ⟨.push ⟨by simp, by simp⟩ (ih _ (hs.2 _) _ _).1, (ih _ (hs.2 _) _ _).2⟩
  | program k ih => exact ih _ (hs _) _ _
  | mark m k ih =>
    exact ⟨.push ⟨by simp [hs.1], by simp [hs.2.1]⟩ (ih hs.2.2 _ _).1, (ih hs.2.2 _ _).2⟩

/-! ### what an operation leaves to the machine -/
def printRow : String := "runtime.print$piece"
def okNext : Next → Prop
  | .value _ | .skip | .enter .. | .round .. | .defer _ | .recover | .spawn _ | .comm .. | .coroswitch .. => True
  | .row r _ => r = printRow
  | _ => False

/-- The program calls nothing of the run-time that asks for the machine. -/
structure Plain (P : Program) : Prop where
  name : ∀ (f : FuncId) (fn : Func), P.funcs[f]? = some fn → (fn.name == "runtime.NumGoroutine") = false
  next : ∀ (f : FuncId) (fn : Func), P.funcs[f]? = some fn → fn.body.isNone = true → Extern.findNext fn = none
  find : ∀ (f : FuncId) (fn : Func) (e : Array Value → Sem Value), P.funcs[f]? = some fn → fn.body.isNone = true → Extern.find fn = some e → ∀ args, Calm (e args)

/-- The operation 's', in program P. -/
structure Fine {α : Type} (P : Program) (L : α → Prop) (s : Sem α) : Prop where
  firm : s.firm P
  hears : ∀ w es, (s.runT P w es).1.live = true → ∃ new, (s.runT P w es).2 = es ++ new ∧ Hears new
  leaf : ∀ w es a w', (s.runT P w es).1 = .ok a w' → L a

theorem Fine.of_calm {α : Type} {P : Program} {L : α → Prop} {s : Sem α} (h : s.calm L) : Fine P L s :=
  ⟨calm_firm P s h, fun w es _ => by
    obtain ⟨new, h1, h2⟩ := (calm_events P s h w es).1
    exact ⟨new, h1, hears_silent h2⟩, fun w es => (calm_events P s h w es).2⟩

theorem firm_bind {α β : Type} {P : Program} (x : Sem α) (f : α → Sem β) (hx : x.firm P) (hf : ∀ a, (f a).firm P) : (x.bind f).firm P := by
  induction x with
  | pure a => exact hf a
  | halt h => trivial
  | load m a k ih => exact fun v => ih v (hx v)
  | store m a v k ih => exact ih hx
  | new o k ih => exact fun r => ih r (hx r)
  | shape r k ih => exact fun s => ih s (hx s)
  | freeze a n k ih => exact ih hx
  | frozen a k ih => exact fun b => ih b (hx b)
  | getObj r k ih => exact fun o => ih o (hx o)
  | setObj r o k ih => exact ih hx
  | choose q k ih => exact fun n => ih n (hx n)
  | sys c k ih =>
    obtain ⟨h, hk, hl⟩ := hx.1
    exact ⟨⟨h, by simp only [hk]; rfl, hl⟩, fun r => ih r (hx.2 r)⟩
  | program k ih => exact ih P hx
  | mark m k ih => exact ih hx

theorem Fine.bind {α β : Type} {P : Program} {L : α → Prop} {M : β → Prop} {x : Sem α} {f : α → Sem β} (hx : Fine P L x) (hf : ∀ a, Fine P M (f a)) : Fine P M (x >>= f) := by
  have hr : ∀ w es, (x >>= f).runT P w es = match x.runT P w es with | (.ok a w', es') => (f a).runT P w' es' | (.halt h w', es') => (.halt h w', es') := fun w es => Go.Sem.runT_bind' P x f w es
  refine ⟨firm_bind x f hx.firm fun a => (hf a).firm, fun w es hl => ?_, fun w es b w' hb => ?_⟩
  · have h1 := hx.hears w es
    rw [hr] at hl ⊢
    generalize x.runT P w es = y at h1 hl ⊢
    obtain ⟨r, es'⟩ := y
    cases r with
    | halt h w' => exact h1 hl
    | ok a w' =>
      obtain ⟨n1, e1, h1⟩ := h1 rfl
      obtain ⟨n2, e2, h2⟩ := (hf a).hears w' es' hl
      simp only at e1
      exact ⟨n1 ++ n2, by rw [e2, e1, Array.append_assoc], h1.append h2⟩
  · rw [hr] at hb
    generalize x.runT P w es = y at hb
    obtain ⟨r, es'⟩ := y
    cases r with
    | halt h w' => simp at hb
    | ok a w1 => exact (hf a).leaf w1 es' b w' hb

theorem Fine.calm_bind {α β : Type} {P : Program} {M : β → Prop} {x : Sem α} {f : α → Sem β} [hx : Calm x] (hf : ∀ a, Fine P M (f a)) : Fine P M (x >>= f) := Fine.bind (Fine.of_calm hx.out) hf
theorem Fine.program {α : Type} {P : Program} {M : α → Prop} {f : Program → Sem α} (hf : Fine P M (f P)) : Fine P M (Go.program >>= f) :=
  ⟨hf.firm, fun w es hl => hf.hears w es hl, fun w es a w' h => hf.leaf w es a w' h⟩

theorem calm_value (s : Sem Value) [hs : Calm s] : (do pure (.value (← s)) : Sem Next).calm okNext := Gat.calm_bind s _ hs.out fun _ _ => trivial
theorem calm_unit (s : Sem Unit) [hs : Calm s] : (do s; pure .skip : Sem Next).calm okNext := Gat.calm_bind s _ hs.out fun _ _ => trivial
theorem fine_value {P : Program} (s : Sem Value) [hs : Calm s] : Fine P okNext (do pure (.value (← s)) : Sem Next) := .of_calm (calm_value s)
theorem fine_unit {P : Program} (s : Sem Unit) [hs : Calm s] : Fine P okNext (do s; pure .skip : Sem Next) := .of_calm (calm_unit s)
theorem fine_stuck {P : Program} {α : Type} {L : α → Prop} (s : String) : Fine P L (stuck s : Sem α) := .of_calm trivial
theorem fine_unsupported {P : Program} {α : Type} {L : α → Prop} (s : Unsupported) : Fine P L (unsupported s : Sem α) := .of_calm trivial
theorem fine_pure {P : Program} {α : Type} {L : α → Prop} {a : α} (h : L a) : Fine P L (pure a : Sem α) := .of_calm h
theorem calm_any {α β : Type} {M : β → Prop} (x : Sem α) [hx : Calm x] (f : α → Sem β) (h : ∀ a, (f a).calm M) : (x >>= f).calm M := Gat.calm_bind x f hx.out fun a _ => h a
theorem fine_panic {P : Program} {α : Type} {L : α → Prop} (e : RuntimeError) : Fine P L (runtimePanic e : Sem α) := by
  refine .of_calm ?_
  unfold runtimePanic
  refine calm_any _ _ fun p => ?_
  dsimp only
  split <;> first | trivial | (refine calm_any _ _ fun _ => calm_any _ _ fun _ => trivial)

/-! ### a piece of a print -/
/-- 'Fine' where 'k' of the 'disable's stand open. -/
structure FineAt {α : Type} (P : Program) (L : α → Prop) (k : Nat) (s : Sem α) : Prop where
  firm : s.firm P
  hears : ∀ w es, (s.runT P w es).1.live = true → ∃ new, (s.runT P w es).2 = es ++ new ∧ (∀ d, deafBehind (d + k) new = d) ∧ ∀ e ∈ new, silent e ∨ e.sync = true
  leaf : ∀ w es a w', (s.runT P w es).1 = .ok a w' → L a
section
variable {P : Program} {L : Next → Prop}
theorem Fine.at {α : Type} {L : α → Prop} {s : Sem α} (h : Fine P L s) : FineAt P L 0 s := ⟨h.firm, h.hears, h.leaf⟩
theorem FineAt.fine {α : Type} {L : α → Prop} {s : Sem α} (h : FineAt P L 0 s) : Fine P L s := ⟨h.firm, h.hears, h.leaf⟩
theorem FineAt.dead {α : Type} {L : α → Prop} {k : Nat} (h : Halt) (hl : h.live = false) : FineAt P L k (Sem.halt h : Sem α) :=
  ⟨trivial, fun w es hv => (by simp only [Sem.runT, Result.live, hl] at hv; cases hv), fun w es a w' e => (by simp only [Sem.runT, reduceCtorEq] at e)⟩
theorem FineAt.disable {α : Type} {L : α → Prop} {f : Unit → Sem α} (h : FineAt P L 1 (f ())) : FineAt P L 0 (mark .disable >>= f) := by
  refine ⟨h.firm, fun w es hl => ?_, fun w es a w' e => h.leaf w (es.push ⟨.mark .disable, false, true⟩) a w' e⟩
  obtain ⟨new, h1, h2, h3⟩ := h.hears w (es.push ⟨.mark .disable, false, true⟩) hl
  refine ⟨#[⟨.mark .disable, false, true⟩] ++ new, h1.trans (by simp), fun d => ?_, fun e he => ?_⟩
  · rw [deafBehind_append]; exact h2 d
  · rcases Array.mem_append.1 he with he | he
    · simp at he; subst he; exact .inr rfl
    · exact h3 e he
theorem FineAt.enable {α : Type} {L : α → Prop} {f : Unit → Sem α} (h : FineAt P L 0 (f ())) : FineAt P L 1 (mark .enable >>= f) := by
  refine ⟨h.firm, fun w es hl => ?_, fun w es a w' e => h.leaf w (es.push ⟨.mark .enable, false, true⟩) a w' e⟩
  obtain ⟨new, h1, h2, h3⟩ := h.hears w (es.push ⟨.mark .enable, false, true⟩) hl
  refine ⟨#[⟨.mark .enable, false, true⟩] ++ new, h1.trans (by simp), fun d => ?_, fun e he => ?_⟩
  · rw [deafBehind_append]; exact h2 d
  · rcases Array.mem_append.1 he with he | he
    · simp at he; subst he; exact .inr rfl
    · exact h3 e he
/-- A first step that yields, or ends it for good. -/
theorem FineAt.bind {α β : Type} {L : α → Prop} {k : Nat} {x : Sem β} {f : β → Sem α} (hx : x.calm fun _ => True) (hm : ∀ w es h w', (x.runT P w es).1 = .halt h w' → h.live = false) (hf : ∀ a, FineAt P L k (f a)) : FineAt P L k (x >>= f) := by
  have hr : ∀ w es, (x >>= f).runT P w es = match x.runT P w es with | (.ok a w', es') => (f a).runT P w' es' | (.halt h w', es') => (.halt h w', es') := fun w es => Go.Sem.runT_bind' P x f w es
  refine ⟨firm_bind x f (calm_firm P x hx) fun a => (hf a).firm, fun w es hl => ?_, fun w es b w' hb => ?_⟩
  · have h1 := (calm_events P x hx w es).1
    have h2 := hm w es
    rw [hr] at hl ⊢
    generalize x.runT P w es = y at h1 h2 hl ⊢
    obtain ⟨r, es'⟩ := y
    cases r with
    | halt h w' => have := h2 h w' rfl; simp only [Result.live, this] at hl; cases hl
    | ok a w' =>
      obtain ⟨n1, e1, h1⟩ := h1
      obtain ⟨n2, e2, h2, h3⟩ := (hf a).hears w' es' hl
      simp only at e1
      exact ⟨n1 ++ n2, by rw [e2, e1, Array.append_assoc], fun d => by rw [deafBehind_append, deafBehind_silents _ _ h1, h2], fun e he => (Array.mem_append.1 he).elim (fun h => .inl (h1 e h)) (h3 e)⟩
  · rw [hr] at hb
    generalize x.runT P w es = y at hb
    obtain ⟨r, es'⟩ := y
    cases r with
    | halt h w' => simp at hb
    | ok a w1 => exact (hf a).leaf w1 es' b w' hb
theorem FineAt.ite {α : Type} {L : α → Prop} {k : Nat} {c : Prop} [Decidable c] {x y : Sem α} (hx : FineAt P L k x) (hy : FineAt P L k y) : FineAt P L k (if c then x else y) := by split <;> assumption

theorem noCell_dead (w : World) (a : Addr) (s : String) : (w.noCell a s).live = false := by unfold World.noCell; split <;> rfl
theorem load_mild (a : Addr) (m : Mode) (w : World) (es : Array Event) (h : Halt) (w' : World) (e : ((load a m).runT P w es).1 = .halt h w') : h.live = false := by
  simp only [load, Sem.runT] at e
  split at e
  · simp at e
  · split at e
    · simp at e
    · rename_i h' hr
      simp only [Result.halt.injEq] at e
      obtain ⟨rfl, _⟩ := e
      unfold World.farLoad at hr
      split at hr
      · split at hr
        · cases hr
        · simp only [Except.error.injEq] at hr; subst hr; rfl
      · simp only [Except.error.injEq] at hr; subst hr; exact noCell_dead _ _ _
theorem storeBool_mild (a : Addr) (b : Bool) (m : Mode) (w : World) (es : Array Event) (h : Halt) (w' : World) (e : ((store a (.bool b) m).runT P w es).1 = .halt h w') : h.live = false := by
  simp only [store, Sem.runT] at e
  split at e
  · split at e
    · simp only [Result.halt.injEq] at e; obtain ⟨rfl, _⟩ := e; rfl
    · simp at e
  · split at e
    · simp at e
    · rename_i h' hr
      simp only [Result.halt.injEq] at e
      obtain ⟨rfl, _⟩ := e
      unfold World.farStore at hr
      split at hr
      · split at hr
        · cases hr
        · simp only [Except.error.injEq] at hr; subst hr; rfl
      · simp only [Except.error.injEq] at hr; subst hr; exact noCell_dead _ _ _
theorem held_mild (w : World) (es : Array Event) (h : Halt) (w' : World) (e : ((Extern.PrintPieces.held).runT P w es).1 = .halt h w') : h.live = false := by
  have hb : Extern.PrintPieces.held.runT P w es = match (load (printLock P) .atomic).runT P w es with
    | (.ok v w', es') => (match v with | .bool b => (pure b : Sem Bool) | _ => stuck "the print lock: a bool expected").runT P w' es'
    | (.halt h w', es') => (.halt h w', es') := by
    unfold Extern.PrintPieces.held
    show Sem.runT P (Sem.bind (load (printLock P) .atomic) _) w es = _
    rw [Go.Sem.runT_bind']
    generalize (load (printLock P) .atomic).runT P w es = y
    obtain ⟨r, es'⟩ := y
    cases r with
    | ok v w1 => cases v <;> rfl
    | halt h w1 => rfl
  rw [hb] at e
  have h1 := load_mild (P := P) (printLock P) .atomic w es
  generalize (load (printLock P) .atomic).runT P w es = y at h1 e
  obtain ⟨r, es'⟩ := y
  cases r with
  | halt h' w1 =>
    simp only [Result.halt.injEq] at e
    obtain ⟨rfl, _⟩ := e
    exact h1 h' w1 rfl
  | ok v w1 =>
    simp only at e
    split at e
    · simp only [pure, Sem.runT, reduceCtorEq] at e
    · simp only [stuck, Sem.runT, Result.halt.injEq] at e; obtain ⟨rfl, _⟩ := e; rfl
instance : Calm Extern.PrintPieces.held := by
  unfold Extern.PrintPieces.held
  repeat' (first | infer_instance | (intro _) | (refine c_bind _ _ ?_ ?_) | split)

theorem fine_piece (a b : Array TypeId) (args : Array Value) : Fine P okNext (Extern.PrintPieces.piece a b args) := by
  have hprog : ∀ (k : Nat) (f : Program → Sem Next), (∀ p, FineAt P okNext k (f p)) → FineAt P okNext k (program >>= f) := fun k f h => FineAt.bind (fun _ => trivial) (fun w es h w' e => by simp only [program, Sem.runT, reduceCtorEq] at e) h
  have hst : ∀ (k : Nat) (p : Program) (x : Bool) (f : Unit → Sem Next), (∀ p, FineAt P okNext k (f p)) → FineAt P okNext k (store (printLock p) (.bool x) .atomic >>= f) := fun k p x f h => FineAt.bind trivial (storeBool_mild _ _ _) h
  have hhe : ∀ (k : Nat) (f : Bool → Sem Next), (∀ p, FineAt P okNext k (f p)) → FineAt P okNext k (Extern.PrintPieces.held >>= f) := fun k f h => FineAt.bind (Calm.out) held_mild h
  have hcalm : ∀ {β : Type} (x : Sem β) [Calm x] (f : β → Sem Next), (∀ p, FineAt P okNext 0 (f p)) → FineAt P okNext 0 (x >>= f) := fun x _ f h => (Fine.calm_bind fun a => (h a).fine).at
  have hdead : ∀ (k : Nat) (s : String), FineAt P okNext k (stuck s : Sem Next) := fun k s => FineAt.dead _ rfl
  have hpure : ∀ n, okNext n → FineAt P okNext 0 (pure n : Sem Next) := fun n h => (fine_pure h).at
  refine FineAt.fine ?_
  unfold Extern.PrintPieces.piece
  repeat' (first | (with_reducible exact hdead _ _) | (exact hpure _ (by first | trivial | rfl)) | (with_reducible refine FineAt.disable ?_) | (with_reducible refine FineAt.enable ?_) | (with_reducible refine hhe _ _ ?_) | (with_reducible refine hprog _ _ ?_) | (with_reducible refine hst _ _ _ _ ?_) | (with_reducible refine hcalm _ _ ?_) | (exact FineAt.dead _ rfl) | (intro _) | (refine FineAt.ite ?_ ?_) | split | (dsimp only))
end

/-! ### calls -/
section
variable {P : Program}
theorem printRow_next : Extern.next printRow = some (Extern.PrintPieces.piece #[] #[]) := by kernel_rfl

theorem fine_print (a : Bool) (b : Array Bool) (c : Array TypeId) (d : Array Value) : Fine P okNext (Builtin.printMarked a b c d) := by
  unfold Builtin.printMarked
  refine Fine.calm_bind fun ps => ?_
  split
  · exact fine_pure trivial
  · exact fine_piece _ _ _

theorem fine_builtin (b : Builtin) (ats : Array TypeId) (t : TypeId) (cs : Array Bool) (args : Array Value) : Fine P okNext (builtin b ats t cs args) := by
  unfold builtin
  cases b <;> dsimp only <;> first | exact fine_value _ | exact fine_print _ _ _ _ | exact fine_pure trivial | exact fine_stuck _ | exact fine_unsupported _ | exact .of_calm (calm_any _ _ fun _ => trivial)

theorem fine_callFunc (hP : Plain P) (f : FuncId) (args : Array Value) : Fine P okNext (callFunc f args) := by
  unfold callFunc
  refine Fine.program ?_
  split
  · exact fine_stuck _
  rename_i fn hf
  rw [if_neg (by rw [hP.name f fn hf]; simp)]
  by_cases hb : fn.body.isNone = true
  · rw [if_pos hb]
    refine Fine.calm_bind fun _ => ?_
    rw [hP.next f fn hf hb]
    dsimp only
    cases he : Extern.find fn with
    | none =>
      dsimp only
      split
      · exact fine_pure trivial
      · exact fine_unsupported _
    | some e =>
      have := hP.find f fn e hf hb he args
      exact fine_value _
  · rw [if_neg hb]
    exact fine_pure trivial

theorem fine_callMethod (hP : Plain P) (r : Value) (n : String) (args : Array Value) : Fine P okNext (callMethod r n args) := by
  unfold callMethod
  split
  · refine Fine.program (Fine.calm_bind fun x => ?_)
    exact fine_callFunc hP _ _
  · exact fine_panic _
  · exact fine_stuck _

theorem fine_yield (l : Nat) (args : Array Value) : Fine P okNext (Instr.yield l args) := by
  unfold Instr.yield
  refine .of_calm (calm_any _ _ fun r => ?_)
  split
  · exact trivial
  · exact trivial

theorem fine_invoke (hP : Plain P) (t : Target) (args : Array Value) : Fine P okNext (invoke t args) := by
  unfold invoke
  split
  · exact fine_panic _
  · exact fine_builtin _ _ _ _ _
  · exact fine_callFunc hP _ _
  · split
    · exact fine_callMethod hP _ _ _
    · exact fine_stuck _
  · split
    · refine Fine.calm_bind fun d => ?_
      split <;> exact fine_callMethod hP _ _ _
    · exact fine_stuck _
  · split
    · refine Fine.calm_bind fun d => ?_
      exact fine_callFunc hP _ _
    · exact fine_stuck _
  · exact fine_yield _ _
  · exact fine_stuck _
  · exact fine_pure trivial

theorem fine_execOp (hP : Plain P) (ρ : Operand → Value) (o : Oper) : Fine P okNext (execOp ρ o) := by
  unfold execOp
  dsimp only
  split
  all_goals try exact fine_value _
  all_goals try exact fine_unit _
  all_goals try exact fine_pure trivial
  · exact .of_calm (calm_any _ _ fun _ => trivial)
  · split
    · exact fine_panic _
    · exact fine_panic _
    · exact fine_panic _
    · split
      · exact fine_panic _
      · refine .of_calm (calm_any _ _ fun _ => calm_any _ _ fun _ => ?_)
        split
        · exact calm_any _ _ fun _ => trivial
        · exact trivial
      · exact fine_pure trivial
    · exact fine_pure trivial
  · exact Fine.calm_bind fun d => fine_invoke hP _ _
  · exact .of_calm (calm_any _ _ fun _ => trivial)
  · exact .of_calm (calm_any _ _ fun _ => trivial)
  · refine .of_calm (calm_any _ _ fun d => ?_)
    split
    · exact calm_any _ _ fun _ => trivial
    · exact trivial
  · exact .of_calm (calm_any _ _ fun _ => trivial)
end

end Go.Gat
