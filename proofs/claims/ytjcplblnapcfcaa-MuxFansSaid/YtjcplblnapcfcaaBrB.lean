/-
  EVERY OPERATION OF THE LANGUAGE IS CALM: its text says neither 'disable' nor 'enable', and behind a call to the outside that would wait it goes no further. One instance a function of the model; laid by a small program.
-/
import Derived.Test.YtjcplblnapcfcaaBrA
import Derived.Laws.Sem
namespace Go.Gat

class Calm {α : Type} (s : Sem α) : Prop where
  out : s.calm (fun _ => True)

theorem calm_bind {α β : Type} {L : α → Prop} {M : β → Prop} (x : Sem α) (f : α → Sem β) (hx : x.calm L) (hf : ∀ a, L a → (f a).calm M) : (x.bind f).calm M := by
  induction x with
  | pure a => exact hf a hx
  | halt h => trivial
  | load m a k ih => exact fun v => ih v (hx v)
  | store m a v k ih => exact ih hx
  | new o k ih => exact fun r => ih r (hx r)
  | shape r k ih => exact fun s => ih s (hx s)
  | freeze a n k ih => exact ih hx
  | frozen a k ih => exact fun b => ih b (hx b)
  | getObj r k ih => exact fun o => ih o (hx o)
  | setObj r o k ih => exact ih hx
  | choose q k ih => exact fun n => ih n (hx n)
  | sys c k ih =>
    refine ⟨?_, fun r => ih r (hx.2 r)⟩
    obtain ⟨h, hk, hl⟩ := hx.1
    exact ⟨h, by simp only [hk]; rfl, hl⟩
  | program k ih => exact fun p => ih p (hx p)
  | mark m k ih => exact ⟨hx.1, hx.2.1, ih hx.2.2⟩

theorem calm_mono {α : Type} {L M : α → Prop} (x : Sem α) (hx : x.calm L) (h : ∀ a, L a → M a) : x.calm M := by
  have := calm_bind x Sem.pure hx (M := M) h
  rwa [Sem.bind_pure'] at this

theorem c_bind {α β : Type} (x : Sem α) (f : α → Sem β) (hx : Calm x) (hf : ∀ a, Calm (f a)) : Calm (x >>= f) := ⟨calm_bind x f hx.out fun a _ => (hf a).out⟩
instance {α β : Type} (x : Sem α) (f : α → Sem β) [hx : Calm x] [hf : ∀ a, Calm (f a)] : Calm (x >>= f) := c_bind x f hx hf
instance {α β : Type} (x : Sem α) (f : α → β) [hx : Calm x] : Calm (f <$> x) := by
  rw [← bind_pure_comp]; exact c_bind _ _ hx fun a => ⟨trivial⟩
instance {α : Type} (a : α) : Calm (pure a : Sem α) := ⟨trivial⟩
instance {α : Type} (h : Halt) : Calm (Sem.halt h : Sem α) := ⟨trivial⟩
theorem c_bind' {α β : Type} (x : Sem α) (f : α → Sem β) (hx : Calm x) (hf : ∀ a, Calm (f a)) : Calm (x.bind f) := c_bind x f hx hf
theorem c_getObj {α : Type} (r : Nat) (k : Obj → Sem α) (h : ∀ o, Calm (k o)) : Calm (Sem.getObj r k) := ⟨fun o => (h o).out⟩
theorem c_program {α : Type} (k : Program → Sem α) (h : ∀ p, Calm (k p)) : Calm (Sem.program k) := ⟨fun p => (h p).out⟩
theorem c_choose {α : Type} (q : Question) (k : Nat → Sem α) (h : ∀ p, Calm (k p)) : Calm (Sem.choose q k) := ⟨fun p => (h p).out⟩
theorem c_shape {α : Type} (q : Nat) (k : Option (TypeId × Nat) → Sem α) (h : ∀ p, Calm (k p)) : Calm (Sem.shape q k) := ⟨fun p => (h p).out⟩
instance {α : Type} (a : α) : Calm (Sem.pure a) := ⟨trivial⟩
theorem c_ite {α : Type} (c : Prop) [Decidable c] (x y : Sem α) (hx : Calm x) (hy : Calm y) : Calm (if c then x else y) := by split <;> assumption
instance {α : Type} (c : Prop) [Decidable c] (x y : Sem α) [hx : Calm x] [hy : Calm y] : Calm (if c then x else y) := c_ite c x y hx hy
theorem c_forIn {α β : Type} (l : List α) (b : β) (f : α → β → Sem (ForInStep β)) (hf : ∀ a b, Calm (f a b)) : Calm (forIn l b f) := by
  induction l generalizing b with
  | nil => exact ⟨trivial⟩
  | cons x l ih =>
    rw [List.forIn_cons]
    refine c_bind _ _ (hf x b) fun r => ?_
    cases r with
    | done b => exact ⟨trivial⟩
    | yield b => exact ih b
theorem c_forInA {α β : Type} (l : Array α) (b : β) (f : α → β → Sem (ForInStep β)) (hf : ∀ a b, Calm (f a b)) : Calm (forIn l b f) := by
  rw [← Array.forIn_toList]; exact c_forIn _ _ _ hf
theorem c_forInR {β : Type} (r : Std.Legacy.Range) (b : β) (f : Nat → β → Sem (ForInStep β)) (hf : ∀ a b, Calm (f a b)) : Calm (forIn r b f) := by
  rw [Std.Legacy.Range.forIn_eq_forIn_range']; exact c_forIn _ _ _ hf
theorem c_forIn' {α β : Type} (l : List α) (b : β) (f : (a : α) → a ∈ l → β → Sem (ForInStep β)) (hf : ∀ a h b, Calm (f a h b)) : Calm (forIn' l b f) := by
  induction l generalizing b with
  | nil => exact ⟨trivial⟩
  | cons x l ih =>
    rw [List.forIn'_cons]
    refine c_bind _ _ (hf x _ b) fun r => ?_
    cases r with
    | done b => exact ⟨trivial⟩
    | yield b => exact ih b _ fun a h b => hf a _ b
theorem c_forInR' {β : Type} (r : Std.Legacy.Range) (b : β) (f : (a : Nat) → a ∈ r → β → Sem (ForInStep β)) (hf : ∀ a h b, Calm (f a h b)) : Calm (forIn' r b f) := by
  rw [Std.Legacy.Range.forIn'_eq_forIn'_range']; exact c_forIn' _ _ _ fun a h b => hf a _ b

instance (a : Addr) (m : Mode) : Calm (load a m) := ⟨by first | trivial | exact fun _ => trivial⟩
instance (a : Addr) (v : Value) (m : Mode) : Calm (store a v m) := ⟨by first | trivial | exact fun _ => trivial⟩
instance (o : Obj) : Calm (newObj o) := ⟨by first | trivial | exact fun _ => trivial⟩
instance (r : Nat) : Calm (shape r) := ⟨by first | trivial | exact fun _ => trivial⟩
instance (a : Addr) (n : Nat) : Calm (freeze a n) := ⟨by first | trivial | exact fun _ => trivial⟩
instance (a : Addr) : Calm (frozen a) := ⟨by first | trivial | exact fun _ => trivial⟩
instance (r : Nat) : Calm (getObj r) := ⟨by first | trivial | exact fun _ => trivial⟩
instance (r : Nat) (o : Obj) : Calm (setObj r o) := ⟨by first | trivial | exact fun _ => trivial⟩
instance (q : Question) : Calm (choose q) := ⟨by first | trivial | exact fun _ => trivial⟩
instance  : Calm (program) := ⟨by first | trivial | exact fun _ => trivial⟩
instance (fd : Nat) (b : ByteArray) : Calm (writeFd fd b) := ⟨⟨_, rfl, rfl⟩, fun r => by cases r <;> trivial⟩
instance {α : Type} (s : String) : Calm (stuck s : Sem α) := ⟨trivial⟩
instance {α : Type} (u : Unsupported) : Calm (unsupported u : Sem α) := ⟨trivial⟩
instance {α : Type} (v : Value) : Calm (goPanic v : Sem α) := ⟨trivial⟩
instance {α : Type} (m : String) : Calm (fatal m : Sem α) := ⟨trivial⟩
instance {α : Type} (m : String) : Calm (throw m : Sem α) := ⟨trivial⟩
instance {α : Type} : Calm (blocked : Sem α) := ⟨trivial⟩
instance {α : Type} : Calm (blockedOutside : Sem α) := ⟨trivial⟩
instance : Calm (mark .noRoom) := ⟨by simp, by simp, trivial⟩
instance (f : FuncId) : Calm (mark (.extern f)) := ⟨by simp, by simp, trivial⟩
instance (n : Nat) : Calm (askRoom n) := by unfold askRoom; split <;> exact ⟨by first | trivial | exact ⟨by simp, by simp, trivial⟩⟩
instance (r : Nat) : Calm (viewAt r) := by
  unfold viewAt
  repeat' (first | infer_instance | (intro _) | (refine c_bind _ _ ?_ ?_) | (refine c_ite _ _ _ ?_ ?_) | (refine c_forIn _ _ _ ?_) | (refine c_forInA _ _ _ ?_) | (refine c_forInR _ _ _ ?_) | (refine c_forInR' _ _ _ ?_) | (refine c_bind' _ _ ?_ ?_) | (refine c_getObj _ _ ?_) | (refine c_program _ ?_) | (refine c_choose _ _ ?_) | (refine c_shape _ _ ?_) | split | (dsimp only))
instance (r : Nat) : Calm (numberAt r) := by
  unfold numberAt
  repeat' (first | infer_instance | (intro _) | (refine c_bind _ _ ?_ ?_) | (refine c_ite _ _ _ ?_ ?_) | (refine c_forIn _ _ _ ?_) | (refine c_forInA _ _ _ ?_) | (refine c_forInR _ _ _ ?_) | (refine c_forInR' _ _ _ ?_) | (refine c_bind' _ _ ?_ ?_) | (refine c_getObj _ _ ?_) | (refine c_program _ ?_) | (refine c_choose _ _ ?_) | (refine c_shape _ _ ?_) | split | (dsimp only))
instance (r : Nat) : Calm (cellsIn r) := by
  unfold cellsIn
  repeat' (first | infer_instance | (intro _) | (refine c_bind _ _ ?_ ?_) | (refine c_ite _ _ _ ?_ ?_) | (refine c_forIn _ _ _ ?_) | (refine c_forInA _ _ _ ?_) | (refine c_forInR _ _ _ ?_) | (refine c_forInR' _ _ _ ?_) | (refine c_bind' _ _ ?_ ?_) | (refine c_getObj _ _ ?_) | (refine c_program _ ?_) | (refine c_choose _ _ ?_) | (refine c_shape _ _ ?_) | split | (dsimp only))
instance (a : Addr) (b : Bool) : Calm (asNumber a b) := by
  unfold asNumber
  repeat' (first | infer_instance | (intro _) | (refine c_bind _ _ ?_ ?_) | (refine c_ite _ _ _ ?_ ?_) | (refine c_forIn _ _ _ ?_) | (refine c_forInA _ _ _ ?_) | (refine c_forInR _ _ _ ?_) | (refine c_forInR' _ _ _ ?_) | (refine c_bind' _ _ ?_ ?_) | (refine c_getObj _ _ ?_) | (refine c_program _ ?_) | (refine c_choose _ _ ?_) | (refine c_shape _ _ ?_) | split | (dsimp only))
instance (a : Addr) : Calm (behindNumber a) := by
  unfold behindNumber
  repeat' (first | infer_instance | (intro _) | (refine c_bind _ _ ?_ ?_) | (refine c_ite _ _ _ ?_ ?_) | (refine c_forIn _ _ _ ?_) | (refine c_forInA _ _ _ ?_) | (refine c_forInR _ _ _ ?_) | (refine c_forInR' _ _ _ ?_) | (refine c_bind' _ _ ?_ ?_) | (refine c_getObj _ _ ?_) | (refine c_program _ ?_) | (refine c_choose _ _ ?_) | (refine c_shape _ _ ?_) | split | (dsimp only))
instance (a : Addr) : Calm (backFromNumber a) := by
  unfold backFromNumber
  repeat' (first | infer_instance | (intro _) | (refine c_bind _ _ ?_ ?_) | (refine c_ite _ _ _ ?_ ?_) | (refine c_forIn _ _ _ ?_) | (refine c_forInA _ _ _ ?_) | (refine c_forInR _ _ _ ?_) | (refine c_forInR' _ _ _ ?_) | (refine c_bind' _ _ ?_ ?_) | (refine c_getObj _ _ ?_) | (refine c_program _ ?_) | (refine c_choose _ _ ?_) | (refine c_shape _ _ ?_) | split | (dsimp only))
instance (a : Addr) : Calm (noView a) := by
  unfold noView
  repeat' (first | infer_instance | (intro _) | (refine c_bind _ _ ?_ ?_) | (refine c_ite _ _ _ ?_ ?_) | (refine c_forIn _ _ _ ?_) | (refine c_forInA _ _ _ ?_) | (refine c_forInR _ _ _ ?_) | (refine c_forInR' _ _ _ ?_) | (refine c_bind' _ _ ?_ ?_) | (refine c_getObj _ _ ?_) | (refine c_program _ ?_) | (refine c_choose _ _ ?_) | (refine c_shape _ _ ?_) | split | (dsimp only))
instance (a : Addr) : Calm (markStringish a) := by
  unfold markStringish
  repeat' (first | infer_instance | (intro _) | (refine c_bind _ _ ?_ ?_) | (refine c_ite _ _ _ ?_ ?_) | (refine c_forIn _ _ _ ?_) | (refine c_forInA _ _ _ ?_) | (refine c_forInR _ _ _ ?_) | (refine c_forInR' _ _ _ ?_) | (refine c_bind' _ _ ?_ ?_) | (refine c_getObj _ _ ?_) | (refine c_program _ ?_) | (refine c_choose _ _ ?_) | (refine c_shape _ _ ?_) | split | (dsimp only))
instance (a : Addr) : Calm (stringish a) := by
  unfold stringish
  repeat' (first | infer_instance | (intro _) | (refine c_bind _ _ ?_ ?_) | (refine c_ite _ _ _ ?_ ?_) | (refine c_forIn _ _ _ ?_) | (refine c_forInA _ _ _ ?_) | (refine c_forInR _ _ _ ?_) | (refine c_forInR' _ _ _ ?_) | (refine c_bind' _ _ ?_ ?_) | (refine c_getObj _ _ ?_) | (refine c_program _ ?_) | (refine c_choose _ _ ?_) | (refine c_shape _ _ ?_) | split | (dsimp only))
instance (a b : Addr) : Calm (mayBeOne a b) := by
  unfold mayBeOne
  repeat' (first | infer_instance | (intro _) | (refine c_bind _ _ ?_ ?_) | (refine c_ite _ _ _ ?_ ?_) | (refine c_forIn _ _ _ ?_) | (refine c_forInA _ _ _ ?_) | (refine c_forInR _ _ _ ?_) | (refine c_forInR' _ _ _ ?_) | (refine c_bind' _ _ ?_ ?_) | (refine c_getObj _ _ ?_) | (refine c_program _ ?_) | (refine c_choose _ _ ?_) | (refine c_shape _ _ ?_) | split | (dsimp only))
instance (a b : Addr) : Calm (sameAddr a b) := by
  unfold sameAddr
  repeat' (first | infer_instance | (intro _) | (refine c_bind _ _ ?_ ?_) | (refine c_ite _ _ _ ?_ ?_) | (refine c_forIn _ _ _ ?_) | (refine c_forInA _ _ _ ?_) | (refine c_forInR _ _ _ ?_) | (refine c_forInR' _ _ _ ?_) | (refine c_bind' _ _ ?_ ?_) | (refine c_getObj _ _ ?_) | (refine c_program _ ?_) | (refine c_choose _ _ ?_) | (refine c_shape _ _ ?_) | split | (dsimp only))
instance (a b : Option Addr) : Calm (samePointer a b) := by
  cases a <;> cases b <;> unfold samePointer <;> infer_instance
instance (t : TypeId) : Calm (typeInfo t) := by
  unfold typeInfo
  repeat' (first | infer_instance | (intro _) | (refine c_bind _ _ ?_ ?_) | (refine c_ite _ _ _ ?_ ?_) | (refine c_forIn _ _ _ ?_) | (refine c_forInA _ _ _ ?_) | (refine c_forInR _ _ _ ?_) | (refine c_forInR' _ _ _ ?_) | (refine c_bind' _ _ ?_ ?_) | (refine c_getObj _ _ ?_) | (refine c_program _ ?_) | (refine c_choose _ _ ?_) | (refine c_shape _ _ ?_) | split | (dsimp only))
instance (t : TypeId) : Calm (underlying t) := by
  unfold underlying
  repeat' (first | infer_instance | (intro _) | (refine c_bind _ _ ?_ ?_) | (refine c_ite _ _ _ ?_ ?_) | (refine c_forIn _ _ _ ?_) | (refine c_forInA _ _ _ ?_) | (refine c_forInR _ _ _ ?_) | (refine c_forInR' _ _ _ ?_) | (refine c_bind' _ _ ?_ ?_) | (refine c_getObj _ _ ?_) | (refine c_program _ ?_) | (refine c_choose _ _ ?_) | (refine c_shape _ _ ?_) | split | (dsimp only))
instance (n : String) : Calm (cutType n) := by
  unfold cutType
  repeat' (first | infer_instance | (intro _) | (refine c_bind _ _ ?_ ?_) | (refine c_ite _ _ _ ?_ ?_) | (refine c_forIn _ _ _ ?_) | (refine c_forInA _ _ _ ?_) | (refine c_forInR _ _ _ ?_) | (refine c_forInR' _ _ _ ?_) | (refine c_bind' _ _ ?_ ?_) | (refine c_getObj _ _ ?_) | (refine c_program _ ?_) | (refine c_choose _ _ ?_) | (refine c_shape _ _ ?_) | split | (dsimp only))
instance (n : String) : Calm (globalAddr n) := by
  unfold globalAddr
  repeat' (first | infer_instance | (intro _) | (refine c_bind _ _ ?_ ?_) | (refine c_ite _ _ _ ?_ ?_) | (refine c_forIn _ _ _ ?_) | (refine c_forInA _ _ _ ?_) | (refine c_forInR _ _ _ ?_) | (refine c_forInR' _ _ _ ?_) | (refine c_bind' _ _ ?_ ?_) | (refine c_getObj _ _ ?_) | (refine c_program _ ?_) | (refine c_choose _ _ ?_) | (refine c_shape _ _ ?_) | split | (dsimp only))
instance (t : TypeId) : Calm (typeStr t) := by
  unfold typeStr
  repeat' (first | infer_instance | (intro _) | (refine c_bind _ _ ?_ ?_) | (refine c_ite _ _ _ ?_ ?_) | (refine c_forIn _ _ _ ?_) | (refine c_forInA _ _ _ ?_) | (refine c_forInR _ _ _ ?_) | (refine c_forInR' _ _ _ ?_) | (refine c_bind' _ _ ?_ ?_) | (refine c_getObj _ _ ?_) | (refine c_program _ ?_) | (refine c_choose _ _ ?_) | (refine c_shape _ _ ?_) | split | (dsimp only))
instance (t : TypeId) : Calm (zeroValue t) := by
  unfold zeroValue
  repeat' (first | infer_instance | (intro _) | (refine c_bind _ _ ?_ ?_) | (refine c_ite _ _ _ ?_ ?_) | (refine c_forIn _ _ _ ?_) | (refine c_forInA _ _ _ ?_) | (refine c_forInR _ _ _ ?_) | (refine c_forInR' _ _ _ ?_) | (refine c_bind' _ _ ?_ ?_) | (refine c_getObj _ _ ?_) | (refine c_program _ ?_) | (refine c_choose _ _ ?_) | (refine c_shape _ _ ?_) | split | (dsimp only))
instance (t : TypeId) : Calm (sizeOf t) := by
  unfold sizeOf
  repeat' (first | infer_instance | (intro _) | (refine c_bind _ _ ?_ ?_) | (refine c_ite _ _ _ ?_ ?_) | (refine c_forIn _ _ _ ?_) | (refine c_forInA _ _ _ ?_) | (refine c_forInR _ _ _ ?_) | (refine c_forInR' _ _ _ ?_) | (refine c_bind' _ _ ?_ ?_) | (refine c_getObj _ _ ?_) | (refine c_program _ ?_) | (refine c_choose _ _ ?_) | (refine c_shape _ _ ?_) | split | (dsimp only))
instance (t : TypeId) : Calm (isAgg t) := by
  unfold isAgg
  repeat' (first | infer_instance | (intro _) | (refine c_bind _ _ ?_ ?_) | (refine c_ite _ _ _ ?_ ?_) | (refine c_forIn _ _ _ ?_) | (refine c_forInA _ _ _ ?_) | (refine c_forInR _ _ _ ?_) | (refine c_forInR' _ _ _ ?_) | (refine c_bind' _ _ ?_ ?_) | (refine c_getObj _ _ ?_) | (refine c_program _ ?_) | (refine c_choose _ _ ?_) | (refine c_shape _ _ ?_) | split | (dsimp only))
instance (a : Addr) (i n : Nat) (acc : Array Value) : Calm (loadCellsFrom a i n acc) := by
  induction n generalizing i acc with
  | zero => unfold loadCellsFrom; infer_instance
  | succ n ih => unfold loadCellsFrom; infer_instance
instance (a : Addr) (n : Nat) : Calm (loadCells a n) := by
  unfold loadCells
  repeat' (first | infer_instance | (intro _) | (refine c_bind _ _ ?_ ?_) | (refine c_ite _ _ _ ?_ ?_) | (refine c_forIn _ _ _ ?_) | (refine c_forInA _ _ _ ?_) | (refine c_forInR _ _ _ ?_) | (refine c_forInR' _ _ _ ?_) | (refine c_bind' _ _ ?_ ?_) | (refine c_getObj _ _ ?_) | (refine c_program _ ?_) | (refine c_choose _ _ ?_) | (refine c_shape _ _ ?_) | split | (dsimp only))
instance (a : Addr) (vs : List Value) (i : Nat) : Calm (storeCells a vs i) := by
  induction vs generalizing i with
  | nil => unfold storeCells; infer_instance
  | cons v vs ih => unfold storeCells; infer_instance
instance (t : TypeId) (a : Addr) : Calm (loadVar t a) := by
  unfold loadVar
  repeat' (first | infer_instance | (intro _) | (refine c_bind _ _ ?_ ?_) | (refine c_ite _ _ _ ?_ ?_) | (refine c_forIn _ _ _ ?_) | (refine c_forInA _ _ _ ?_) | (refine c_forInR _ _ _ ?_) | (refine c_forInR' _ _ _ ?_) | (refine c_bind' _ _ ?_ ?_) | (refine c_getObj _ _ ?_) | (refine c_program _ ?_) | (refine c_choose _ _ ?_) | (refine c_shape _ _ ?_) | split | (dsimp only))
instance (t : TypeId) (a : Addr) (v : Value) : Calm (storeVar t a v) := by
  unfold storeVar
  repeat' (first | infer_instance | (intro _) | (refine c_bind _ _ ?_ ?_) | (refine c_ite _ _ _ ?_ ?_) | (refine c_forIn _ _ _ ?_) | (refine c_forInA _ _ _ ?_) | (refine c_forInR _ _ _ ?_) | (refine c_forInR' _ _ _ ?_) | (refine c_bind' _ _ ?_ ?_) | (refine c_getObj _ _ ?_) | (refine c_program _ ?_) | (refine c_choose _ _ ?_) | (refine c_shape _ _ ?_) | split | (dsimp only))
instance (t : TypeId) (c : Array Value) : Calm (newRow t c) := by
  unfold newRow
  repeat' (first | infer_instance | (intro _) | (refine c_bind _ _ ?_ ?_) | (refine c_ite _ _ _ ?_ ?_) | (refine c_forIn _ _ _ ?_) | (refine c_forInA _ _ _ ?_) | (refine c_forInR _ _ _ ?_) | (refine c_forInR' _ _ _ ?_) | (refine c_bind' _ _ ?_ ?_) | (refine c_getObj _ _ ?_) | (refine c_program _ ?_) | (refine c_choose _ _ ?_) | (refine c_shape _ _ ?_) | split | (dsimp only))
instance (t : TypeId) (v : Value) : Calm (newVar t v) := by
  unfold newVar
  repeat' (first | infer_instance | (intro _) | (refine c_bind _ _ ?_ ?_) | (refine c_ite _ _ _ ?_ ?_) | (refine c_forIn _ _ _ ?_) | (refine c_forInA _ _ _ ?_) | (refine c_forInR _ _ _ ?_) | (refine c_forInR' _ _ _ ?_) | (refine c_bind' _ _ ?_ ?_) | (refine c_getObj _ _ ?_) | (refine c_program _ ?_) | (refine c_choose _ _ ?_) | (refine c_shape _ _ ?_) | split | (dsimp only))
instance (t : TypeId) : Calm (elemOf t) := by
  unfold elemOf
  repeat' (first | infer_instance | (intro _) | (refine c_bind _ _ ?_ ?_) | (refine c_ite _ _ _ ?_ ?_) | (refine c_forIn _ _ _ ?_) | (refine c_forInA _ _ _ ?_) | (refine c_forInR _ _ _ ?_) | (refine c_forInR' _ _ _ ?_) | (refine c_bind' _ _ ?_ ?_) | (refine c_getObj _ _ ?_) | (refine c_program _ ?_) | (refine c_choose _ _ ?_) | (refine c_shape _ _ ?_) | split | (dsimp only))
instance (t : TypeId) (c : Array Value) (o : Nat) : Calm (part t c o) := by
  unfold part
  repeat' (first | infer_instance | (intro _) | (refine c_bind _ _ ?_ ?_) | (refine c_ite _ _ _ ?_ ?_) | (refine c_forIn _ _ _ ?_) | (refine c_forInA _ _ _ ?_) | (refine c_forInR _ _ _ ?_) | (refine c_forInR' _ _ _ ?_) | (refine c_bind' _ _ ?_ ?_) | (refine c_getObj _ _ ?_) | (refine c_program _ ?_) | (refine c_choose _ _ ?_) | (refine c_shape _ _ ?_) | split | (dsimp only))
instance {α : Type} (m : String) : Calm (panicString (α := α) m) := by
  unfold panicString
  repeat' (first | infer_instance | (intro _) | (refine c_bind _ _ ?_ ?_) | (refine c_ite _ _ _ ?_ ?_) | (refine c_forIn _ _ _ ?_) | (refine c_forInA _ _ _ ?_) | (refine c_forInR _ _ _ ?_) | (refine c_forInR' _ _ _ ?_) | (refine c_bind' _ _ ?_ ?_) | (refine c_getObj _ _ ?_) | (refine c_program _ ?_) | (refine c_choose _ _ ?_) | (refine c_shape _ _ ?_) | split | (dsimp only))
instance {α : Type} (e : RuntimeError) : Calm (runtimePanic (α := α) e) := by
  unfold runtimePanic
  repeat' (first | infer_instance | (intro _) | (refine c_bind _ _ ?_ ?_) | (refine c_ite _ _ _ ?_ ?_) | (refine c_forIn _ _ _ ?_) | (refine c_forInA _ _ _ ?_) | (refine c_forInR _ _ _ ?_) | (refine c_forInR' _ _ _ ?_) | (refine c_bind' _ _ ?_ ?_) | (refine c_getObj _ _ ?_) | (refine c_program _ ?_) | (refine c_choose _ _ ?_) | (refine c_shape _ _ ?_) | split | (dsimp only))
instance {α : Type} (k : IntKind) (x y : Int) (c : BoundsCode) : Calm (boundsPanic (α := α) k x y c) := by
  unfold boundsPanic
  repeat' (first | infer_instance | (intro _) | (refine c_bind _ _ ?_ ?_) | (refine c_ite _ _ _ ?_ ?_) | (refine c_forIn _ _ _ ?_) | (refine c_forInA _ _ _ ?_) | (refine c_forInR _ _ _ ?_) | (refine c_forInR' _ _ _ ?_) | (refine c_bind' _ _ ?_ ?_) | (refine c_getObj _ _ ?_) | (refine c_program _ ?_) | (refine c_choose _ _ ?_) | (refine c_shape _ _ ?_) | split | (dsimp only))
instance (v : Value) : Calm (asIntOf v) := by
  unfold asIntOf
  repeat' (first | infer_instance | (intro _) | (refine c_bind _ _ ?_ ?_) | (refine c_ite _ _ _ ?_ ?_) | (refine c_forIn _ _ _ ?_) | (refine c_forInA _ _ _ ?_) | (refine c_forInR _ _ _ ?_) | (refine c_forInR' _ _ _ ?_) | (refine c_bind' _ _ ?_ ?_) | (refine c_getObj _ _ ?_) | (refine c_program _ ?_) | (refine c_choose _ _ ?_) | (refine c_shape _ _ ?_) | split | (dsimp only))
instance (v : Value) : Calm (asInt v) := by
  unfold asInt
  repeat' (first | infer_instance | (intro _) | (refine c_bind _ _ ?_ ?_) | (refine c_ite _ _ _ ?_ ?_) | (refine c_forIn _ _ _ ?_) | (refine c_forInA _ _ _ ?_) | (refine c_forInR _ _ _ ?_) | (refine c_forInR' _ _ _ ?_) | (refine c_bind' _ _ ?_ ?_) | (refine c_getObj _ _ ?_) | (refine c_program _ ?_) | (refine c_choose _ _ ?_) | (refine c_shape _ _ ?_) | split | (dsimp only))
instance (v : Value) : Calm (asBool v) := by
  unfold asBool
  repeat' (first | infer_instance | (intro _) | (refine c_bind _ _ ?_ ?_) | (refine c_ite _ _ _ ?_ ?_) | (refine c_forIn _ _ _ ?_) | (refine c_forInA _ _ _ ?_) | (refine c_forInR _ _ _ ?_) | (refine c_forInR' _ _ _ ?_) | (refine c_bind' _ _ ?_ ?_) | (refine c_getObj _ _ ?_) | (refine c_program _ ?_) | (refine c_choose _ _ ?_) | (refine c_shape _ _ ?_) | split | (dsimp only))
instance (v : Value) : Calm (asString v) := by
  unfold asString
  repeat' (first | infer_instance | (intro _) | (refine c_bind _ _ ?_ ?_) | (refine c_ite _ _ _ ?_ ?_) | (refine c_forIn _ _ _ ?_) | (refine c_forInA _ _ _ ?_) | (refine c_forInR _ _ _ ?_) | (refine c_forInR' _ _ _ ?_) | (refine c_bind' _ _ ?_ ?_) | (refine c_getObj _ _ ?_) | (refine c_program _ ?_) | (refine c_choose _ _ ?_) | (refine c_shape _ _ ?_) | split | (dsimp only))
instance (v : Value) : Calm (asAgg v) := by
  unfold asAgg
  repeat' (first | infer_instance | (intro _) | (refine c_bind _ _ ?_ ?_) | (refine c_ite _ _ _ ?_ ?_) | (refine c_forIn _ _ _ ?_) | (refine c_forInA _ _ _ ?_) | (refine c_forInR _ _ _ ?_) | (refine c_forInR' _ _ _ ?_) | (refine c_bind' _ _ ?_ ?_) | (refine c_getObj _ _ ?_) | (refine c_program _ ?_) | (refine c_choose _ _ ?_) | (refine c_shape _ _ ?_) | split | (dsimp only))
instance (v : Value) : Calm (asAddr v) := by
  unfold asAddr
  repeat' (first | infer_instance | (intro _) | (refine c_bind _ _ ?_ ?_) | (refine c_ite _ _ _ ?_ ?_) | (refine c_forIn _ _ _ ?_) | (refine c_forInA _ _ _ ?_) | (refine c_forInR _ _ _ ?_) | (refine c_forInR' _ _ _ ?_) | (refine c_bind' _ _ ?_ ?_) | (refine c_getObj _ _ ?_) | (refine c_program _ ?_) | (refine c_choose _ _ ?_) | (refine c_shape _ _ ?_) | split | (dsimp only))
instance (a : Addr) : Calm (byteOf a) := by
  unfold byteOf
  repeat' (first | infer_instance | (intro _) | (refine c_bind _ _ ?_ ?_) | (refine c_ite _ _ _ ?_ ?_) | (refine c_forIn _ _ _ ?_) | (refine c_forInA _ _ _ ?_) | (refine c_forInR _ _ _ ?_) | (refine c_forInR' _ _ _ ?_) | (refine c_bind' _ _ ?_ ?_) | (refine c_getObj _ _ ?_) | (refine c_program _ ?_) | (refine c_choose _ _ ?_) | (refine c_shape _ _ ?_) | split | (dsimp only))
instance (a : Addr) (c b : Nat) : Calm (partAt a c b) := by
  unfold partAt
  repeat' (first | infer_instance | (intro _) | (refine c_bind _ _ ?_ ?_) | (refine c_ite _ _ _ ?_ ?_) | (refine c_forIn _ _ _ ?_) | (refine c_forInA _ _ _ ?_) | (refine c_forInR _ _ _ ?_) | (refine c_forInR' _ _ _ ?_) | (refine c_bind' _ _ ?_ ?_) | (refine c_getObj _ _ ?_) | (refine c_program _ ?_) | (refine c_choose _ _ ?_) | (refine c_shape _ _ ?_) | split | (dsimp only))
instance (a : Addr) (f : Field) : Calm (fieldPlace a f) := by
  unfold fieldPlace
  repeat' (first | infer_instance | (intro _) | (refine c_bind _ _ ?_ ?_) | (refine c_ite _ _ _ ?_ ?_) | (refine c_forIn _ _ _ ?_) | (refine c_forInA _ _ _ ?_) | (refine c_forInR _ _ _ ?_) | (refine c_forInR' _ _ _ ?_) | (refine c_bind' _ _ ?_ ?_) | (refine c_getObj _ _ ?_) | (refine c_program _ ?_) | (refine c_choose _ _ ?_) | (refine c_shape _ _ ?_) | split | (dsimp only))
instance (a : Addr) (u : TypeId) (n : Nat) : Calm (variablesAt a u n) := by
  unfold variablesAt
  repeat' (first | infer_instance | (intro _) | (refine c_bind _ _ ?_ ?_) | (refine c_ite _ _ _ ?_ ?_) | (refine c_forIn _ _ _ ?_) | (refine c_forInA _ _ _ ?_) | (refine c_forInR _ _ _ ?_) | (refine c_forInR' _ _ _ ?_) | (refine c_bind' _ _ ?_ ?_) | (refine c_getObj _ _ ?_) | (refine c_program _ ?_) | (refine c_choose _ _ ?_) | (refine c_shape _ _ ?_) | split | (dsimp only))
instance (k : IntKind) (a : Addr) (n : Nat) : Calm (intVariablesAt k a n) := by
  unfold intVariablesAt
  repeat' (first | infer_instance | (intro _) | (refine c_bind _ _ ?_ ?_) | (refine c_ite _ _ _ ?_ ?_) | (refine c_forIn _ _ _ ?_) | (refine c_forInA _ _ _ ?_) | (refine c_forInR _ _ _ ?_) | (refine c_forInR' _ _ _ ?_) | (refine c_bind' _ _ ?_ ?_) | (refine c_getObj _ _ ?_) | (refine c_program _ ?_) | (refine c_choose _ _ ?_) | (refine c_shape _ _ ?_) | split | (dsimp only))
instance (a : Addr) (n : Nat) : Calm (byteVariablesAt a n) := by
  unfold byteVariablesAt
  repeat' (first | infer_instance | (intro _) | (refine c_bind _ _ ?_ ?_) | (refine c_ite _ _ _ ?_ ?_) | (refine c_forIn _ _ _ ?_) | (refine c_forInA _ _ _ ?_) | (refine c_forInR _ _ _ ?_) | (refine c_forInR' _ _ _ ?_) | (refine c_bind' _ _ ?_ ?_) | (refine c_getObj _ _ ?_) | (refine c_program _ ?_) | (refine c_choose _ _ ?_) | (refine c_shape _ _ ?_) | split | (dsimp only))
instance (a : Addr) (acc : ByteArray) (n : Nat) : Calm (loadBytes a acc n) := by
  induction n generalizing a acc with
  | zero => unfold loadBytes; infer_instance
  | succ n ih => unfold loadBytes; repeat' (first | infer_instance | (intro _) | (refine c_bind _ _ ?_ ?_) | (refine c_ite _ _ _ ?_ ?_) | (refine c_forIn _ _ _ ?_) | (refine c_forInA _ _ _ ?_) | (refine c_forInR _ _ _ ?_) | (refine c_forInR' _ _ _ ?_) | (refine c_bind' _ _ ?_ ?_) | (refine c_getObj _ _ ?_) | (refine c_program _ ?_) | (refine c_choose _ _ ?_) | (refine c_shape _ _ ?_) | split | (dsimp only))
instance (a : Addr) (b : ByteArray) : Calm (storeBytes a b) := by
  unfold storeBytes
  repeat' (first | infer_instance | (intro _) | (refine c_bind _ _ ?_ ?_) | (refine c_ite _ _ _ ?_ ?_) | (refine c_forIn _ _ _ ?_) | (refine c_forInA _ _ _ ?_) | (refine c_forInR _ _ _ ?_) | (refine c_forInR' _ _ _ ?_) | (refine c_bind' _ _ ?_ ?_) | (refine c_getObj _ _ ?_) | (refine c_program _ ?_) | (refine c_choose _ _ ?_) | (refine c_shape _ _ ?_) | split | (dsimp only))
instance {α β : Type} (l : List α) (b : β) (f : α → β → Sem (ForInStep β)) [hf : ∀ a b, Calm (f a b)] : Calm (forIn l b f) := c_forIn l b f hf
instance {α β : Type} (l : Array α) (b : β) (f : α → β → Sem (ForInStep β)) [hf : ∀ a b, Calm (f a b)] : Calm (forIn l b f) := c_forInA l b f hf
instance {β : Type} (r : Std.Legacy.Range) (b : β) (f : Nat → β → Sem (ForInStep β)) [hf : ∀ a b, Calm (f a b)] : Calm (forIn r b f) := c_forInR r b f hf
instance {α β : Type} (l : List α) (f : α → Sem β) [hf : ∀ a, Calm (f a)] : Calm (l.mapM f) := by
  induction l with
  | nil => rw [List.mapM_nil]; infer_instance
  | cons x l ih => rw [List.mapM_cons]; infer_instance
instance {α β : Type} (l : Array α) (f : α → Sem β) [hf : ∀ a, Calm (f a)] : Calm (l.mapM f) := by
  rw [Array.mapM_eq_mapM_toList]; infer_instance
instance {α β : Type} (l : List α) (b : β) (f : β → α → Sem β) [hf : ∀ b a, Calm (f b a)] : Calm (l.foldlM f b) := by
  induction l generalizing b with
  | nil => rw [List.foldlM_nil]; infer_instance
  | cons x l ih => rw [List.foldlM_cons]; infer_instance
section
open Go.Op
instance (k : FloatKind) (x y : Nat) (op : BinOp) : Calm (Op.floatCmp op k x y) := by
  unfold Op.floatCmp
  repeat' (first | infer_instance | (intro _) | (refine c_bind _ _ ?_ ?_) | (refine c_ite _ _ _ ?_ ?_) | (refine c_forIn _ _ _ ?_) | (refine c_forInA _ _ _ ?_) | (refine c_forInR _ _ _ ?_) | (refine c_forInR' _ _ _ ?_) | (refine c_bind' _ _ ?_ ?_) | (refine c_getObj _ _ ?_) | (refine c_program _ ?_) | (refine c_choose _ _ ?_) | (refine c_shape _ _ ?_) | split | (dsimp only))
instance (k : FloatKind) (x y : Nat) (op : BinOp) : Calm (Op.floatArith op k x y) := by
  unfold Op.floatArith
  repeat' (first | infer_instance | (intro _) | (refine c_bind _ _ ?_ ?_) | (refine c_ite _ _ _ ?_ ?_) | (refine c_forIn _ _ _ ?_) | (refine c_forInA _ _ _ ?_) | (refine c_forInR _ _ _ ?_) | (refine c_forInR' _ _ _ ?_) | (refine c_bind' _ _ ?_ ?_) | (refine c_getObj _ _ ?_) | (refine c_program _ ?_) | (refine c_choose _ _ ?_) | (refine c_shape _ _ ?_) | split | (dsimp only))
instance (op : BinOp) (k : IntKind) (x y : Int) : Calm (Op.intArith op k x y) := by
  unfold Op.intArith
  repeat' (first | infer_instance | (intro _) | (refine c_bind _ _ ?_ ?_) | (refine c_ite _ _ _ ?_ ?_) | (refine c_forIn _ _ _ ?_) | (refine c_forInA _ _ _ ?_) | (refine c_forInR _ _ _ ?_) | (refine c_forInR' _ _ _ ?_) | (refine c_bind' _ _ ?_ ?_) | (refine c_getObj _ _ ?_) | (refine c_program _ ?_) | (refine c_choose _ _ ?_) | (refine c_shape _ _ ?_) | split | (dsimp only))
instance (op : BinOp) (k : IntKind) (x y : Int) : Calm (Op.intDiv op k x y) := by
  unfold Op.intDiv
  repeat' (first | infer_instance | (intro _) | (refine c_bind _ _ ?_ ?_) | (refine c_ite _ _ _ ?_ ?_) | (refine c_forIn _ _ _ ?_) | (refine c_forInA _ _ _ ?_) | (refine c_forInR _ _ _ ?_) | (refine c_forInR' _ _ _ ?_) | (refine c_bind' _ _ ?_ ?_) | (refine c_getObj _ _ ?_) | (refine c_program _ ?_) | (refine c_choose _ _ ?_) | (refine c_shape _ _ ?_) | split | (dsimp only))
instance (op : BinOp) (k : IntKind) (x y : Int) : Calm (Op.intBits op k x y) := by
  unfold Op.intBits
  repeat' (first | infer_instance | (intro _) | (refine c_bind _ _ ?_ ?_) | (refine c_ite _ _ _ ?_ ?_) | (refine c_forIn _ _ _ ?_) | (refine c_forInA _ _ _ ?_) | (refine c_forInR _ _ _ ?_) | (refine c_forInR' _ _ _ ?_) | (refine c_bind' _ _ ?_ ?_) | (refine c_getObj _ _ ?_) | (refine c_program _ ?_) | (refine c_choose _ _ ?_) | (refine c_shape _ _ ?_) | split | (dsimp only))
instance (op : BinOp) (x y : Int) : Calm (Op.intCmp op x y) := by
  unfold Op.intCmp
  repeat' (first | infer_instance | (intro _) | (refine c_bind _ _ ?_ ?_) | (refine c_ite _ _ _ ?_ ?_) | (refine c_forIn _ _ _ ?_) | (refine c_forInA _ _ _ ?_) | (refine c_forInR _ _ _ ?_) | (refine c_forInR' _ _ _ ?_) | (refine c_bind' _ _ ?_ ?_) | (refine c_getObj _ _ ?_) | (refine c_program _ ?_) | (refine c_choose _ _ ?_) | (refine c_shape _ _ ?_) | split | (dsimp only))
instance (op : BinOp) (k : IntKind) (x : Int) (yk : IntKind) (y : Int) : Calm (Op.shift op k x yk y) := by
  unfold Op.shift
  repeat' (first | infer_instance | (intro _) | (refine c_bind _ _ ?_ ?_) | (refine c_ite _ _ _ ?_ ?_) | (refine c_forIn _ _ _ ?_) | (refine c_forInA _ _ _ ?_) | (refine c_forInR _ _ _ ?_) | (refine c_forInR' _ _ _ ?_) | (refine c_bind' _ _ ?_ ?_) | (refine c_getObj _ _ ?_) | (refine c_program _ ?_) | (refine c_choose _ _ ?_) | (refine c_shape _ _ ?_) | split | (dsimp only))
instance (op : BinOp) (x y : ByteArray) : Calm (Op.stringOp op x y) := by
  unfold Op.stringOp
  repeat' (first | infer_instance | (intro _) | (refine c_bind _ _ ?_ ?_) | (refine c_ite _ _ _ ?_ ?_) | (refine c_forIn _ _ _ ?_) | (refine c_forInA _ _ _ ?_) | (refine c_forInR _ _ _ ?_) | (refine c_forInR' _ _ _ ?_) | (refine c_bind' _ _ ?_ ?_) | (refine c_getObj _ _ ?_) | (refine c_program _ ?_) | (refine c_choose _ _ ?_) | (refine c_shape _ _ ?_) | split | (dsimp only))
instance (op : UnOp) (x : Value) : Calm (Op.unary op x) := by
  unfold Op.unary
  repeat' (first | infer_instance | (intro _) | (refine c_bind _ _ ?_ ?_) | (refine c_ite _ _ _ ?_ ?_) | (refine c_forIn _ _ _ ?_) | (refine c_forInA _ _ _ ?_) | (refine c_forInR _ _ _ ?_) | (refine c_forInR' _ _ _ ?_) | (refine c_bind' _ _ ?_ ?_) | (refine c_getObj _ _ ?_) | (refine c_program _ ?_) | (refine c_choose _ _ ?_) | (refine c_shape _ _ ?_) | split | (dsimp only))
instance (a b : Addr) : Calm (Op.twoPlaces a b) := by
  unfold Op.twoPlaces
  repeat' (first | infer_instance | (intro _) | (refine c_bind _ _ ?_ ?_) | (refine c_ite _ _ _ ?_ ?_) | (refine c_forIn _ _ _ ?_) | (refine c_forInA _ _ _ ?_) | (refine c_forInR _ _ _ ?_) | (refine c_forInR' _ _ _ ?_) | (refine c_bind' _ _ ?_ ?_) | (refine c_getObj _ _ ?_) | (refine c_program _ ?_) | (refine c_choose _ _ ?_) | (refine c_shape _ _ ?_) | split | (dsimp only))
instance (k : IntKind) (a b : Addr) : Calm (Op.addrSub k a b) := by
  unfold Op.addrSub
  repeat' (first | infer_instance | (intro _) | (refine c_bind _ _ ?_ ?_) | (refine c_ite _ _ _ ?_ ?_) | (refine c_forIn _ _ _ ?_) | (refine c_forInA _ _ _ ?_) | (refine c_forInR _ _ _ ?_) | (refine c_forInR' _ _ _ ?_) | (refine c_bind' _ _ ?_ ?_) | (refine c_getObj _ _ ?_) | (refine c_program _ ?_) | (refine c_choose _ _ ?_) | (refine c_shape _ _ ?_) | split | (dsimp only))
instance (op : BinOp) (a b : Addr) : Calm (Op.addrCmp op a b) := by
  unfold Op.addrCmp
  repeat' (first | infer_instance | (intro _) | (refine c_bind _ _ ?_ ?_) | (refine c_ite _ _ _ ?_ ?_) | (refine c_forIn _ _ _ ?_) | (refine c_forInA _ _ _ ?_) | (refine c_forInR _ _ _ ?_) | (refine c_forInR' _ _ _ ?_) | (refine c_bind' _ _ ?_ ?_) | (refine c_getObj _ _ ?_) | (refine c_program _ ?_) | (refine c_choose _ _ ?_) | (refine c_shape _ _ ?_) | split | (dsimp only))
instance (k : IntKind) (a : Addr) (n : Int) : Calm (Op.addrMod k a n) := by
  unfold Op.addrMod
  repeat' (first | infer_instance | (intro _) | (refine c_bind _ _ ?_ ?_) | (refine c_ite _ _ _ ?_ ?_) | (refine c_forIn _ _ _ ?_) | (refine c_forInA _ _ _ ?_) | (refine c_forInR _ _ _ ?_) | (refine c_forInR' _ _ _ ?_) | (refine c_bind' _ _ ?_ ?_) | (refine c_getObj _ _ ?_) | (refine c_program _ ?_) | (refine c_choose _ _ ?_) | (refine c_shape _ _ ?_) | split | (dsimp only))
instance (d : Nat) (t : TypeId) (x y : Value) : Calm (Op.equalIn d t x y) := by
  induction d generalizing t x y with
  | zero => unfold Op.equalIn; infer_instance
  | succ d ih => unfold Op.equalIn; repeat' (first | infer_instance | (intro _) | (refine c_bind _ _ ?_ ?_) | (refine c_ite _ _ _ ?_ ?_) | (refine c_forIn _ _ _ ?_) | (refine c_forInA _ _ _ ?_) | (refine c_forInR _ _ _ ?_) | (refine c_forInR' _ _ _ ?_) | (refine c_bind' _ _ ?_ ?_) | (refine c_getObj _ _ ?_) | (refine c_program _ ?_) | (refine c_choose _ _ ?_) | (refine c_shape _ _ ?_) | split | (dsimp only))
instance (t : TypeId) (x y : Value) : Calm (Op.equal t x y) := by unfold Op.equal; infer_instance
instance (d : Nat) (t : TypeId) (x y : Value) : Calm (Op.eqGuardIn d t x y) := by
  induction d generalizing t x y with
  | zero => unfold Op.eqGuardIn; infer_instance
  | succ d ih => unfold Op.eqGuardIn; repeat' (first | infer_instance | (intro _) | (refine c_bind _ _ ?_ ?_) | (refine c_ite _ _ _ ?_ ?_) | (refine c_forIn _ _ _ ?_) | (refine c_forInA _ _ _ ?_) | (refine c_forInR _ _ _ ?_) | (refine c_forInR' _ _ _ ?_) | (refine c_bind' _ _ ?_ ?_) | (refine c_getObj _ _ ?_) | (refine c_program _ ?_) | (refine c_choose _ _ ?_) | (refine c_shape _ _ ?_) | split | (dsimp only))
instance (s : FloatKind) (b : Nat) (d : FloatKind) : Calm (Conv.floatToFloat s b d) := by
  unfold Conv.floatToFloat
  repeat' (first | infer_instance | (intro _) | (refine c_bind _ _ ?_ ?_) | (refine c_ite _ _ _ ?_ ?_) | (refine c_forIn _ _ _ ?_) | (refine c_forInA _ _ _ ?_) | (refine c_forInR _ _ _ ?_) | (refine c_forInR' _ _ _ ?_) | (refine c_bind' _ _ ?_ ?_) | (refine c_getObj _ _ ?_) | (refine c_program _ ?_) | (refine c_choose _ _ ?_) | (refine c_shape _ _ ?_) | split | (dsimp only))
instance (op : BinOp) (k : FloatKind) (x y : Nat) : Calm (Op.Complex.arith op k x y) := by
  unfold Op.Complex.arith
  repeat' (first | infer_instance | (intro _) | (refine c_bind _ _ ?_ ?_) | (refine c_ite _ _ _ ?_ ?_) | (refine c_forIn _ _ _ ?_) | (refine c_forInA _ _ _ ?_) | (refine c_forInR _ _ _ ?_) | (refine c_forInR' _ _ _ ?_) | (refine c_bind' _ _ ?_ ?_) | (refine c_getObj _ _ ?_) | (refine c_program _ ?_) | (refine c_choose _ _ ?_) | (refine c_shape _ _ ?_) | split | (dsimp only))
instance (op : BinOp) (k : FloatKind) (x y : Nat) : Calm (Op.Complex.cmp op k x y) := by
  unfold Op.Complex.cmp
  repeat' (first | infer_instance | (intro _) | (refine c_bind _ _ ?_ ?_) | (refine c_ite _ _ _ ?_ ?_) | (refine c_forIn _ _ _ ?_) | (refine c_forInA _ _ _ ?_) | (refine c_forInR _ _ _ ?_) | (refine c_forInR' _ _ _ ?_) | (refine c_bind' _ _ ?_ ?_) | (refine c_getObj _ _ ?_) | (refine c_program _ ?_) | (refine c_choose _ _ ?_) | (refine c_shape _ _ ?_) | split | (dsimp only))
instance (s : FloatKind) (x : Nat) (d : FloatKind) : Calm (Op.Complex.conv s x d) := by
  unfold Op.Complex.conv
  repeat' (first | infer_instance | (intro _) | (refine c_bind _ _ ?_ ?_) | (refine c_ite _ _ _ ?_ ?_) | (refine c_forIn _ _ _ ?_) | (refine c_forInA _ _ _ ?_) | (refine c_forInR _ _ _ ?_) | (refine c_forInR' _ _ _ ?_) | (refine c_bind' _ _ ?_ ?_) | (refine c_getObj _ _ ?_) | (refine c_program _ ?_) | (refine c_choose _ _ ?_) | (refine c_shape _ _ ?_) | split | (dsimp only))
instance (x y : Nat) : Calm (Op.Complex.add x y) := by
  unfold Op.Complex.add
  repeat' (first | infer_instance | (intro _) | (refine c_bind _ _ ?_ ?_) | (refine c_ite _ _ _ ?_ ?_) | (refine c_forIn _ _ _ ?_) | (refine c_forInA _ _ _ ?_) | (refine c_forInR _ _ _ ?_) | (refine c_forInR' _ _ _ ?_) | (refine c_bind' _ _ ?_ ?_) | (refine c_getObj _ _ ?_) | (refine c_program _ ?_) | (refine c_choose _ _ ?_) | (refine c_shape _ _ ?_) | split | (dsimp only))
instance (x y : Nat) : Calm (Op.Complex.sub x y) := by
  unfold Op.Complex.sub
  repeat' (first | infer_instance | (intro _) | (refine c_bind _ _ ?_ ?_) | (refine c_ite _ _ _ ?_ ?_) | (refine c_forIn _ _ _ ?_) | (refine c_forInA _ _ _ ?_) | (refine c_forInR _ _ _ ?_) | (refine c_forInR' _ _ _ ?_) | (refine c_bind' _ _ ?_ ?_) | (refine c_getObj _ _ ?_) | (refine c_program _ ?_) | (refine c_choose _ _ ?_) | (refine c_shape _ _ ?_) | split | (dsimp only))
instance (x y : Nat) : Calm (Op.Complex.mul x y) := by
  unfold Op.Complex.mul
  repeat' (first | infer_instance | (intro _) | (refine c_bind _ _ ?_ ?_) | (refine c_ite _ _ _ ?_ ?_) | (refine c_forIn _ _ _ ?_) | (refine c_forInA _ _ _ ?_) | (refine c_forInR _ _ _ ?_) | (refine c_forInR' _ _ _ ?_) | (refine c_bind' _ _ ?_ ?_) | (refine c_getObj _ _ ?_) | (refine c_program _ ?_) | (refine c_choose _ _ ?_) | (refine c_shape _ _ ?_) | split | (dsimp only))
instance (x y : Nat) : Calm (Op.Complex.quo x y) := by
  unfold Op.Complex.quo
  repeat' (first | infer_instance | (intro _) | (refine c_bind _ _ ?_ ?_) | (refine c_ite _ _ _ ?_ ?_) | (refine c_forIn _ _ _ ?_) | (refine c_forInA _ _ _ ?_) | (refine c_forInR _ _ _ ?_) | (refine c_forInR' _ _ _ ?_) | (refine c_bind' _ _ ?_ ?_) | (refine c_getObj _ _ ?_) | (refine c_program _ ?_) | (refine c_choose _ _ ?_) | (refine c_shape _ _ ?_) | split | (dsimp only))
instance (a b c d : Nat) : Calm (Op.Complex.product a b c d) := by
  unfold Op.Complex.product
  repeat' (first | infer_instance | (intro _) | (refine c_bind _ _ ?_ ?_) | (refine c_ite _ _ _ ?_ ?_) | (refine c_forIn _ _ _ ?_) | (refine c_forInA _ _ _ ?_) | (refine c_forInR _ _ _ ?_) | (refine c_forInR' _ _ _ ?_) | (refine c_bind' _ _ ?_ ?_) | (refine c_getObj _ _ ?_) | (refine c_program _ ?_) | (refine c_choose _ _ ?_) | (refine c_shape _ _ ?_) | split | (dsimp only))
instance (s a b c d : Nat) : Calm (Op.Complex.corrected s a b c d) := by
  unfold Op.Complex.corrected
  repeat' (first | infer_instance | (intro _) | (refine c_bind _ _ ?_ ?_) | (refine c_ite _ _ _ ?_ ?_) | (refine c_forIn _ _ _ ?_) | (refine c_forInA _ _ _ ?_) | (refine c_forInR _ _ _ ?_) | (refine c_forInR' _ _ _ ?_) | (refine c_bind' _ _ ?_ ?_) | (refine c_getObj _ _ ?_) | (refine c_program _ ?_) | (refine c_choose _ _ ?_) | (refine c_shape _ _ ?_) | split | (dsimp only))
instance (a b c d : Nat) : Calm (Op.Complex.quotient a b c d) := by
  unfold Op.Complex.quotient
  repeat' (first | infer_instance | (intro _) | (refine c_bind _ _ ?_ ?_) | (refine c_ite _ _ _ ?_ ?_) | (refine c_forIn _ _ _ ?_) | (refine c_forInA _ _ _ ?_) | (refine c_forInR _ _ _ ?_) | (refine c_forInR' _ _ _ ?_) | (refine c_bind' _ _ ?_ ?_) | (refine c_getObj _ _ ?_) | (refine c_program _ ?_) | (refine c_choose _ _ ?_) | (refine c_shape _ _ ?_) | split | (dsimp only))
instance (op : BinOp) (k : FloatKind) (a b c d : Nat) : Calm (Op.complexOp op k a b c d) := by
  unfold Op.complexOp
  repeat' (first | infer_instance | (intro _) | (refine c_bind _ _ ?_ ?_) | (refine c_ite _ _ _ ?_ ?_) | (refine c_forIn _ _ _ ?_) | (refine c_forInA _ _ _ ?_) | (refine c_forInR _ _ _ ?_) | (refine c_forInR' _ _ _ ?_) | (refine c_bind' _ _ ?_ ?_) | (refine c_getObj _ _ ?_) | (refine c_program _ ?_) | (refine c_choose _ _ ?_) | (refine c_shape _ _ ?_) | split | (dsimp only))
end
instance (d : IntKind) (n : Int) : Calm (Conv.intToInt d n) := by
  unfold Conv.intToInt
  repeat' (first | infer_instance | (intro _) | (refine c_bind _ _ ?_ ?_) | (refine c_ite _ _ _ ?_ ?_) | (refine c_forIn _ _ _ ?_) | (refine c_forInA _ _ _ ?_) | (refine c_forInR _ _ _ ?_) | (refine c_forInR' _ _ _ ?_) | (refine c_bind' _ _ ?_ ?_) | (refine c_getObj _ _ ?_) | (refine c_program _ ?_) | (refine c_choose _ _ ?_) | (refine c_shape _ _ ?_) | split | (dsimp only))
instance (d : FloatKind) (n : Int) : Calm (Conv.intToFloat d n) := by
  unfold Conv.intToFloat
  repeat' (first | infer_instance | (intro _) | (refine c_bind _ _ ?_ ?_) | (refine c_ite _ _ _ ?_ ?_) | (refine c_forIn _ _ _ ?_) | (refine c_forInA _ _ _ ?_) | (refine c_forInR _ _ _ ?_) | (refine c_forInR' _ _ _ ?_) | (refine c_bind' _ _ ?_ ?_) | (refine c_getObj _ _ ?_) | (refine c_program _ ?_) | (refine c_choose _ _ ?_) | (refine c_shape _ _ ?_) | split | (dsimp only))
instance (n : Int) : Calm (Conv.intToString n) := by
  unfold Conv.intToString
  repeat' (first | infer_instance | (intro _) | (refine c_bind _ _ ?_ ?_) | (refine c_ite _ _ _ ?_ ?_) | (refine c_forIn _ _ _ ?_) | (refine c_forInA _ _ _ ?_) | (refine c_forInR _ _ _ ?_) | (refine c_forInR' _ _ _ ?_) | (refine c_bind' _ _ ?_ ?_) | (refine c_getObj _ _ ?_) | (refine c_program _ ?_) | (refine c_choose _ _ ?_) | (refine c_shape _ _ ?_) | split | (dsimp only))
instance (s : FloatKind) (b : Nat) (d : IntKind) : Calm (Conv.floatToInt s b d) := by
  unfold Conv.floatToInt
  repeat' (first | infer_instance | (intro _) | (refine c_bind _ _ ?_ ?_) | (refine c_ite _ _ _ ?_ ?_) | (refine c_forIn _ _ _ ?_) | (refine c_forInA _ _ _ ?_) | (refine c_forInR _ _ _ ?_) | (refine c_forInR' _ _ _ ?_) | (refine c_bind' _ _ ?_ ?_) | (refine c_getObj _ _ ?_) | (refine c_program _ ?_) | (refine c_choose _ _ ?_) | (refine c_shape _ _ ?_) | split | (dsimp only))
instance (s : FloatKind) (a b : Nat) (d : FloatKind) : Calm (Conv.complexToComplex s a b d) := by
  unfold Conv.complexToComplex
  repeat' (first | infer_instance | (intro _) | (refine c_bind _ _ ?_ ?_) | (refine c_ite _ _ _ ?_ ?_) | (refine c_forIn _ _ _ ?_) | (refine c_forInA _ _ _ ?_) | (refine c_forInR _ _ _ ?_) | (refine c_forInR' _ _ _ ?_) | (refine c_bind' _ _ ?_ ?_) | (refine c_getObj _ _ ?_) | (refine c_program _ ?_) | (refine c_choose _ _ ?_) | (refine c_shape _ _ ?_) | split | (dsimp only))
instance (e : TypeId) (s : ByteArray) : Calm (Conv.stringToBytes e s) := by
  unfold Conv.stringToBytes
  repeat' (first | infer_instance | (intro _) | (refine c_bind _ _ ?_ ?_) | (refine c_ite _ _ _ ?_ ?_) | (refine c_forIn _ _ _ ?_) | (refine c_forInA _ _ _ ?_) | (refine c_forInR _ _ _ ?_) | (refine c_forInR' _ _ _ ?_) | (refine c_bind' _ _ ?_ ?_) | (refine c_getObj _ _ ?_) | (refine c_program _ ?_) | (refine c_choose _ _ ?_) | (refine c_shape _ _ ?_) | split | (dsimp only))
instance (e : TypeId) (s : ByteArray) : Calm (Conv.stringToRunes e s) := by
  unfold Conv.stringToRunes
  repeat' (first | infer_instance | (intro _) | (refine c_bind _ _ ?_ ?_) | (refine c_ite _ _ _ ?_ ?_) | (refine c_forIn _ _ _ ?_) | (refine c_forInA _ _ _ ?_) | (refine c_forInR _ _ _ ?_) | (refine c_forInR' _ _ _ ?_) | (refine c_bind' _ _ ?_ ?_) | (refine c_getObj _ _ ?_) | (refine c_program _ ?_) | (refine c_choose _ _ ?_) | (refine c_shape _ _ ?_) | split | (dsimp only))
instance (x : Value) : Calm (Conv.bytesToString x) := by
  unfold Conv.bytesToString
  repeat' (first | infer_instance | (intro _) | (refine c_bind _ _ ?_ ?_) | (refine c_ite _ _ _ ?_ ?_) | (refine c_forIn _ _ _ ?_) | (refine c_forInA _ _ _ ?_) | (refine c_forInR _ _ _ ?_) | (refine c_forInR' _ _ _ ?_) | (refine c_bind' _ _ ?_ ?_) | (refine c_getObj _ _ ?_) | (refine c_program _ ?_) | (refine c_choose _ _ ?_) | (refine c_shape _ _ ?_) | split | (dsimp only))
instance (x : Value) : Calm (Conv.runesToString x) := by
  unfold Conv.runesToString
  repeat' (first | infer_instance | (intro _) | (refine c_bind _ _ ?_ ?_) | (refine c_ite _ _ _ ?_ ?_) | (refine c_forIn _ _ _ ?_) | (refine c_forInA _ _ _ ?_) | (refine c_forInR _ _ _ ?_) | (refine c_forInR' _ _ _ ?_) | (refine c_bind' _ _ ?_ ?_) | (refine c_getObj _ _ ?_) | (refine c_program _ ?_) | (refine c_choose _ _ ?_) | (refine c_shape _ _ ?_) | split | (dsimp only))
instance (a : Addr) : Calm (Conv.seenAt a) := by
  unfold Conv.seenAt
  repeat' (first | infer_instance | (intro _) | (refine c_bind _ _ ?_ ?_) | (refine c_ite _ _ _ ?_ ?_) | (refine c_forIn _ _ _ ?_) | (refine c_forInA _ _ _ ?_) | (refine c_forInR _ _ _ ?_) | (refine c_forInR' _ _ _ ?_) | (refine c_bind' _ _ ?_ ?_) | (refine c_getObj _ _ ?_) | (refine c_program _ ?_) | (refine c_choose _ _ ?_) | (refine c_shape _ _ ?_) | split | (dsimp only))
instance (s d : TypeId) (x : Value) : Calm (Conv.unsafePointer s d x) := by
  unfold Conv.unsafePointer
  repeat' (first | infer_instance | (intro _) | (refine c_bind _ _ ?_ ?_) | (refine c_ite _ _ _ ?_ ?_) | (refine c_forIn _ _ _ ?_) | (refine c_forInA _ _ _ ?_) | (refine c_forInR _ _ _ ?_) | (refine c_forInR' _ _ _ ?_) | (refine c_bind' _ _ ?_ ?_) | (refine c_getObj _ _ ?_) | (refine c_program _ ?_) | (refine c_choose _ _ ?_) | (refine c_shape _ _ ?_) | split | (dsimp only))
instance (a : Addr) (c : Nat) : Calm (Builtin.holdsCells a c) := by
  unfold Builtin.holdsCells
  repeat' (first | infer_instance | (intro _) | (refine c_bind _ _ ?_ ?_) | (refine c_ite _ _ _ ?_ ?_) | (refine c_forIn _ _ _ ?_) | (refine c_forInA _ _ _ ?_) | (refine c_forInR _ _ _ ?_) | (refine c_forInR' _ _ _ ?_) | (refine c_bind' _ _ ?_ ?_) | (refine c_getObj _ _ ?_) | (refine c_program _ ?_) | (refine c_choose _ _ ?_) | (refine c_shape _ _ ?_) | split | (dsimp only))
instance (s l n : Nat) (b : Option Addr) (x : Value) : Calm (Builtin.mayShare s l n b x) := by
  unfold Builtin.mayShare
  repeat' (first | infer_instance | (intro _) | (refine c_bind _ _ ?_ ?_) | (refine c_ite _ _ _ ?_ ?_) | (refine c_forIn _ _ _ ?_) | (refine c_forInA _ _ _ ?_) | (refine c_forInR _ _ _ ?_) | (refine c_forInR' _ _ _ ?_) | (refine c_bind' _ _ ?_ ?_) | (refine c_getObj _ _ ?_) | (refine c_program _ ?_) | (refine c_choose _ _ ?_) | (refine c_shape _ _ ?_) | split | (dsimp only))
instance (v : Value) : Calm (Builtin.lenOf v) := by
  unfold Builtin.lenOf
  repeat' (first | infer_instance | (intro _) | (refine c_bind _ _ ?_ ?_) | (refine c_ite _ _ _ ?_ ?_) | (refine c_forIn _ _ _ ?_) | (refine c_forInA _ _ _ ?_) | (refine c_forInR _ _ _ ?_) | (refine c_forInR' _ _ _ ?_) | (refine c_bind' _ _ ?_ ?_) | (refine c_getObj _ _ ?_) | (refine c_program _ ?_) | (refine c_choose _ _ ?_) | (refine c_shape _ _ ?_) | split | (dsimp only))
instance (s n : Nat) (v : Value) : Calm (Builtin.firstCells s n v) := by
  unfold Builtin.firstCells
  repeat' (first | infer_instance | (intro _) | (refine c_bind _ _ ?_ ?_) | (refine c_ite _ _ _ ?_ ?_) | (refine c_forIn _ _ _ ?_) | (refine c_forInA _ _ _ ?_) | (refine c_forInR _ _ _ ?_) | (refine c_forInR' _ _ _ ?_) | (refine c_bind' _ _ ?_ ?_) | (refine c_getObj _ _ ?_) | (refine c_program _ ?_) | (refine c_choose _ _ ?_) | (refine c_shape _ _ ?_) | split | (dsimp only))
instance (a : Array TypeId) (t : TypeId) (v : Array Value) : Calm (Builtin.append_ a t v) := by
  unfold Builtin.append_
  repeat' (first | infer_instance | (intro _) | (refine c_bind _ _ ?_ ?_) | (refine c_ite _ _ _ ?_ ?_) | (refine c_forIn _ _ _ ?_) | (refine c_forInA _ _ _ ?_) | (refine c_forInR _ _ _ ?_) | (refine c_forInR' _ _ _ ?_) | (refine c_bind' _ _ ?_ ?_) | (refine c_getObj _ _ ?_) | (refine c_program _ ?_) | (refine c_choose _ _ ?_) | (refine c_shape _ _ ?_) | split | (dsimp only))
instance (a : Array TypeId) (t : TypeId) (v : Array Value) : Calm (Builtin.cap_ a t v) := by
  unfold Builtin.cap_
  repeat' (first | infer_instance | (intro _) | (refine c_bind _ _ ?_ ?_) | (refine c_ite _ _ _ ?_ ?_) | (refine c_forIn _ _ _ ?_) | (refine c_forInA _ _ _ ?_) | (refine c_forInR _ _ _ ?_) | (refine c_forInR' _ _ _ ?_) | (refine c_bind' _ _ ?_ ?_) | (refine c_getObj _ _ ?_) | (refine c_program _ ?_) | (refine c_choose _ _ ?_) | (refine c_shape _ _ ?_) | split | (dsimp only))
instance (a : Array TypeId) (t : TypeId) (v : Array Value) : Calm (Builtin.clear_ a t v) := by
  unfold Builtin.clear_
  repeat' (first | infer_instance | (intro _) | (refine c_bind _ _ ?_ ?_) | (refine c_ite _ _ _ ?_ ?_) | (refine c_forIn _ _ _ ?_) | (refine c_forInA _ _ _ ?_) | (refine c_forInR _ _ _ ?_) | (refine c_forInR' _ _ _ ?_) | (refine c_bind' _ _ ?_ ?_) | (refine c_getObj _ _ ?_) | (refine c_program _ ?_) | (refine c_choose _ _ ?_) | (refine c_shape _ _ ?_) | split | (dsimp only))
instance (a : Array TypeId) (t : TypeId) (v : Array Value) : Calm (Builtin.copy_ a t v) := by
  unfold Builtin.copy_
  repeat' (first | infer_instance | (intro _) | (refine c_bind _ _ ?_ ?_) | (refine c_ite _ _ _ ?_ ?_) | (refine c_forIn _ _ _ ?_) | (refine c_forInA _ _ _ ?_) | (refine c_forInR _ _ _ ?_) | (refine c_forInR' _ _ _ ?_) | (refine c_bind' _ _ ?_ ?_) | (refine c_getObj _ _ ?_) | (refine c_program _ ?_) | (refine c_choose _ _ ?_) | (refine c_shape _ _ ?_) | split | (dsimp only))
instance (a : Array TypeId) (t : TypeId) (v : Array Value) : Calm (Builtin.len_ a t v) := by
  unfold Builtin.len_
  repeat' (first | infer_instance | (intro _) | (refine c_bind _ _ ?_ ?_) | (refine c_ite _ _ _ ?_ ?_) | (refine c_forIn _ _ _ ?_) | (refine c_forInA _ _ _ ?_) | (refine c_forInR _ _ _ ?_) | (refine c_forInR' _ _ _ ?_) | (refine c_bind' _ _ ?_ ?_) | (refine c_getObj _ _ ?_) | (refine c_program _ ?_) | (refine c_choose _ _ ?_) | (refine c_shape _ _ ?_) | split | (dsimp only))
instance (a : Array TypeId) (t : TypeId) (v : Array Value) : Calm (Builtin.close_ a t v) := by
  unfold Builtin.close_
  rcases v with ⟨_ | ⟨x, _ | ⟨y, l⟩⟩⟩ <;> (try (cases x)) <;> (try (rename_i r; cases r)) <;> (conv => arg 1; whnf) <;> (repeat' (first | infer_instance | (intro _) | (refine c_bind _ _ ?_ ?_) | (refine c_ite _ _ _ ?_ ?_) | (refine c_forIn _ _ _ ?_) | (refine c_forInA _ _ _ ?_) | (refine c_forInR _ _ _ ?_) | (refine c_forInR' _ _ _ ?_) | (refine c_bind' _ _ ?_ ?_) | (refine c_getObj _ _ ?_) | (refine c_program _ ?_) | (refine c_choose _ _ ?_) | (refine c_shape _ _ ?_) | split | (dsimp only)))
instance (a : Array TypeId) (t : TypeId) (v : Array Value) : Calm (Builtin.imag_ a t v) := by
  unfold Builtin.imag_
  rcases v with ⟨_ | ⟨x, _ | ⟨y, l⟩⟩⟩ <;> (try (cases x)) <;> (try (rename_i r; cases r)) <;> (conv => arg 1; whnf) <;> (repeat' (first | infer_instance | (intro _) | (refine c_bind _ _ ?_ ?_) | (refine c_ite _ _ _ ?_ ?_) | (refine c_forIn _ _ _ ?_) | (refine c_forInA _ _ _ ?_) | (refine c_forInR _ _ _ ?_) | (refine c_forInR' _ _ _ ?_) | (refine c_bind' _ _ ?_ ?_) | (refine c_getObj _ _ ?_) | (refine c_program _ ?_) | (refine c_choose _ _ ?_) | (refine c_shape _ _ ?_) | split | (dsimp only)))
instance (a : Array TypeId) (t : TypeId) (v : Array Value) : Calm (Builtin.real_ a t v) := by
  unfold Builtin.real_
  rcases v with ⟨_ | ⟨x, _ | ⟨y, l⟩⟩⟩ <;> (try (cases x)) <;> (try (rename_i r; cases r)) <;> (conv => arg 1; whnf) <;> (repeat' (first | infer_instance | (intro _) | (refine c_bind _ _ ?_ ?_) | (refine c_ite _ _ _ ?_ ?_) | (refine c_forIn _ _ _ ?_) | (refine c_forInA _ _ _ ?_) | (refine c_forInR _ _ _ ?_) | (refine c_forInR' _ _ _ ?_) | (refine c_bind' _ _ ?_ ?_) | (refine c_getObj _ _ ?_) | (refine c_program _ ?_) | (refine c_choose _ _ ?_) | (refine c_shape _ _ ?_) | split | (dsimp only)))
instance (a : Array TypeId) (t : TypeId) (v : Array Value) : Calm (Builtin.complex_ a t v) := by
  unfold Builtin.complex_
  rcases v with ⟨_ | ⟨x, _ | ⟨y, _ | ⟨z, l⟩⟩⟩⟩ <;> (try (cases x)) <;> (try (cases y)) <;> (conv => arg 1; whnf) <;> (repeat' (first | infer_instance | (intro _) | (refine c_bind _ _ ?_ ?_) | (refine c_ite _ _ _ ?_ ?_) | (refine c_forIn _ _ _ ?_) | (refine c_forInA _ _ _ ?_) | (refine c_forInR _ _ _ ?_) | (refine c_forInR' _ _ _ ?_) | (refine c_bind' _ _ ?_ ?_) | (refine c_getObj _ _ ?_) | (refine c_program _ ?_) | (refine c_choose _ _ ?_) | (refine c_shape _ _ ?_) | split | (dsimp only)))
instance (x y : Value) : Calm (Builtin.max2 x y) := by
  unfold Builtin.max2
  repeat' (first | infer_instance | (intro _) | (refine c_bind _ _ ?_ ?_) | (refine c_ite _ _ _ ?_ ?_) | (refine c_forIn _ _ _ ?_) | (refine c_forInA _ _ _ ?_) | (refine c_forInR _ _ _ ?_) | (refine c_forInR' _ _ _ ?_) | (refine c_bind' _ _ ?_ ?_) | (refine c_getObj _ _ ?_) | (refine c_program _ ?_) | (refine c_choose _ _ ?_) | (refine c_shape _ _ ?_) | split | (dsimp only))
instance (x y : Value) : Calm (Builtin.min2 x y) := by
  unfold Builtin.min2
  repeat' (first | infer_instance | (intro _) | (refine c_bind _ _ ?_ ?_) | (refine c_ite _ _ _ ?_ ?_) | (refine c_forIn _ _ _ ?_) | (refine c_forInA _ _ _ ?_) | (refine c_forInR _ _ _ ?_) | (refine c_forInR' _ _ _ ?_) | (refine c_bind' _ _ ?_ ?_) | (refine c_getObj _ _ ?_) | (refine c_program _ ?_) | (refine c_choose _ _ ?_) | (refine c_shape _ _ ?_) | split | (dsimp only))
instance (a : Array TypeId) (t : TypeId) (v : Array Value) : Calm (Builtin.max_ a t v) := by
  unfold Builtin.max_
  repeat' (first | infer_instance | (intro _) | (refine c_bind _ _ ?_ ?_) | (refine c_ite _ _ _ ?_ ?_) | (refine c_forIn _ _ _ ?_) | (refine c_forInA _ _ _ ?_) | (refine c_forInR _ _ _ ?_) | (refine c_forInR' _ _ _ ?_) | (refine c_bind' _ _ ?_ ?_) | (refine c_getObj _ _ ?_) | (refine c_program _ ?_) | (refine c_choose _ _ ?_) | (refine c_shape _ _ ?_) | split | (dsimp only))
instance (a : Array TypeId) (t : TypeId) (v : Array Value) : Calm (Builtin.min_ a t v) := by
  unfold Builtin.min_
  repeat' (first | infer_instance | (intro _) | (refine c_bind _ _ ?_ ?_) | (refine c_ite _ _ _ ?_ ?_) | (refine c_forIn _ _ _ ?_) | (refine c_forInA _ _ _ ?_) | (refine c_forInR _ _ _ ?_) | (refine c_forInR' _ _ _ ?_) | (refine c_bind' _ _ ?_ ?_) | (refine c_getObj _ _ ?_) | (refine c_program _ ?_) | (refine c_choose _ _ ?_) | (refine c_shape _ _ ?_) | split | (dsimp only))
instance (a : Array TypeId) (t : TypeId) (v : Array Value) : Calm (Builtin.unsafeSliceData_ a t v) := by
  unfold Builtin.unsafeSliceData_
  rcases v with ⟨_ | ⟨x, _ | ⟨y, _ | ⟨z, l⟩⟩⟩⟩ <;> (try (cases x)) <;> (try (rename_i o _ _; cases o)) <;> (conv => arg 1; whnf) <;> (repeat' (first | infer_instance | (intro _) | (refine c_bind _ _ ?_ ?_) | (refine c_ite _ _ _ ?_ ?_) | (refine c_forIn _ _ _ ?_) | (refine c_forInA _ _ _ ?_) | (refine c_forInR _ _ _ ?_) | (refine c_forInR' _ _ _ ?_) | (refine c_bind' _ _ ?_ ?_) | (refine c_getObj _ _ ?_) | (refine c_program _ ?_) | (refine c_choose _ _ ?_) | (refine c_shape _ _ ?_) | split | (dsimp only)))
instance (a : Array TypeId) (t : TypeId) (v : Array Value) : Calm (Builtin.unsafeAdd_ a t v) := by
  unfold Builtin.unsafeAdd_
  rcases v with ⟨_ | ⟨x, _ | ⟨y, _ | ⟨z, l⟩⟩⟩⟩ <;> (try (cases x)) <;> (conv => arg 1; whnf) <;> (repeat' (first | infer_instance | (intro _) | (refine c_bind _ _ ?_ ?_) | (refine c_ite _ _ _ ?_ ?_) | (refine c_forIn _ _ _ ?_) | (refine c_forInA _ _ _ ?_) | (refine c_forInR _ _ _ ?_) | (refine c_forInR' _ _ _ ?_) | (refine c_bind' _ _ ?_ ?_) | (refine c_getObj _ _ ?_) | (refine c_program _ ?_) | (refine c_choose _ _ ?_) | (refine c_shape _ _ ?_) | split | (dsimp only)))
instance (a : Array TypeId) (t : TypeId) (v : Array Value) : Calm (Builtin.unsafeSlice_ a t v) := by
  unfold Builtin.unsafeSlice_
  rcases v with ⟨_ | ⟨x, _ | ⟨y, _ | ⟨z, l⟩⟩⟩⟩ <;> (try (cases x)) <;> (conv => arg 1; whnf) <;> (repeat' (first | infer_instance | (intro _) | (refine c_bind _ _ ?_ ?_) | (refine c_ite _ _ _ ?_ ?_) | (refine c_forIn _ _ _ ?_) | (refine c_forInA _ _ _ ?_) | (refine c_forInR _ _ _ ?_) | (refine c_forInR' _ _ _ ?_) | (refine c_bind' _ _ ?_ ?_) | (refine c_getObj _ _ ?_) | (refine c_program _ ?_) | (refine c_choose _ _ ?_) | (refine c_shape _ _ ?_) | split | (dsimp only)))
instance (a : Array TypeId) (t : TypeId) (v : Array Value) : Calm (Builtin.unsafeString_ a t v) := by
  unfold Builtin.unsafeString_
  rcases v with ⟨_ | ⟨x, _ | ⟨y, _ | ⟨z, l⟩⟩⟩⟩ <;> (try (cases x)) <;> (conv => arg 1; whnf) <;> (repeat' (first | infer_instance | (intro _) | (refine c_bind _ _ ?_ ?_) | (refine c_ite _ _ _ ?_ ?_) | (refine c_forIn _ _ _ ?_) | (refine c_forInA _ _ _ ?_) | (refine c_forInR _ _ _ ?_) | (refine c_forInR' _ _ _ ?_) | (refine c_bind' _ _ ?_ ?_) | (refine c_getObj _ _ ?_) | (refine c_program _ ?_) | (refine c_choose _ _ ?_) | (refine c_shape _ _ ?_) | split | (dsimp only)))
instance (a : Array TypeId) (t : TypeId) (v : Array Value) : Calm (Builtin.unsafeStringData_ a t v) := by
  unfold Builtin.unsafeStringData_
  rcases v with ⟨_ | ⟨x, _ | ⟨y, _ | ⟨z, l⟩⟩⟩⟩ <;> (try (cases x)) <;> (conv => arg 1; whnf) <;> (repeat' (first | infer_instance | (intro _) | (refine c_bind _ _ ?_ ?_) | (refine c_ite _ _ _ ?_ ?_) | (refine c_forIn _ _ _ ?_) | (refine c_forInA _ _ _ ?_) | (refine c_forInR _ _ _ ?_) | (refine c_forInR' _ _ _ ?_) | (refine c_bind' _ _ ?_ ?_) | (refine c_getObj _ _ ?_) | (refine c_program _ ?_) | (refine c_choose _ _ ?_) | (refine c_shape _ _ ?_) | split | (dsimp only)))
instance (a : Array TypeId) (t : TypeId) (v : Array Value) : Calm (Builtin.ssaWrapNilChk_ a t v) := by
  unfold Builtin.ssaWrapNilChk_
  rcases v with ⟨_ | ⟨x, _ | ⟨y, _ | ⟨z, _ | ⟨u, l⟩⟩⟩⟩⟩ <;> (try (cases y)) <;> (try (cases z)) <;> (try (cases x)) <;> (conv => arg 1; whnf) <;> (repeat' (first | infer_instance | (intro _) | (refine c_bind _ _ ?_ ?_) | (refine c_ite _ _ _ ?_ ?_) | (refine c_forIn _ _ _ ?_) | (refine c_forInA _ _ _ ?_) | (refine c_forInR _ _ _ ?_) | (refine c_forInR' _ _ _ ?_) | (refine c_bind' _ _ ?_ ?_) | (refine c_getObj _ _ ?_) | (refine c_program _ ?_) | (refine c_choose _ _ ?_) | (refine c_shape _ _ ?_) | split | (dsimp only)))
instance (e : Bool) (n : Nat) (t : TypeId) (v : Value) : Calm (Instr.checkKey e n t v) := by
  induction n generalizing t v with
  | zero => unfold Instr.checkKey; infer_instance
  | succ n ih => unfold Instr.checkKey; repeat' (first | infer_instance | (intro _) | (refine c_bind _ _ ?_ ?_) | (refine c_ite _ _ _ ?_ ?_) | (refine c_forIn _ _ _ ?_) | (refine c_forInA _ _ _ ?_) | (refine c_forInR _ _ _ ?_) | (refine c_forInR' _ _ _ ?_) | (refine c_bind' _ _ ?_ ?_) | (refine c_getObj _ _ ?_) | (refine c_program _ ?_) | (refine c_choose _ _ ?_) | (refine c_shape _ _ ?_) | split | (dsimp only))
instance (t : TypeId) (k : Value) (l : List MapEntry) (i : Nat) : Calm (Instr.findAsking t k l i) := by
  induction l generalizing i with
  | nil => unfold Instr.findAsking; infer_instance
  | cons e l ih => unfold Instr.findAsking; repeat' (first | infer_instance | (intro _) | (refine c_bind _ _ ?_ ?_) | (refine c_ite _ _ _ ?_ ?_) | (refine c_forIn _ _ _ ?_) | (refine c_forInA _ _ _ ?_) | (refine c_forInR _ _ _ ?_) | (refine c_forInR' _ _ _ ?_) | (refine c_bind' _ _ ?_ ?_) | (refine c_getObj _ _ ?_) | (refine c_program _ ?_) | (refine c_choose _ _ ?_) | (refine c_shape _ _ ?_) | split | (dsimp only))
instance (t : TypeId) (k : Value) (l : List MapEntry) : Calm (Instr.findKey t k l) := by
  unfold Instr.findKey
  repeat' (first | infer_instance | (intro _) | (refine c_bind _ _ ?_ ?_) | (refine c_ite _ _ _ ?_ ?_) | (refine c_forIn _ _ _ ?_) | (refine c_forInA _ _ _ ?_) | (refine c_forInR _ _ _ ?_) | (refine c_forInR' _ _ _ ?_) | (refine c_bind' _ _ ?_ ?_) | (refine c_getObj _ _ ?_) | (refine c_program _ ?_) | (refine c_choose _ _ ?_) | (refine c_shape _ _ ?_) | split | (dsimp only))
instance (t : TypeId) (x i : Value) (ok : Bool) : Calm (Instr.lookup t x i ok) := by
  unfold Instr.lookup
  repeat' (first | infer_instance | (intro _) | (refine c_bind _ _ ?_ ?_) | (refine c_ite _ _ _ ?_ ?_) | (refine c_forIn _ _ _ ?_) | (refine c_forInA _ _ _ ?_) | (refine c_forInR _ _ _ ?_) | (refine c_forInR' _ _ _ ?_) | (refine c_bind' _ _ ?_ ?_) | (refine c_getObj _ _ ?_) | (refine c_program _ ?_) | (refine c_choose _ _ ?_) | (refine c_shape _ _ ?_) | split | (dsimp only))
instance (a b : Value) : Calm (Instr.keyThatStays a b) := by
  unfold Instr.keyThatStays
  repeat' (first | infer_instance | (intro _) | (refine c_bind _ _ ?_ ?_) | (refine c_ite _ _ _ ?_ ?_) | (refine c_forIn _ _ _ ?_) | (refine c_forInA _ _ _ ?_) | (refine c_forInR _ _ _ ?_) | (refine c_forInR' _ _ _ ?_) | (refine c_bind' _ _ ?_ ?_) | (refine c_getObj _ _ ?_) | (refine c_program _ ?_) | (refine c_choose _ _ ?_) | (refine c_shape _ _ ?_) | split | (dsimp only))
instance (t : TypeId) (m k v : Value) : Calm (Instr.mapUpdate t m k v) := by
  unfold Instr.mapUpdate
  repeat' (first | infer_instance | (intro _) | (refine c_bind _ _ ?_ ?_) | (refine c_ite _ _ _ ?_ ?_) | (refine c_forIn _ _ _ ?_) | (refine c_forInA _ _ _ ?_) | (refine c_forInR _ _ _ ?_) | (refine c_forInR' _ _ _ ?_) | (refine c_bind' _ _ ?_ ?_) | (refine c_getObj _ _ ?_) | (refine c_program _ ?_) | (refine c_choose _ _ ?_) | (refine c_shape _ _ ?_) | split | (dsimp only))
instance (t : TypeId) (m k : Value) : Calm (Instr.mapEntry t m k) := by
  unfold Instr.mapEntry
  repeat' (first | infer_instance | (intro _) | (refine c_bind _ _ ?_ ?_) | (refine c_ite _ _ _ ?_ ?_) | (refine c_forIn _ _ _ ?_) | (refine c_forInA _ _ _ ?_) | (refine c_forInR _ _ _ ?_) | (refine c_forInR' _ _ _ ?_) | (refine c_bind' _ _ ?_ ?_) | (refine c_getObj _ _ ?_) | (refine c_program _ ?_) | (refine c_choose _ _ ?_) | (refine c_shape _ _ ?_) | split | (dsimp only))
instance (t : TypeId) (m s v : Value) : Calm (Instr.entryStore t m s v) := by
  unfold Instr.entryStore
  repeat' (first | infer_instance | (intro _) | (refine c_bind _ _ ?_ ?_) | (refine c_ite _ _ _ ?_ ?_) | (refine c_forIn _ _ _ ?_) | (refine c_forInA _ _ _ ?_) | (refine c_forInR _ _ _ ?_) | (refine c_forInR' _ _ _ ?_) | (refine c_bind' _ _ ?_ ?_) | (refine c_getObj _ _ ?_) | (refine c_program _ ?_) | (refine c_choose _ _ ?_) | (refine c_shape _ _ ?_) | split | (dsimp only))
instance (a : Array TypeId) (t : TypeId) (v : Array Value) : Calm (Builtin.delete_ a t v) := by
  unfold Builtin.delete_
  repeat' (first | infer_instance | (intro _) | (refine c_bind _ _ ?_ ?_) | (refine c_ite _ _ _ ?_ ?_) | (refine c_forIn _ _ _ ?_) | (refine c_forInA _ _ _ ?_) | (refine c_forInR _ _ _ ?_) | (refine c_forInR' _ _ _ ?_) | (refine c_bind' _ _ ?_ ?_) | (refine c_getObj _ _ ?_) | (refine c_program _ ?_) | (refine c_choose _ _ ?_) | (refine c_shape _ _ ?_) | split | (dsimp only))
instance (v : Value) : Calm (Instr.sureAddr v) := by
  unfold Instr.sureAddr
  repeat' (first | infer_instance | (intro _) | (refine c_bind _ _ ?_ ?_) | (refine c_ite _ _ _ ?_ ?_) | (refine c_forIn _ _ _ ?_) | (refine c_forInA _ _ _ ?_) | (refine c_forInR _ _ _ ?_) | (refine c_forInR' _ _ _ ?_) | (refine c_bind' _ _ ?_ ?_) | (refine c_getObj _ _ ?_) | (refine c_program _ ?_) | (refine c_choose _ _ ?_) | (refine c_shape _ _ ?_) | split | (dsimp only))
instance (t : TypeId) (v : Value) : Calm (Instr.loadAt t v) := by
  unfold Instr.loadAt
  repeat' (first | infer_instance | (intro _) | (refine c_bind _ _ ?_ ?_) | (refine c_ite _ _ _ ?_ ?_) | (refine c_forIn _ _ _ ?_) | (refine c_forInA _ _ _ ?_) | (refine c_forInR _ _ _ ?_) | (refine c_forInR' _ _ _ ?_) | (refine c_bind' _ _ ?_ ?_) | (refine c_getObj _ _ ?_) | (refine c_program _ ?_) | (refine c_choose _ _ ?_) | (refine c_shape _ _ ?_) | split | (dsimp only))
instance (t : TypeId) (a v : Value) : Calm (Instr.storeAt t a v) := by
  unfold Instr.storeAt
  repeat' (first | infer_instance | (intro _) | (refine c_bind _ _ ?_ ?_) | (refine c_ite _ _ _ ?_ ?_) | (refine c_forIn _ _ _ ?_) | (refine c_forInA _ _ _ ?_) | (refine c_forInR _ _ _ ?_) | (refine c_forInR' _ _ _ ?_) | (refine c_bind' _ _ ?_ ?_) | (refine c_getObj _ _ ?_) | (refine c_program _ ?_) | (refine c_choose _ _ ?_) | (refine c_shape _ _ ?_) | split | (dsimp only))
instance (s : TypeId) (a : Value) (f : Nat) : Calm (Instr.fieldAt s a f) := by
  unfold Instr.fieldAt
  repeat' (first | infer_instance | (intro _) | (refine c_bind _ _ ?_ ?_) | (refine c_ite _ _ _ ?_ ?_) | (refine c_forIn _ _ _ ?_) | (refine c_forInA _ _ _ ?_) | (refine c_forInR _ _ _ ?_) | (refine c_forInR' _ _ _ ?_) | (refine c_bind' _ _ ?_ ?_) | (refine c_getObj _ _ ?_) | (refine c_program _ ?_) | (refine c_choose _ _ ?_) | (refine c_shape _ _ ?_) | split | (dsimp only))
instance (t : TypeId) (x i : Value) : Calm (Instr.indexAt t x i) := by
  unfold Instr.indexAt
  repeat' (first | infer_instance | (intro _) | (refine c_bind _ _ ?_ ?_) | (refine c_ite _ _ _ ?_ ?_) | (refine c_forIn _ _ _ ?_) | (refine c_forInA _ _ _ ?_) | (refine c_forInR _ _ _ ?_) | (refine c_forInR' _ _ _ ?_) | (refine c_bind' _ _ ?_ ?_) | (refine c_getObj _ _ ?_) | (refine c_program _ ?_) | (refine c_choose _ _ ?_) | (refine c_shape _ _ ?_) | split | (dsimp only))
instance (x : Value) (y : Nat) (c : BoundsCode) : Calm (Instr.sliceBound x y c) := by
  unfold Instr.sliceBound
  repeat' (first | infer_instance | (intro _) | (refine c_bind _ _ ?_ ?_) | (refine c_ite _ _ _ ?_ ?_) | (refine c_forIn _ _ _ ?_) | (refine c_forInA _ _ _ ?_) | (refine c_forInR _ _ _ ?_) | (refine c_forInR' _ _ _ ?_) | (refine c_bind' _ _ ?_ ?_) | (refine c_getObj _ _ ?_) | (refine c_program _ ?_) | (refine c_choose _ _ ?_) | (refine c_shape _ _ ?_) | split | (dsimp only))
instance (s : Bool) (l c : Nat) (a b d : Option Value) : Calm (Instr.sliceBounds s l c a b d) := by
  unfold Instr.sliceBounds
  repeat' (first | infer_instance | (intro _) | (refine c_bind _ _ ?_ ?_) | (refine c_ite _ _ _ ?_ ?_) | (refine c_forIn _ _ _ ?_) | (refine c_forInA _ _ _ ?_) | (refine c_forInR _ _ _ ?_) | (refine c_forInR' _ _ _ ?_) | (refine c_bind' _ _ ?_ ?_) | (refine c_getObj _ _ ?_) | (refine c_program _ ?_) | (refine c_choose _ _ ?_) | (refine c_shape _ _ ?_) | split | (dsimp only))
instance (t : TypeId) (x : Value) (a b d : Option Value) : Calm (Instr.slice t x a b d) := by
  unfold Instr.slice
  repeat' (first | infer_instance | (intro _) | (refine c_bind _ _ ?_ ?_) | (refine c_ite _ _ _ ?_ ?_) | (refine c_forIn _ _ _ ?_) | (refine c_forInA _ _ _ ?_) | (refine c_forInR _ _ _ ?_) | (refine c_forInR' _ _ _ ?_) | (refine c_bind' _ _ ?_ ?_) | (refine c_getObj _ _ ?_) | (refine c_program _ ?_) | (refine c_choose _ _ ?_) | (refine c_shape _ _ ?_) | split | (dsimp only))
instance (t : TypeId) (x : Value) (a b d : Option Value) : Calm (Instr.sliceAt t x a b d) := by
  unfold Instr.sliceAt
  repeat' (first | infer_instance | (intro _) | (refine c_bind _ _ ?_ ?_) | (refine c_ite _ _ _ ?_ ?_) | (refine c_forIn _ _ _ ?_) | (refine c_forInA _ _ _ ?_) | (refine c_forInR _ _ _ ?_) | (refine c_forInR' _ _ _ ?_) | (refine c_bind' _ _ ?_ ?_) | (refine c_getObj _ _ ?_) | (refine c_program _ ?_) | (refine c_choose _ _ ?_) | (refine c_shape _ _ ?_) | split | (dsimp only))
instance (t : TypeId) (x : Value) : Calm (Instr.arrayAt t x) := by
  unfold Instr.arrayAt
  repeat' (first | infer_instance | (intro _) | (refine c_bind _ _ ?_ ?_) | (refine c_ite _ _ _ ?_ ?_) | (refine c_forIn _ _ _ ?_) | (refine c_forInA _ _ _ ?_) | (refine c_forInR _ _ _ ?_) | (refine c_forInR' _ _ _ ?_) | (refine c_bind' _ _ ?_ ?_) | (refine c_getObj _ _ ?_) | (refine c_program _ ?_) | (refine c_choose _ _ ?_) | (refine c_shape _ _ ?_) | split | (dsimp only))
instance (e : TypeId) (h : Bool) (o : Value) : Calm (Instr.alloc e h o) := by
  unfold Instr.alloc
  repeat' (first | infer_instance | (intro _) | (refine c_bind _ _ ?_ ?_) | (refine c_ite _ _ _ ?_ ?_) | (refine c_forIn _ _ _ ?_) | (refine c_forInA _ _ _ ?_) | (refine c_forInR _ _ _ ?_) | (refine c_forInR' _ _ _ ?_) | (refine c_bind' _ _ ?_ ?_) | (refine c_getObj _ _ ?_) | (refine c_program _ ?_) | (refine c_choose _ _ ?_) | (refine c_shape _ _ ?_) | split | (dsimp only))
instance (e : TypeId) (o : Value) : Calm (Instr.box e o) := by
  unfold Instr.box
  repeat' (first | infer_instance | (intro _) | (refine c_bind _ _ ?_ ?_) | (refine c_ite _ _ _ ?_ ?_) | (refine c_forIn _ _ _ ?_) | (refine c_forInA _ _ _ ?_) | (refine c_forInR _ _ _ ?_) | (refine c_forInR' _ _ _ ?_) | (refine c_bind' _ _ ?_ ?_) | (refine c_getObj _ _ ?_) | (refine c_program _ ?_) | (refine c_choose _ _ ?_) | (refine c_shape _ _ ?_) | split | (dsimp only))
instance (t : TypeId) (p : Array (Nat × Value)) : Calm (Instr.build t p) := by
  unfold Instr.build
  repeat' (first | infer_instance | (intro _) | (refine c_bind _ _ ?_ ?_) | (refine c_ite _ _ _ ?_ ?_) | (refine c_forIn _ _ _ ?_) | (refine c_forInA _ _ _ ?_) | (refine c_forInR _ _ _ ?_) | (refine c_forInR' _ _ _ ?_) | (refine c_bind' _ _ ?_ ?_) | (refine c_getObj _ _ ?_) | (refine c_program _ ?_) | (refine c_choose _ _ ?_) | (refine c_shape _ _ ?_) | split | (dsimp only))
instance (t : TypeId) (n : Nat) (p : Array (Nat × Value)) : Calm (Instr.buildSlice t n p) := by
  unfold Instr.buildSlice
  repeat' (first | infer_instance | (intro _) | (refine c_bind _ _ ?_ ?_) | (refine c_ite _ _ _ ?_ ?_) | (refine c_forIn _ _ _ ?_) | (refine c_forInA _ _ _ ?_) | (refine c_forInR _ _ _ ?_) | (refine c_forInR' _ _ _ ?_) | (refine c_bind' _ _ ?_ ?_) | (refine c_getObj _ _ ?_) | (refine c_program _ ?_) | (refine c_choose _ _ ?_) | (refine c_shape _ _ ?_) | split | (dsimp only))
instance (v : Value) : Calm (Instr.entry v) := by
  unfold Instr.entry
  repeat' (first | infer_instance | (intro _) | (refine c_bind _ _ ?_ ?_) | (refine c_ite _ _ _ ?_ ?_) | (refine c_forIn _ _ _ ?_) | (refine c_forInA _ _ _ ?_) | (refine c_forInR _ _ _ ?_) | (refine c_forInR' _ _ _ ?_) | (refine c_bind' _ _ ?_ ?_) | (refine c_getObj _ _ ?_) | (refine c_program _ ?_) | (refine c_choose _ _ ?_) | (refine c_shape _ _ ?_) | split | (dsimp only))
instance (v : Value) (n : Nat) : Calm (Instr.extract v n) := by
  unfold Instr.extract
  repeat' (first | infer_instance | (intro _) | (refine c_bind _ _ ?_ ?_) | (refine c_ite _ _ _ ?_ ?_) | (refine c_forIn _ _ _ ?_) | (refine c_forInA _ _ _ ?_) | (refine c_forInR _ _ _ ?_) | (refine c_forInR' _ _ _ ?_) | (refine c_bind' _ _ ?_ ?_) | (refine c_getObj _ _ ?_) | (refine c_program _ ?_) | (refine c_choose _ _ ?_) | (refine c_shape _ _ ?_) | split | (dsimp only))
instance (t : TypeId) (v : Value) (n : Nat) : Calm (Instr.field t v n) := by
  unfold Instr.field
  repeat' (first | infer_instance | (intro _) | (refine c_bind _ _ ?_ ?_) | (refine c_ite _ _ _ ?_ ?_) | (refine c_forIn _ _ _ ?_) | (refine c_forInA _ _ _ ?_) | (refine c_forInR _ _ _ ?_) | (refine c_forInR' _ _ _ ?_) | (refine c_bind' _ _ ?_ ?_) | (refine c_getObj _ _ ?_) | (refine c_program _ ?_) | (refine c_choose _ _ ?_) | (refine c_shape _ _ ?_) | split | (dsimp only))
instance (t : TypeId) (v i : Value) : Calm (Instr.index t v i) := by
  unfold Instr.index
  repeat' (first | infer_instance | (intro _) | (refine c_bind _ _ ?_ ?_) | (refine c_ite _ _ _ ?_ ?_) | (refine c_forIn _ _ _ ?_) | (refine c_forInA _ _ _ ?_) | (refine c_forInR _ _ _ ?_) | (refine c_forInR' _ _ _ ?_) | (refine c_bind' _ _ ?_ ?_) | (refine c_getObj _ _ ?_) | (refine c_program _ ?_) | (refine c_choose _ _ ?_) | (refine c_shape _ _ ?_) | split | (dsimp only))
instance (t : TypeId) (v : Value) : Calm (Instr.makeChan t v) := by
  unfold Instr.makeChan
  repeat' (first | infer_instance | (intro _) | (refine c_bind _ _ ?_ ?_) | (refine c_ite _ _ _ ?_ ?_) | (refine c_forIn _ _ _ ?_) | (refine c_forInA _ _ _ ?_) | (refine c_forInR _ _ _ ?_) | (refine c_forInR' _ _ _ ?_) | (refine c_bind' _ _ ?_ ?_) | (refine c_getObj _ _ ?_) | (refine c_program _ ?_) | (refine c_choose _ _ ?_) | (refine c_shape _ _ ?_) | split | (dsimp only))
instance (f : Fn) (a b : Array Value) : Calm (Instr.makeFunc f a b) := by
  unfold Instr.makeFunc
  repeat' (first | infer_instance | (intro _) | (refine c_bind _ _ ?_ ?_) | (refine c_ite _ _ _ ?_ ?_) | (refine c_forIn _ _ _ ?_) | (refine c_forInA _ _ _ ?_) | (refine c_forInR _ _ _ ?_) | (refine c_forInR' _ _ _ ?_) | (refine c_bind' _ _ ?_ ?_) | (refine c_getObj _ _ ?_) | (refine c_program _ ?_) | (refine c_choose _ _ ?_) | (refine c_shape _ _ ?_) | split | (dsimp only))
instance (t : TypeId) (v : Value) : Calm (Instr.makeInterface t v) := by
  unfold Instr.makeInterface
  repeat' (first | infer_instance | (intro _) | (refine c_bind _ _ ?_ ?_) | (refine c_ite _ _ _ ?_ ?_) | (refine c_forIn _ _ _ ?_) | (refine c_forInA _ _ _ ?_) | (refine c_forInR _ _ _ ?_) | (refine c_forInR' _ _ _ ?_) | (refine c_bind' _ _ ?_ ?_) | (refine c_getObj _ _ ?_) | (refine c_program _ ?_) | (refine c_choose _ _ ?_) | (refine c_shape _ _ ?_) | split | (dsimp only))
instance (t : TypeId) (v : Option Value) : Calm (Instr.makeMap t v) := by
  unfold Instr.makeMap
  repeat' (first | infer_instance | (intro _) | (refine c_bind _ _ ?_ ?_) | (refine c_ite _ _ _ ?_ ?_) | (refine c_forIn _ _ _ ?_) | (refine c_forInA _ _ _ ?_) | (refine c_forInR _ _ _ ?_) | (refine c_forInR' _ _ _ ?_) | (refine c_bind' _ _ ?_ ?_) | (refine c_getObj _ _ ?_) | (refine c_program _ ?_) | (refine c_choose _ _ ?_) | (refine c_shape _ _ ?_) | split | (dsimp only))
instance (t : TypeId) (a b : Value) : Calm (Instr.makeSlice t a b) := by
  unfold Instr.makeSlice
  repeat' (first | infer_instance | (intro _) | (refine c_bind _ _ ?_ ?_) | (refine c_ite _ _ _ ?_ ?_) | (refine c_forIn _ _ _ ?_) | (refine c_forInA _ _ _ ?_) | (refine c_forInR _ _ _ ?_) | (refine c_forInR' _ _ _ ?_) | (refine c_bind' _ _ ?_ ?_) | (refine c_getObj _ _ ?_) | (refine c_program _ ?_) | (refine c_choose _ _ ?_) | (refine c_shape _ _ ?_) | split | (dsimp only))
instance (v : Value) (b : Bool) (t : TypeId) : Calm (Instr.next v b t) := by
  unfold Instr.next
  repeat' (first | infer_instance | (intro _) | (refine c_bind _ _ ?_ ?_) | (refine c_ite _ _ _ ?_ ?_) | (refine c_forIn _ _ _ ?_) | (refine c_forInA _ _ _ ?_) | (refine c_forInR _ _ _ ?_) | (refine c_forInR' _ _ _ ?_) | (refine c_bind' _ _ ?_ ?_) | (refine c_getObj _ _ ?_) | (refine c_program _ ?_) | (refine c_choose _ _ ?_) | (refine c_shape _ _ ?_) | split | (dsimp only))
instance (t : TypeId) (v : Value) : Calm (Instr.range t v) := by
  unfold Instr.range
  repeat' (first | infer_instance | (intro _) | (refine c_bind _ _ ?_ ?_) | (refine c_ite _ _ _ ?_ ?_) | (refine c_forIn _ _ _ ?_) | (refine c_forInA _ _ _ ?_) | (refine c_forInR _ _ _ ?_) | (refine c_forInR' _ _ _ ?_) | (refine c_bind' _ _ ?_ ?_) | (refine c_getObj _ _ ?_) | (refine c_program _ ?_) | (refine c_choose _ _ ?_) | (refine c_shape _ _ ?_) | split | (dsimp only))
instance (g : Nat) : Calm (Instr.ready g) := by
  unfold Instr.ready
  repeat' (first | infer_instance | (intro _) | (refine c_bind _ _ ?_ ?_) | (refine c_ite _ _ _ ?_ ?_) | (refine c_forIn _ _ _ ?_) | (refine c_forInA _ _ _ ?_) | (refine c_forInR _ _ _ ?_) | (refine c_forInR' _ _ _ ?_) | (refine c_bind' _ _ ?_ ?_) | (refine c_getObj _ _ ?_) | (refine c_program _ ?_) | (refine c_choose _ _ ?_) | (refine c_shape _ _ ?_) | split | (dsimp only))
instance (g : Nat) : Calm (Instr.waits g) := by
  unfold Instr.waits
  repeat' (first | infer_instance | (intro _) | (refine c_bind _ _ ?_ ?_) | (refine c_ite _ _ _ ?_ ?_) | (refine c_forIn _ _ _ ?_) | (refine c_forInA _ _ _ ?_) | (refine c_forInR _ _ _ ?_) | (refine c_forInR' _ _ _ ?_) | (refine c_bind' _ _ ?_ ?_) | (refine c_getObj _ _ ?_) | (refine c_program _ ?_) | (refine c_choose _ _ ?_) | (refine c_shape _ _ ?_) | split | (dsimp only))
instance (v : Value) (a b : TypeId) (c : Bool) : Calm (Instr.typeAssert v a b c) := by
  unfold Instr.typeAssert
  repeat' (first | infer_instance | (intro _) | (refine c_bind _ _ ?_ ?_) | (refine c_ite _ _ _ ?_ ?_) | (refine c_forIn _ _ _ ?_) | (refine c_forInA _ _ _ ?_) | (refine c_forInR _ _ _ ?_) | (refine c_forInR' _ _ _ ?_) | (refine c_bind' _ _ ?_ ?_) | (refine c_getObj _ _ ?_) | (refine c_program _ ?_) | (refine c_choose _ _ ?_) | (refine c_shape _ _ ?_) | split | (dsimp only))
instance : Calm Instr.panicnil := ⟨⟨⟨_, rfl, rfl⟩, fun r => by cases r <;> first | trivial | exact fun _ => trivial⟩⟩
instance (v : Value) : Calm (Instr.panic v) := by
  unfold Instr.panic
  repeat' (first | infer_instance | (intro _) | (refine c_bind _ _ ?_ ?_) | (refine c_ite _ _ _ ?_ ?_) | (refine c_forIn _ _ _ ?_) | (refine c_forInA _ _ _ ?_) | (refine c_forInR _ _ _ ?_) | (refine c_forInR' _ _ _ ?_) | (refine c_bind' _ _ ?_ ?_) | (refine c_getObj _ _ ?_) | (refine c_program _ ?_) | (refine c_choose _ _ ?_) | (refine c_shape _ _ ?_) | split | (dsimp only))
instance (t : TypeId) (p : Place) : Calm (Place.get t p) := by
  unfold Place.get
  repeat' (first | infer_instance | (intro _) | (refine c_bind _ _ ?_ ?_) | (refine c_ite _ _ _ ?_ ?_) | (refine c_forIn _ _ _ ?_) | (refine c_forInA _ _ _ ?_) | (refine c_forInR _ _ _ ?_) | (refine c_forInR' _ _ _ ?_) | (refine c_bind' _ _ ?_ ?_) | (refine c_getObj _ _ ?_) | (refine c_program _ ?_) | (refine c_choose _ _ ?_) | (refine c_shape _ _ ?_) | split | (dsimp only))
instance (l : List FieldStep) (t : TypeId) (x : Place) : Calm (follow l t x) := by
  induction l generalizing t x with
  | nil => unfold follow; infer_instance
  | cons s l ih => unfold follow; repeat' (first | infer_instance | (intro _) | (refine c_bind _ _ ?_ ?_) | (refine c_ite _ _ _ ?_ ?_) | (refine c_forIn _ _ _ ?_) | (refine c_forInA _ _ _ ?_) | (refine c_forInR _ _ _ ?_) | (refine c_forInR' _ _ _ ?_) | (refine c_bind' _ _ ?_ ?_) | (refine c_getObj _ _ ?_) | (refine c_program _ ?_) | (refine c_choose _ _ ?_) | (refine c_shape _ _ ?_) | split | (dsimp only))
instance (t : TypeId) (x : Place) (p : Bool) (o : Option String) : Calm (receiverAt t x p o) := by
  unfold receiverAt
  repeat' (first | infer_instance | (intro _) | (refine c_bind _ _ ?_ ?_) | (refine c_ite _ _ _ ?_ ?_) | (refine c_forIn _ _ _ ?_) | (refine c_forInA _ _ _ ?_) | (refine c_forInR _ _ _ ?_) | (refine c_forInR' _ _ _ ?_) | (refine c_bind' _ _ ?_ ?_) | (refine c_getObj _ _ ?_) | (refine c_program _ ?_) | (refine c_choose _ _ ?_) | (refine c_shape _ _ ?_) | split | (dsimp only))
instance (t : TypeId) (v : Value) (p : Array FieldStep) (b : Bool) : Calm (receiverVia t v p b) := by
  unfold receiverVia
  repeat' (first | infer_instance | (intro _) | (refine c_bind _ _ ?_ ?_) | (refine c_ite _ _ _ ?_ ?_) | (refine c_forIn _ _ _ ?_) | (refine c_forInA _ _ _ ?_) | (refine c_forInR _ _ _ ?_) | (refine c_forInR' _ _ _ ?_) | (refine c_bind' _ _ ?_ ?_) | (refine c_getObj _ _ ?_) | (refine c_program _ ?_) | (refine c_choose _ _ ?_) | (refine c_shape _ _ ?_) | split | (dsimp only))
instance (n : Nat) (t : TypeId) (v : Value) (s : String) : Calm (method n t v s) := by
  induction n generalizing t v s with
  | zero => unfold method; infer_instance
  | succ n ih => unfold method; repeat' (first | infer_instance | (intro _) | (refine c_bind _ _ ?_ ?_) | (refine c_ite _ _ _ ?_ ?_) | (refine c_forIn _ _ _ ?_) | (refine c_forInA _ _ _ ?_) | (refine c_forInR _ _ _ ?_) | (refine c_forInR' _ _ _ ?_) | (refine c_bind' _ _ ?_ ?_) | (refine c_getObj _ _ ?_) | (refine c_program _ ?_) | (refine c_choose _ _ ?_) | (refine c_shape _ _ ?_) | split | (dsimp only))
instance (l : List FieldStep) (t : TypeId) (x : Option Value) : Calm (followBlind l t x) := by
  induction l generalizing t x with
  | nil => unfold followBlind; infer_instance
  | cons s l ih => unfold followBlind; repeat' (first | infer_instance | (intro _) | (refine c_bind _ _ ?_ ?_) | (refine c_ite _ _ _ ?_ ?_) | (refine c_forIn _ _ _ ?_) | (refine c_forInA _ _ _ ?_) | (refine c_forInR _ _ _ ?_) | (refine c_forInR' _ _ _ ?_) | (refine c_bind' _ _ ?_ ?_) | (refine c_getObj _ _ ?_) | (refine c_program _ ?_) | (refine c_choose _ _ ?_) | (refine c_shape _ _ ?_) | split | (dsimp only))
instance (n : Nat) (t : TypeId) (v : Value) (s : String) : Calm (nilAhead n t v s) := by
  induction n generalizing t v s with
  | zero => unfold nilAhead; infer_instance
  | succ n ih => unfold nilAhead; repeat' (first | infer_instance | (intro _) | (refine c_bind _ _ ?_ ?_) | (refine c_ite _ _ _ ?_ ?_) | (refine c_forIn _ _ _ ?_) | (refine c_forInA _ _ _ ?_) | (refine c_forInR _ _ _ ?_) | (refine c_forInR' _ _ _ ?_) | (refine c_bind' _ _ ?_ ?_) | (refine c_getObj _ _ ?_) | (refine c_program _ ?_) | (refine c_choose _ _ ?_) | (refine c_shape _ _ ?_) | split | (dsimp only))
instance (l : Nat) : Calm (Instr.getLoop l) := by
  unfold Instr.getLoop
  repeat' (first | infer_instance | (intro _) | (refine c_bind _ _ ?_ ?_) | (refine c_ite _ _ _ ?_ ?_) | (refine c_forIn _ _ _ ?_) | (refine c_forInA _ _ _ ?_) | (refine c_forInR _ _ _ ?_) | (refine c_forInR' _ _ _ ?_) | (refine c_bind' _ _ ?_ ?_) | (refine c_getObj _ _ ?_) | (refine c_program _ ?_) | (refine c_choose _ _ ?_) | (refine c_shape _ _ ?_) | split | (dsimp only))
instance (f : FuncId) (t : Array Value) (p : Array Tmp) (a b : Code) (o : Option Nat) : Calm (Instr.enterLoop f t p a b o) := by
  unfold Instr.enterLoop
  repeat' (first | infer_instance | (intro _) | (refine c_bind _ _ ?_ ?_) | (refine c_ite _ _ _ ?_ ?_) | (refine c_forIn _ _ _ ?_) | (refine c_forInA _ _ _ ?_) | (refine c_forInR _ _ _ ?_) | (refine c_forInR' _ _ _ ?_) | (refine c_bind' _ _ ?_ ?_) | (refine c_getObj _ _ ?_) | (refine c_program _ ?_) | (refine c_choose _ _ ?_) | (refine c_shape _ _ ?_) | split | (dsimp only))
instance (l : Nat) (a : Array Value) : Calm (Instr.yield l a) := by
  unfold Instr.yield
  repeat' (first | infer_instance | (intro _) | (refine c_bind _ _ ?_ ?_) | (refine c_ite _ _ _ ?_ ?_) | (refine c_forIn _ _ _ ?_) | (refine c_forInA _ _ _ ?_) | (refine c_forInR _ _ _ ?_) | (refine c_forInR' _ _ _ ?_) | (refine c_bind' _ _ ?_ ?_) | (refine c_getObj _ _ ?_) | (refine c_program _ ?_) | (refine c_choose _ _ ?_) | (refine c_shape _ _ ?_) | split | (dsimp only))
instance (l : Nat) : Calm (Instr.beginRound l) := by
  unfold Instr.beginRound
  repeat' (first | infer_instance | (intro _) | (refine c_bind _ _ ?_ ?_) | (refine c_ite _ _ _ ?_ ?_) | (refine c_forIn _ _ _ ?_) | (refine c_forInA _ _ _ ?_) | (refine c_forInR _ _ _ ?_) | (refine c_forInR' _ _ _ ?_) | (refine c_bind' _ _ ?_ ?_) | (refine c_getObj _ _ ?_) | (refine c_program _ ?_) | (refine c_choose _ _ ?_) | (refine c_shape _ _ ?_) | split | (dsimp only))
instance (l : Nat) (j : Option Code) : Calm (Instr.endRound l j) := by
  unfold Instr.endRound
  repeat' (first | infer_instance | (intro _) | (refine c_bind _ _ ?_ ?_) | (refine c_ite _ _ _ ?_ ?_) | (refine c_forIn _ _ _ ?_) | (refine c_forInA _ _ _ ?_) | (refine c_forInR _ _ _ ?_) | (refine c_forInR' _ _ _ ?_) | (refine c_bind' _ _ ?_ ?_) | (refine c_getObj _ _ ?_) | (refine c_program _ ?_) | (refine c_choose _ _ ?_) | (refine c_shape _ _ ?_) | split | (dsimp only))
instance (l : Nat) : Calm (Instr.endLoop l) := by
  unfold Instr.endLoop
  repeat' (first | infer_instance | (intro _) | (refine c_bind _ _ ?_ ?_) | (refine c_ite _ _ _ ?_ ?_) | (refine c_forIn _ _ _ ?_) | (refine c_forInA _ _ _ ?_) | (refine c_forInR _ _ _ ?_) | (refine c_forInR' _ _ _ ?_) | (refine c_bind' _ _ ?_ ?_) | (refine c_getObj _ _ ?_) | (refine c_program _ ?_) | (refine c_choose _ _ ?_) | (refine c_shape _ _ ?_) | split | (dsimp only))
instance (l : Nat) (d : Deferred) : Calm (Instr.deferInRound l d) := by
  unfold Instr.deferInRound
  repeat' (first | infer_instance | (intro _) | (refine c_bind _ _ ?_ ?_) | (refine c_ite _ _ _ ?_ ?_) | (refine c_forIn _ _ _ ?_) | (refine c_forInA _ _ _ ?_) | (refine c_forInR _ _ _ ?_) | (refine c_forInR' _ _ _ ?_) | (refine c_bind' _ _ ?_ ?_) | (refine c_getObj _ _ ?_) | (refine c_program _ ?_) | (refine c_choose _ _ ?_) | (refine c_shape _ _ ?_) | split | (dsimp only))
instance (b : Nat) : Calm (Instr.takeDeferred b) := by
  unfold Instr.takeDeferred
  repeat' (first | infer_instance | (intro _) | (refine c_bind _ _ ?_ ?_) | (refine c_ite _ _ _ ?_ ?_) | (refine c_forIn _ _ _ ?_) | (refine c_forInA _ _ _ ?_) | (refine c_forInR _ _ _ ?_) | (refine c_forInR' _ _ _ ?_) | (refine c_bind' _ _ ?_ ?_) | (refine c_getObj _ _ ?_) | (refine c_program _ ?_) | (refine c_choose _ _ ?_) | (refine c_shape _ _ ?_) | split | (dsimp only))
instance (t : TypeId) (x y : Value) : Calm (movedNumber t x y) := by
  unfold movedNumber
  repeat' (first | infer_instance | (intro _) | (refine c_bind _ _ ?_ ?_) | (refine c_ite _ _ _ ?_ ?_) | (refine c_forIn _ _ _ ?_) | (refine c_forInA _ _ _ ?_) | (refine c_forInR _ _ _ ?_) | (refine c_forInR' _ _ _ ?_) | (refine c_bind' _ _ ?_ ?_) | (refine c_getObj _ _ ?_) | (refine c_program _ ?_) | (refine c_choose _ _ ?_) | (refine c_shape _ _ ?_) | split | (dsimp only))
instance (t : TypeId) (x y : Value) : Calm (movedPointer t x y) := by
  unfold movedPointer
  repeat' (first | infer_instance | (intro _) | (refine c_bind _ _ ?_ ?_) | (refine c_ite _ _ _ ?_ ?_) | (refine c_forIn _ _ _ ?_) | (refine c_forInA _ _ _ ?_) | (refine c_forInR _ _ _ ?_) | (refine c_forInR' _ _ _ ?_) | (refine c_bind' _ _ ?_ ?_) | (refine c_getObj _ _ ?_) | (refine c_program _ ?_) | (refine c_choose _ _ ?_) | (refine c_shape _ _ ?_) | split | (dsimp only))
instance (op : BinOp) (t : TypeId) (x y : Operand) (a b : Value) : Calm (eqGuard op t x y a b) := by
  unfold eqGuard
  repeat' (first | infer_instance | (intro _) | (refine c_bind _ _ ?_ ?_) | (refine c_ite _ _ _ ?_ ?_) | (refine c_forIn _ _ _ ?_) | (refine c_forInA _ _ _ ?_) | (refine c_forInR _ _ _ ?_) | (refine c_forInR' _ _ _ ?_) | (refine c_bind' _ _ ?_ ?_) | (refine c_getObj _ _ ?_) | (refine c_program _ ?_) | (refine c_choose _ _ ?_) | (refine c_shape _ _ ?_) | split | (dsimp only))
instance (op : BinOp) (t : TypeId) (x y : Value) : Calm (binOp op t x y) := by
  unfold binOp
  repeat' (first | infer_instance | (intro _) | (refine c_bind _ _ ?_ ?_) | (refine c_ite _ _ _ ?_ ?_) | (refine c_forIn _ _ _ ?_) | (refine c_forInA _ _ _ ?_) | (refine c_forInR _ _ _ ?_) | (refine c_forInR' _ _ _ ?_) | (refine c_bind' _ _ ?_ ?_) | (refine c_getObj _ _ ?_) | (refine c_program _ ?_) | (refine c_choose _ _ ?_) | (refine c_shape _ _ ?_) | split | (dsimp only))
instance (s d : TypeId) (x : Value) : Calm (convert s d x) := by
  unfold convert
  repeat' (first | infer_instance | (intro _) | (refine c_bind _ _ ?_ ?_) | (refine c_ite _ _ _ ?_ ?_) | (refine c_forIn _ _ _ ?_) | (refine c_forInA _ _ _ ?_) | (refine c_forInR _ _ _ ?_) | (refine c_forInR' _ _ _ ?_) | (refine c_bind' _ _ ?_ ?_) | (refine c_getObj _ _ ?_) | (refine c_program _ ?_) | (refine c_choose _ _ ?_) | (refine c_shape _ _ ?_) | split | (dsimp only))
instance (f : Value) (a : Array Value) : Calm (Deferred.ofValue f a) := by
  unfold Deferred.ofValue
  repeat' (first | infer_instance | (intro _) | (refine c_bind _ _ ?_ ?_) | (refine c_ite _ _ _ ?_ ?_) | (refine c_forIn _ _ _ ?_) | (refine c_forInA _ _ _ ?_) | (refine c_forInR _ _ _ ?_) | (refine c_forInR' _ _ _ ?_) | (refine c_bind' _ _ ?_ ?_) | (refine c_getObj _ _ ?_) | (refine c_program _ ?_) | (refine c_choose _ _ ?_) | (refine c_shape _ _ ?_) | split | (dsimp only))
instance (ρ : Operand → Value) (c : Call) (t : TypeId) : Calm (resolve ρ c t) := by
  unfold resolve
  repeat' (first | infer_instance | (intro _) | (refine c_bind _ _ ?_ ?_) | (refine c_ite _ _ _ ?_ ?_) | (refine c_forIn _ _ _ ?_) | (refine c_forInA _ _ _ ?_) | (refine c_forInR _ _ _ ?_) | (refine c_forInR' _ _ _ ?_) | (refine c_bind' _ _ ?_ ?_) | (refine c_getObj _ _ ?_) | (refine c_program _ ?_) | (refine c_choose _ _ ?_) | (refine c_shape _ _ ?_) | split | (dsimp only))
instance (t : TypeId) (v : Value) : Calm (Builtin.printOne t v) := by
  unfold Builtin.printOne
  repeat' (first | infer_instance | (intro _) | (refine c_bind _ _ ?_ ?_) | (refine c_ite _ _ _ ?_ ?_) | (refine c_forIn _ _ _ ?_) | (refine c_forInA _ _ _ ?_) | (refine c_forInR _ _ _ ?_) | (refine c_forInR' _ _ _ ?_) | (refine c_bind' _ _ ?_ ?_) | (refine c_getObj _ _ ?_) | (refine c_program _ ?_) | (refine c_choose _ _ ?_) | (refine c_shape _ _ ?_) | split | (dsimp only))
instance (l : Bool) (c : Array Bool) (a : Array TypeId) (v : Array Value) : Calm (Builtin.pieces l c a v) := by
  unfold Builtin.pieces
  repeat' (first | infer_instance | (intro _) | (refine c_bind _ _ ?_ ?_) | (refine c_ite _ _ _ ?_ ?_) | (refine c_forIn _ _ _ ?_) | (refine c_forInA _ _ _ ?_) | (refine c_forInR _ _ _ ?_) | (refine c_forInR' _ _ _ ?_) | (refine c_bind' _ _ ?_ ?_) | (refine c_getObj _ _ ?_) | (refine c_program _ ?_) | (refine c_choose _ _ ?_) | (refine c_shape _ _ ?_) | split | (dsimp only))
end Go.Gat
