/-
  THE PROGRAM IS PLAIN: it calls nothing of the run-time that asks for the machine.
-/
import Derived.Test.YtjcplblnapcfcaaRows
import Derived.Test.YtjcplblnapcfcaaGoB
set_option linter.unusedSimpArgs false
namespace Go.Proofs.Ytjcplblnapcfcaa
open Go Go.Gat

theorem names : (Try.prog.funcs.all fun fn => !(fn.name == "runtime.NumGoroutine")) = true := by kernel_rfl
theorem nexts : (Try.prog.funcs.all fun fn => !fn.body.isNone || (Extern.findNext fn).isNone) = true := by kernel_rfl
/-- The rows that its functions without a body could be. -/
def few : List (String × (Array Value → Sem Value)) := Extern.RuntimeError.rows ++ [Extern.ReflectliteType.rows.getD 11 ("", fun _ => stuck "")]
theorem finds : ((Try.prog.funcs.toList.filter fun fn => fn.body.isNone).map Extern.find) = ((Try.prog.funcs.toList.filter fun fn => fn.body.isNone).map fun fn => few.lookup fn.name) := by kernel_rfl

instance (s : String) : Gat.Calm (Extern.RuntimeError.text s) := by unfold Extern.RuntimeError.text; infer_instance
theorem c_stuck (s : String) : Gat.Calm (stuck s : Sem Value) := inferInstance
instance (a : Array Value) : Gat.Calm (Extern.RuntimeError.boundsError a) := by
  unfold Extern.RuntimeError.boundsError
  rcases a with ⟨_ | ⟨x, _ | ⟨y, l⟩⟩⟩
  · exact c_stuck _
  · cases x
    case agg c =>
      rcases c with ⟨_ | ⟨x1, _ | ⟨x2, _ | ⟨x3, _ | ⟨x4, _ | ⟨x5, l⟩⟩⟩⟩⟩⟩
      case cons.cons.cons.cons.nil =>
        cases x1
        case int =>
          cases x2
          case int =>
            cases x3
            case bool =>
              cases x4
              case int =>
                conv => arg 1; whnf
                split
                · infer_instance
                · exact c_stuck _
              all_goals exact c_stuck _
            all_goals exact c_stuck _
          all_goals exact c_stuck _
        all_goals exact c_stuck _
      all_goals exact c_stuck _
    all_goals exact c_stuck _
  · exact c_stuck _
instance (v : Value) : Gat.Calm (Extern.RuntimeError.described v) := by
  unfold Extern.RuntimeError.described
  repeat' (first | infer_instance | (intro _) | (refine c_bind _ _ ?_ ?_) | split | (dsimp only))
instance (i : TypeInfo) : Gat.Calm (Extern.RuntimeError.pkgpathOf i) := by
  unfold Extern.RuntimeError.pkgpathOf
  repeat' (first | infer_instance | (intro _) | (refine c_bind _ _ ?_ ?_) | split | (dsimp only))
instance (a : Array Value) : Gat.Calm (Extern.RuntimeError.typeAssertionError a) := by
  unfold Extern.RuntimeError.typeAssertionError
  repeat' (first | infer_instance | (intro _) | (refine c_bind _ _ ?_ ?_) | (refine c_ite _ _ _ ?_ ?_) | split | (dsimp only))
instance (a : Array Value) : Gat.Calm (Extern.RuntimeError.unhashableTypeError a) := by
  unfold Extern.RuntimeError.unhashableTypeError
  rcases a with ⟨_ | ⟨x, _ | ⟨y, l⟩⟩⟩
  · exact c_stuck _
  · cases x
    case agg c =>
      rcases c with ⟨_ | ⟨x1, _ | ⟨x2, l⟩⟩⟩
      · exact c_stuck _
      · refine c_bind (Extern.RuntimeError.described x1) _ inferInstance fun t => ?_
        repeat' (first | infer_instance | (intro _) | (refine c_bind _ _ ?_ ?_) | (refine c_ite _ _ _ ?_ ?_) | split | (dsimp only))
      · exact c_stuck _
    all_goals exact c_stuck _
  · exact c_stuck _
instance (a : Array Value) : Gat.Calm (Extern.RuntimeError.nothing a) := by unfold Extern.RuntimeError.nothing; infer_instance

theorem few_calm : ∀ r ∈ few, ∀ args, Gat.Calm (r.2 args) := by
  intro r hr args
  unfold few at hr
  rw [List.mem_append] at hr
  rcases hr with hr | hr
  · simp only [Extern.RuntimeError.rows, List.mem_cons, List.not_mem_nil, or_false] at hr
    rcases hr with rfl | rfl | rfl | rfl | rfl | rfl | rfl | rfl | rfl | rfl | rfl | rfl | rfl | rfl | rfl <;> dsimp only <;> infer_instance
  · simp only [List.mem_cons, List.not_mem_nil, or_false] at hr
    subst hr
    exact c_bind (asInt (args.getD 0 (.tuple #[]))) _ inferInstance fun n => (inferInstance : Gat.Calm (pure _))

theorem plain : Gat.Plain Try.prog where
  name f fn hf := by
    have h := names
    rw [Array.all_eq_true] at h
    obtain ⟨hlt, rfl⟩ := Array.getElem?_eq_some_iff.1 hf
    simpa using h f hlt
  next f fn hf hb := by
    have h := nexts
    rw [Array.all_eq_true] at h
    obtain ⟨hlt, rfl⟩ := Array.getElem?_eq_some_iff.1 hf
    have := h f hlt
    rw [hb] at this
    simpa using this
  find f fn e hf hb he args := by
    have hm : fn ∈ Try.prog.funcs.toList.filter fun fn => fn.body.isNone := List.mem_filter.2 ⟨by simpa using Array.mem_of_getElem? hf, hb⟩
    have hlook : Extern.find fn = few.lookup fn.name := List.map_inj_left.1 finds fn hm
    rw [hlook] at he
    obtain ⟨l1, l2, h1, _⟩ := List.lookup_eq_some_iff.1 he
    exact few_calm (fn.name, e) (by rw [h1]; simp) args
end Go.Proofs.Ytjcplblnapcfcaa
