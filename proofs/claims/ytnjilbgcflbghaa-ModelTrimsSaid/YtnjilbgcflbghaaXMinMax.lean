/- min and max of two numbers; calls of functions of the library without a Go body. -/
import Derived.Test.YtnjilbgcflbghaaXMap
import Derived.Laws.Externs
import GoSem.Extern.MapsClone
import GoSem.Extern.BytealgCompare
set_option linter.all false
set_option linter.all false
namespace Go.X
open Go
theorem minI_eq (m n : Int) : (if n < m then n else m) = minI m n := by unfold minI; split <;> split <;> omega
theorem maxI_eq (m n : Int) : (if n > m then n else m) = maxI m n := by unfold maxI; split <;> split <;> omega
section
variable {P : Program} {ρ : Operand → Value} {o : Oper} {x y : Operand} {k : IntKind} {m n : Int} {ts : Array TypeId} {w : World}
theorem p_min (ho : o.op = .call { callee := .builtin .min, args := #[x, y], argTypes := ts }) (hx : ρ x = .int k m) (hy : ρ y = .int k n) : PureOp P ρ o (.int k (minI m n)) := fun w => by
  rw [← minI_eq]
  simp [execOp, ho, resolve, invoke, builtin, Builtin.min_, hx, hy, Builtin.min2]
theorem p_max (ho : o.op = .call { callee := .builtin .max, args := #[x, y], argTypes := ts }) (hx : ρ x = .int k m) (hy : ρ y = .int k n) : PureOp P ρ o (.int k (maxI m n)) := fun w => by
  rw [← maxI_eq]
  simp [execOp, ho, resolve, invoke, builtin, Builtin.max_, hx, hy, Builtin.max2]
theorem e_extV {g : FuncId} {fn : Func} {e : Array Value → Sem Value} {xs : Array Operand} {args : List Value} {K : Value → World → Prop} (h : Ef P (e args.toArray) id w K) (ho : o.op = .call { callee := .value (.func g), args := xs, argTypes := ts }) (hg : ρ (.func g) = .func (.func g) #[] #[])
    (hf : P.funcs[g]? = some fn) (hn : (fn.name == "runtime.NumGoroutine") = false) (hb : fn.body.isNone = true) (hn2 : Extern.findNext fn = none) (he : Extern.find fn = some e) (ha' : xs.toList.map ρ = args) : EffOp P ρ o w K := by
  obtain ⟨v, w', hr, hk⟩ := h
  have ha : xs.map ρ = args.toArray := by subst ha'; apply Array.ext'; simp
  unfold EffOp
  have e' : (execOp ρ o).run P w = .ok (.value v) w' := by
    simp only [execOp, ho, resolve, Deferred.ofValue, hg, Sem.run_bind, Sem.run_pure, Result.andThen_ok, ha, invoke, Array.empty_append, Array.append_empty, run_callFunc_extern hf hn hb hn2 he, hr]
    rfl
  rw [e']
  exact hk
theorem e_ext {α : Type} {enc : α → Value} {g : FuncId} {fn : Func} {e : Array Value → Sem Value} {xs : Array Operand} {args : List Value} {K : α → World → Prop} (h : Ef P (e args.toArray) enc w K) (ho : o.op = .call { callee := .value (.func g), args := xs, argTypes := ts }) (hg : ρ (.func g) = .func (.func g) #[] #[])
    (hf : P.funcs[g]? = some fn) (hn : (fn.name == "runtime.NumGoroutine") = false) (hb : fn.body.isNone = true) (hn2 : Extern.findNext fn = none) (he : Extern.find fn = some e) (ha' : xs.toList.map ρ = args) : EffOp P ρ o w fun v w' => ∃ x, v = enc x ∧ K x w' := by
  obtain ⟨v, w', hr, hk⟩ := h
  exact e_extV ⟨enc v, w', hr, v, rfl, hk⟩ ho hg hf hn hb hn2 he ha'
end
def XE_clone := Extern.MapsClone.clone
def XE_Compare := Extern.BytealgCompare.compare
/-- maps.Clone's body: a map in an interface. -/
theorem clone_run {P : Program} {κ : Type} [DecidableEq κ] {enc : κ → Value} {w : World} {r : Nat} {l : List (κ × Value)} {t : TypeId} (hm : MapB w r enc l) :
    ∃ w', (XE_clone #[.iface t (.map (some r))]).run P w = .ok (.iface t (.map (some w.heap.size))) w' ∧ MapB w' w.heap.size enc l ∧ Ext w w' ∧ w'.heap.size = w.heap.size + 1 := by
  have hlt := hm.lt
  obtain ⟨es, c, h1, h2⟩ := hm
  have hobj : (getObj r).run P w = .ok (.map es c) w := by simp [getObj, Sem.run, h1]
  refine ⟨w.alloc (.map es c), ?_, ⟨es, c, ?_, h2⟩, Ch.alloc w _, by simp⟩
  · have e : XE_clone #[.iface t (.map (some r))] = (getObj r >>= fun o => match o with | .map entries clock => (do pure (.iface t (.map (some (← newObj (.map entries clock)))))) | _ => stuck "maps.clone: a map expected") := rfl
    rw [e]
    simp [Sem.run_bind, hobj, newObj, Sem.run]
  · show (w.heap.push _)[w.heap.size]? = _; simp
end Go.X
