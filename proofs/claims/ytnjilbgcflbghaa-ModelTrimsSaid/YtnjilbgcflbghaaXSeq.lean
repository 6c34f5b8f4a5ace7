/- Sequences that functions give: what a loop over one may count on. -/
import Derived.Test.YtnjilbgcflbghaaXRange
import Derived.Test.YtnjilbgcflbghaaXMinMax
import Derived.Test.YtnjilbgcflbghaaXMem
set_option linter.all false
set_option linter.all false
namespace Go.X
open Go
/-- A function gives its loop some things, one behind the other, at most N; when it has ended by itself, G holds of them all. J: what holds between two rounds (priv: the function's own blocks); Jx: what holds behind a round that wants no more. -/
def SeqOK {α : Type} (P : Program) (fv : Value) (encs : α → Array Value) (N : Nat) (G : List α → Prop) (w : World) : Prop :=
  ∀ (y : Value) (J : (Nat → Prop) → List α → World → Prop) (Jx : World → Prop) (w1 : World) (K : Value → World → Prop), Ext w w1 →
    (∀ priv w2, Ext w1 w2 → (∀ k, priv k → w1.heap.size ≤ k ∧ k < w2.heap.size) → J priv [] w2) →
    (∀ priv xs u u', J priv xs u → Ch priv u u' → J priv xs u') →
    (∀ priv xs x u, J priv xs u → xs.length < N → (∀ k, priv k → w1.heap.size ≤ k ∧ k < u.heap.size) →
      CallV P y (encs x) u fun v u' => (v = .bool true ∧ J priv (xs ++ [x]) u' ∧ Ch (fun k => ¬ priv k ∧ w.heap.size ≤ k) u u') ∨ (v = .bool false ∧ Jx u')) →
    (∀ priv xs u, G xs → J priv xs u → K (.tuple #[]) u) → (∀ u, Jx u → K (.tuple #[]) u) →
    CallC P fv #[y] w1 K
theorem SeqOK.ext {α : Type} {P : Program} {fv : Value} {encs : α → Array Value} {N : Nat} {G : List α → Prop} {w w' : World} (h : SeqOK P fv encs N G w) (hc : Ext w w') : SeqOK P fv encs N G w' :=
  fun y J Jx w1 K h1 h2 h3 h4 h5 h6 => h y J Jx w1 K (hc.trans h1) h2 h3 (fun priv xs x u a b c => (h4 priv xs x u a b c).mono fun v u' h => h.imp (fun ⟨p, q, r⟩ => ⟨p, q, r.mono fun i hi ⟨s, t⟩ => ⟨s, Nat.le_trans hc.size t⟩⟩) id) h5 h6
/-- A function value that is a closure of a function with a body. -/
theorem CallC.mk {P : Program} {g : FuncId} {fn : Func} {c : Code} {pre cap args : Array Value} {w : World} {K : Value → World → Prop} (hf : P.funcs[g]? = some fn) (hn : (fn.name == "runtime.NumGoroutine") = false) (hb : fn.body = some c)
    (h : CallF P g (pre ++ args ++ cap) w K) : CallC P (.func (.func g) pre cap) args w K := ⟨g, fn, c, pre, cap, rfl, hf, hn, hb, h⟩
theorem putObj_ch (w : World) (r : Nat) (o : Obj) : Ch (· = r) w (w.putObj r o) := ⟨rfl, rfl, rfl, by simp, fun k hk hn => World.putObj_heap_other hn⟩
theorem putObj_get {w : World} {r : Nat} {o o' : Obj} (h : w.heap[r]? = some o) : (w.putObj r o').heap[r]? = some o' := by
  have := (Array.getElem?_eq_some_iff.1 h).1
  simp [World.putObj, this]
/-- A block that is no row of cells. -/
theorem obj_ch {S : Nat → Prop} {w w' : World} {r : Nat} {o : Obj} (h : w.heap[r]? = some o) (hc : Ch S w w') (hs : ¬ S r) : w'.heap[r]? = some o := (hc.block r (Array.getElem?_eq_some_iff.1 h).1 hs).trans h
theorem obj_lt {w : World} {r : Nat} {o : Obj} (h : w.heap[r]? = some o) : r < w.heap.size := (Array.getElem?_eq_some_iff.1 h).1
/-- What a loop over a function begins with: its two blocks. -/
theorem loop_start (w : World) (lr : Loop) : ((w.alloc (.deferred (some []))).alloc (LRof lr .ready none)).heap[w.heap.size]? = some (.deferred (some [])) ∧
    ((w.alloc (.deferred (some []))).alloc (LRof lr .ready none)).heap[w.heap.size + 1]? = some (LRof lr .ready none) ∧ Ext w ((w.alloc (.deferred (some []))).alloc (LRof lr .ready none)) ∧
    ((w.alloc (.deferred (some []))).alloc (LRof lr .ready none)).heap.size = w.heap.size + 2 := by
  refine ⟨?_, ?_, (Ch.alloc w _).trans ((Ch.alloc _ _).mono fun _ _ h => h), by simp⟩
  · show ((w.heap.push _).push _)[w.heap.size]? = _
    rw [Array.getElem?_push_lt (by simp)]; simp
  · have := World.alloc_heap_new (w.alloc (.deferred (some []))) (LRof lr .ready none)
    rwa [show (w.alloc (.deferred (some []))).heap.size = w.heap.size + 1 from by simp] at this
theorem perm_erase {α : Type} {l : List α} {i : Nat} (h : i < l.length) : l.Perm (l[i] :: l.eraseIdx i) := by
  rw [List.eraseIdx_eq_take_drop_succ]
  conv => lhs; rw [← List.take_append_drop i l, List.drop_eq_getElem_cons h]
  exact List.perm_middle
/-- Only blocks that lay below the first world's end count. -/
theorem Ch.toExt {S : Nat → Prop} {w w' : World} (h : Ch S w w') (hs : ∀ i, i < w.heap.size → ¬ S i) : Ext w w' := h.mono hs
end Go.X
