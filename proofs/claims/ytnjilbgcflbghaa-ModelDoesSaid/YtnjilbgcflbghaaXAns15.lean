/- Answers and operations in memory. -/
import Derived.Test.YtnjilbgcflbghaaXDo15
set_option linter.all false
set_option maxHeartbeats 4000000
set_option maxRecDepth 100000
namespace Go.Proofs
open Go Go.X Go.Sort
theorem agg_u8s {x y : List Nat} (hx : x.length = 48) (hy : y.length = 48) {K : Bool → Prop} (k : K (decide (x = y))) : AggEq Try.prog 65 (u8s x).toArray (u8s y).toArray K := by
  obtain ⟨i, hi, _⟩ := Try.ti5
  exact ⟨_, EqOK.u8s (P := Try.prog) (t := 65) (e := 5) (n := 48) (i := i) Try.underlying65 Try.underlying5 hi (by kernel_rfl) (by kernel_rfl) hx hy, k⟩
theorem ans_blk {w : World} {a : Nat} {e : Int} {t : Bool} {b : List Nat} {n : Value} {ty : TypeId} {K : Array Value → Prop} (h : Blk w a (ansL e t b n).toArray ty) (hb : b.length = 48) (k : K (u8s b).toArray) : LdN 48 (some ⟨a, 2, none⟩) w K := by
  refine LdN.blk (ds := (u8s b).toArray) h (fun j v hj => ?_) (by simp [hb]) k
  have hj' : (u8s b)[j]? = some v := by simpa using hj
  have hjl : j < (u8s b).length := (List.getElem?_eq_some_iff.1 hj').1
  rw [show 2 + j = j + 1 + 1 from by omega]
  simp only [ansL, List.getElem?_toArray, List.getElem?_cons_succ]
  rw [List.getElem?_append_left hjl]
  exact hj'
theorem op_blk {w : World} {a : Nat} {o : OpV} {ty : TypeId} {K : Array Value → Prop} (h : Blk w a o.cells ty) (ho : o.OK) (k : K (u8s o.block).toArray) : LdN 48 (some ⟨a, 5, none⟩) w K :=
  LdN.blk (ds := (u8s o.block).toArray) h (fun j v hj => o.blk j v (by simpa using hj)) (by simp [ho.block]) k

end Go.Proofs
