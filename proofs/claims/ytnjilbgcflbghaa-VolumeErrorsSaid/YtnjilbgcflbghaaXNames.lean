/- May a text be a name? -/
import Derived.Test.YtnjilbgcflbghaaXE2
set_option linter.all false
set_option maxHeartbeats 2000000
set_option maxRecDepth 100000
namespace Go.Proofs
open Go Go.X
/-- May a text be a name? -/
def namedB (s : ByteArray) : Bool := ((bs s).all fun c => decide (32 < c) && decide (c ≤ 126)) && decide (s.size ≠ 0) && decide (s.size ≤ 20)
def mayB (n : ByteArray) (q : Int) : Bool := namedB n && decide (0 ≤ q) && decide (q ≤ 1048576)
end Go.Proofs
