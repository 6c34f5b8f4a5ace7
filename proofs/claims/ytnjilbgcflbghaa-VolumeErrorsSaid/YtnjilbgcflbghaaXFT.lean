/- Laid by program. -/
import Derived.Test.YtnjilbgcflbghaaXE3
import Derived.Test.YtnjilbgcflbghaaXE2
import Derived.Test.YtnjilbgcflbghaaXE1
import Derived.Test.YtnjilbgcflbghaaProg
set_option linter.all false
set_option linter.unusedVariables false
set_option linter.unusedSimpArgs false
set_option maxRecDepth 20000
set_option maxHeartbeats 4000000
namespace Go.Proofs
open Go Go.X
def Try.z24 : Array Value := #[(.int .u8 0), (.int .u8 0), (.int .u8 0), (.int .u8 0), (.int .u8 0), (.int .u8 0), (.int .u8 0), (.int .u8 0), (.int .u8 0), (.int .u8 0), (.int .u8 0), (.int .u8 0), (.int .u8 0), (.int .u8 0), (.int .u8 0), (.int .u8 0), (.int .u8 0), (.int .u8 0), (.int .u8 0), (.int .u8 0), (.int .u8 0), (.int .u8 0), (.int .u8 0), (.int .u8 0), (.int .u8 0), (.int .u8 0), (.int .u8 0), (.int .u8 0), (.int .u8 0), (.int .u8 0), (.int .u8 0), (.int .u8 0)]
def Try.z53 : Array Value := #[(.int .i64 0), (.int .u8 0), (.int .u8 0), (.int .u8 0), (.int .u8 0), (.int .u8 0), (.int .u8 0), (.int .u8 0), (.int .u8 0), (.int .u8 0), (.int .u8 0), (.int .u8 0), (.int .u8 0), (.int .u8 0), (.int .u8 0), (.int .u8 0), (.int .u8 0), (.int .u8 0), (.int .u8 0), (.int .u8 0), (.int .u8 0), (.int .u8 0), (.int .u8 0), (.int .u8 0), (.int .u8 0), (.int .u8 0), (.int .u8 0), (.int .u8 0), (.int .u8 0), (.int .u8 0), (.int .u8 0), (.int .u8 0), (.int .u8 0), (Sl.v Sl.nil)]
def Try.z59 : Array Value := #[(.int .u8 0), (.int .u8 0), (.int .u8 0), (.int .u8 0), (.int .u8 0), (.int .u8 0), (.int .u8 0), (.int .u8 0), (.int .u8 0), (.int .u8 0), (.int .u8 0), (.int .u8 0), (.int .u8 0), (.int .u8 0), (.int .u8 0), (.int .u8 0), (.int .u8 0), (.int .u8 0), (.int .u8 0), (.int .u8 0), (.int .u8 0), (.int .u8 0), (.int .u8 0), (.int .u8 0), (.int .u8 0), (.int .u8 0), (.int .u8 0), (.int .u8 0), (.int .u8 0), (.int .u8 0), (.int .u8 0), (.int .u8 0), (Sl.v Sl.nil)]
def Try.z65 : Array Value := #[(.int .u8 0), (.int .u8 0), (.int .u8 0), (.int .u8 0), (.int .u8 0), (.int .u8 0), (.int .u8 0), (.int .u8 0), (.int .u8 0), (.int .u8 0), (.int .u8 0), (.int .u8 0), (.int .u8 0), (.int .u8 0), (.int .u8 0), (.int .u8 0), (.int .u8 0), (.int .u8 0), (.int .u8 0), (.int .u8 0), (.int .u8 0), (.int .u8 0), (.int .u8 0), (.int .u8 0), (.int .u8 0), (.int .u8 0), (.int .u8 0), (.int .u8 0), (.int .u8 0), (.int .u8 0), (.int .u8 0), (.int .u8 0), (.int .u8 0), (.int .u8 0), (.int .u8 0), (.int .u8 0), (.int .u8 0), (.int .u8 0), (.int .u8 0), (.int .u8 0), (.int .u8 0), (.int .u8 0), (.int .u8 0), (.int .u8 0), (.int .u8 0), (.int .u8 0), (.int .u8 0), (.int .u8 0)]
def Try.z67 : Array Value := #[(.int .i64 0), (.string (ByteArray.mk #[])), (.string (ByteArray.mk #[])), (.int .i64 0), (.int .i64 0), (.int .u8 0), (.int .u8 0), (.int .u8 0), (.int .u8 0), (.int .u8 0), (.int .u8 0), (.int .u8 0), (.int .u8 0), (.int .u8 0), (.int .u8 0), (.int .u8 0), (.int .u8 0), (.int .u8 0), (.int .u8 0), (.int .u8 0), (.int .u8 0), (.int .u8 0), (.int .u8 0), (.int .u8 0), (.int .u8 0), (.int .u8 0), (.int .u8 0), (.int .u8 0), (.int .u8 0), (.int .u8 0), (.int .u8 0), (.int .u8 0), (.int .u8 0), (.int .u8 0), (.int .u8 0), (.int .u8 0), (.int .u8 0), (.int .u8 0), (.int .u8 0), (.int .u8 0), (.int .u8 0), (.int .u8 0), (.int .u8 0), (.int .u8 0), (.int .u8 0), (.int .u8 0), (.int .u8 0), (.int .u8 0), (.int .u8 0), (.int .u8 0), (.int .u8 0), (.int .u8 0), (.int .u8 0)]
def Try.z81 : Array Value := #[(.int .i64 0), (.string (ByteArray.mk #[])), (.string (ByteArray.mk #[])), (.int .i64 0), (.int .i64 0), (.bool false), (.int .u8 0), (.int .u8 0), (.int .u8 0), (.int .u8 0), (.int .u8 0), (.int .u8 0), (.int .u8 0), (.int .u8 0), (.int .u8 0), (.int .u8 0), (.int .u8 0), (.int .u8 0), (.int .u8 0), (.int .u8 0), (.int .u8 0), (.int .u8 0), (.int .u8 0), (.int .u8 0), (.int .u8 0), (.int .u8 0), (.int .u8 0), (.int .u8 0), (.int .u8 0), (.int .u8 0), (.int .u8 0), (.int .u8 0), (.int .u8 0), (.int .u8 0), (.int .u8 0), (.int .u8 0), (.int .u8 0), (.int .u8 0)]
def Try.z98 : Array Value := #[(.int .i64 0), (.int .u8 0), (.int .u8 0), (.int .u8 0), (.int .u8 0), (.int .u8 0), (.int .u8 0), (.int .u8 0), (.int .u8 0), (.int .u8 0), (.int .u8 0), (.int .u8 0), (.int .u8 0), (.int .u8 0), (.int .u8 0), (.int .u8 0), (.int .u8 0), (.int .u8 0), (.int .u8 0), (.int .u8 0), (.int .u8 0), (.int .u8 0), (.int .u8 0), (.int .u8 0), (.int .u8 0), (.int .u8 0), (.int .u8 0), (.int .u8 0), (.int .u8 0), (.int .u8 0), (.int .u8 0), (.int .u8 0), (.int .u8 0)]
def Try.z199 : Array Value := #[(.int .i64 0), (.int .u8 0), (.int .u8 0), (.int .u8 0), (.int .u8 0), (.int .u8 0), (.int .u8 0), (.int .u8 0), (.int .u8 0), (.int .u8 0), (.int .u8 0), (.int .u8 0), (.int .u8 0), (.int .u8 0), (.int .u8 0), (.int .u8 0), (.int .u8 0), (.int .u8 0), (.int .u8 0), (.int .u8 0), (.int .u8 0), (.int .u8 0), (.int .u8 0), (.int .u8 0), (.int .u8 0), (.int .u8 0), (.int .u8 0), (.int .u8 0), (.int .u8 0), (.int .u8 0), (.int .u8 0), (.int .u8 0), (.int .u8 0), (.int .u8 0), (.int .u8 0), (.int .u8 0), (.int .u8 0), (.int .u8 0), (.int .u8 0), (.int .u8 0), (.int .u8 0), (.int .u8 0), (.int .u8 0), (.int .u8 0), (.int .u8 0), (.int .u8 0), (.int .u8 0), (.int .u8 0), (.int .u8 0)]
def Try.z219 : Array Value := #[(.int .u8 0), (.int .u8 0), (.int .u8 0), (.int .u8 0), (.int .u8 0), (.int .u8 0), (.int .u8 0), (.int .u8 0), (.int .u8 0), (.int .u8 0), (.int .u8 0), (.int .u8 0), (.int .u8 0), (.int .u8 0), (.int .u8 0), (.int .u8 0), (.int .u8 0), (.int .u8 0), (.int .u8 0), (.int .u8 0), (.int .u8 0), (.int .u8 0), (.int .u8 0), (.int .u8 0), (.int .u8 0), (.int .u8 0), (.int .u8 0), (.int .u8 0), (.int .u8 0), (.int .u8 0), (.int .u8 0), (.int .u8 0), (.int .i64 0), (.int .i64 0), (.int .i64 0)]
def Try.z271 : Array Value := #[(.int .i64 0), (.int .i64 0), (.int .i64 0), (.int .u8 0), (.int .u8 0), (.int .u8 0), (.int .u8 0), (.int .u8 0), (.int .u8 0), (.int .u8 0), (.int .u8 0), (.int .u8 0), (.int .u8 0), (.int .u8 0), (.int .u8 0), (.int .u8 0), (.int .u8 0), (.int .u8 0), (.int .u8 0), (.int .u8 0), (.int .u8 0), (.int .u8 0), (.int .u8 0), (.int .u8 0), (.int .u8 0), (.int .u8 0), (.int .u8 0), (.int .u8 0), (.int .u8 0), (.int .u8 0), (.int .u8 0), (.int .u8 0), (.int .u8 0), (.int .u8 0), (.int .u8 0)]
theorem Try.ti3 : TI Try.prog 3 (.int .i64 0) 1 8 := TI.mk (by kernel_rfl)
theorem Try.ti4 : TI Try.prog 4 (.bool false) 1 1 := TI.mk (by kernel_rfl)
theorem Try.ti5 : TI Try.prog 5 (.int .u8 0) 1 1 := TI.mk (by kernel_rfl)
theorem Try.ti9 : TI Try.prog 9 (.string (ByteArray.mk #[])) 1 16 := TI.mk (by kernel_rfl)
theorem Try.ti16 : TI Try.prog 16 (.pointer none) 1 8 := TI.mk (by kernel_rfl)
theorem Try.ti22 : TI Try.prog 22 (.int .u64 0) 1 8 := TI.mk (by kernel_rfl)
theorem Try.ti24 : TI Try.prog 24 (.agg Try.z24) 32 32 := TI.mk (by kernel_rfl)
theorem Try.ti25 : TI Try.prog 25 (Sl.v Sl.nil) 1 24 := TI.mk (by kernel_rfl)
theorem Try.ti39 : TI Try.prog 39 (Sl.v Sl.nil) 1 24 := TI.mk (by kernel_rfl)
theorem Try.ti53 : TI Try.prog 53 (.agg Try.z53) 34 64 := TI.mk (by kernel_rfl)
theorem Try.ti59 : TI Try.prog 59 (.agg Try.z59) 33 56 := TI.mk (by kernel_rfl)
theorem Try.ti65 : TI Try.prog 65 (.agg Try.z65) 48 48 := TI.mk (by kernel_rfl)
theorem Try.ti67 : TI Try.prog 67 (.agg Try.z67) 53 104 := TI.mk (by kernel_rfl)
theorem Try.ti71 : TI Try.prog 71 (Sl.v Sl.nil) 1 24 := TI.mk (by kernel_rfl)
theorem Try.ti81 : TI Try.prog 81 (.agg Try.z81) 38 96 := TI.mk (by kernel_rfl)
theorem Try.ti91 : TI Try.prog 91 (Sl.v Sl.nil) 1 24 := TI.mk (by kernel_rfl)
theorem Try.ti93 : TI Try.prog 93 (.agg #[(.string (ByteArray.mk #[])), (.int .i64 0), (.bool false), (Sl.v Sl.nil)]) 4 56 := TI.mk (by kernel_rfl)
theorem Try.ti98 : TI Try.prog 98 (.agg Try.z98) 33 40 := TI.mk (by kernel_rfl)
theorem Try.ti104 : TI Try.prog 104 (.agg #[(.string (ByteArray.mk #[])), (.int .i64 0), (.bool false), (Sl.v Sl.nil)]) 4 56 := TI.mk (by kernel_rfl)
theorem Try.ti149 : TI Try.prog 149 (.pointer none) 1 8 := TI.mk (by kernel_rfl)
theorem Try.ti167 : TI Try.prog 167 (.pointer none) 1 8 := TI.mk (by kernel_rfl)
theorem Try.ti177 : TI Try.prog 177 (.map none) 1 8 := TI.mk (by kernel_rfl)
theorem Try.ti179 : TI Try.prog 179 (.agg #[(.map none)]) 1 8 := TI.mk (by kernel_rfl)
theorem Try.ti181 : TI Try.prog 181 (.map none) 1 8 := TI.mk (by kernel_rfl)
theorem Try.ti183 : TI Try.prog 183 (.agg #[(.int .i64 0), (.bool false), (.map none)]) 3 24 := TI.mk (by kernel_rfl)
theorem Try.ti184 : TI Try.prog 184 (Sl.v Sl.nil) 1 24 := TI.mk (by kernel_rfl)
theorem Try.ti199 : TI Try.prog 199 (.agg Try.z199) 49 56 := TI.mk (by kernel_rfl)
theorem Try.ti209 : TI Try.prog 209 (.agg #[(.int .i64 0), (.int .i64 0), (.int .i64 0)]) 3 24 := TI.mk (by kernel_rfl)
theorem Try.ti219 : TI Try.prog 219 (.agg Try.z219) 35 56 := TI.mk (by kernel_rfl)
theorem Try.ti267 : TI Try.prog 267 (.pointer none) 1 8 := TI.mk (by kernel_rfl)
theorem Try.ti271 : TI Try.prog 271 (.agg Try.z271) 35 56 := TI.mk (by kernel_rfl)
theorem Try.ti280 : TI Try.prog 280 (.int .u32 0) 1 4 := TI.mk (by kernel_rfl)
theorem Try.ti336 : TI Try.prog 336 (.int .u64 0) 1 8 := TI.mk (by kernel_rfl)
theorem Try.pl93 : PlaceOf Try.prog 93 #[(0, 1), (1, 1), (2, 1), (3, 1)] := ⟨_, Try.underlying93, fun w => by simp [Try.ti3.sizeOf, Try.ti4.sizeOf, Try.ti9.sizeOf, Try.ti91.sizeOf]⟩
theorem Try.pl98 : PlaceOf Try.prog 98 #[(0, 1), (1, 32)] := ⟨_, Try.underlying98, fun w => by simp [Try.ti24.sizeOf, Try.ti3.sizeOf]⟩
theorem Try.pl179 : PlaceOf Try.prog 179 #[(0, 1)] := ⟨_, Try.underlying179, fun w => by simp [Try.ti177.sizeOf]⟩
theorem Try.pl183 : PlaceOf Try.prog 183 #[(0, 1), (1, 1), (2, 1)] := ⟨_, Try.underlying183, fun w => by simp [Try.ti181.sizeOf, Try.ti3.sizeOf, Try.ti4.sizeOf]⟩
abbrev u3 := @Try.underlying3
abbrev u4 := @Try.underlying4
abbrev u5 := @Try.underlying5
abbrev u8 := @Try.underlying8
abbrev u9 := @Try.underlying9
abbrev u22 := @Try.underlying22
abbrev u24 := @Try.underlying24
abbrev u64 := @Try.underlying64
abbrev u71 := @Try.underlying71
abbrev u76 := @Try.underlying76
abbrev u81 := @Try.underlying81
abbrev u82 := @Try.underlying82
abbrev u91 := @Try.underlying91
abbrev u93 := @Try.underlying93
abbrev u98 := @Try.underlying98
abbrev u177 := @Try.underlying177
abbrev u179 := @Try.underlying179
abbrev u181 := @Try.underlying181
abbrev u183 := @Try.underlying183
abbrev u184 := @Try.underlying184
abbrev u234 := @Try.underlying234
abbrev u336 := @Try.underlying336
end Go.Proofs
