/- Laid by program. -/
import Derived.Test.YtnjilbgcflbghaaXE3
import Derived.Test.YtnjilbgcflbghaaXE2
import Derived.Test.YtnjilbgcflbghaaXE1
import Derived.Test.YtnjilbgcflbghaaProg
set_option linter.all false
set_option linter.unusedVariables false
set_option linter.unusedSimpArgs false
set_option maxRecDepth 20000
set_option maxHeartbeats 4000000
namespace Go.Proofs
open Go Go.X
def Try.z24 : Array Value := #[(.int .u8 0), (.int .u8 0), (.int .u8 0), (.int .u8 0), (.int .u8 0), (.int .u8 0), (.int .u8 0), (.int .u8 0), (.int .u8 0), (.int .u8 0), (.int .u8 0), (.int .u8 0), (.int .u8 0), (.int .u8 0), (.int .u8 0), (.int .u8 0), (.int .u8 0), (.int .u8 0), (.int .u8 0), (.int .u8 0), (.int .u8 0), (.int .u8 0), (.int .u8 0), (.int .u8 0), (.int .u8 0), (.int .u8 0), (.int .u8 0), (.int .u8 0), (.int .u8 0), (.int .u8 0), (.int .u8 0), (.int .u8 0)]
def Try.z53 : Array Value := #[(.int .i64 0), (.int .u8 0), (.int .u8 0), (.int .u8 0), (.int .u8 0), (.int .u8 0), (.int .u8 0), (.int .u8 0), (.int .u8 0), (.int .u8 0), (.int .u8 0), (.int .u8 0), (.int .u8 0), (.int .u8 0), (.int .u8 0), (.int .u8 0), (.int .u8 0), (.int .u8 0), (.int .u8 0), (.int .u8 0), (.int .u8 0), (.int .u8 0), (.int .u8 0), (.int .u8 0), (.int .u8 0), (.int .u8 0), (.int .u8 0), (.int .u8 0), (.int .u8 0), (.int .u8 0), (.int .u8 0), (.int .u8 0), (.int .u8 0), (Sl.v Sl.nil)]
def Try.z59 : Array Value := #[(.int .u8 0), (.int .u8 0), (.int .u8 0), (.int .u8 0), (.int .u8 0), (.int .u8 0), (.int .u8 0), (.int .u8 0), (.int .u8 0), (.int .u8 0), (.int .u8 0), (.int .u8 0), (.int .u8 0), (.int .u8 0), (.int .u8 0), (.int .u8 0), (.int .u8 0), (.int .u8 0), (.int .u8 0), (.int .u8 0), (.int .u8 0), (.int .u8 0), (.int .u8 0), (.int .u8 0), (.int .u8 0), (.int .u8 0), (.int .u8 0), (.int .u8 0), (.int .u8 0), (.int .u8 0), (.int .u8 0), (.int .u8 0), (Sl.v Sl.nil)]
def Try.z65 : Array Value := #[(.int .u8 0), (.int .u8 0), (.int .u8 0), (.int .u8 0), (.int .u8 0), (.int .u8 0), (.int .u8 0), (.int .u8 0), (.int .u8 0), (.int .u8 0), (.int .u8 0), (.int .u8 0), (.int .u8 0), (.int .u8 0), (.int .u8 0), (.int .u8 0), (.int .u8 0), (.int .u8 0), (.int .u8 0), (.int .u8 0), (.int .u8 0), (.int .u8 0), (.int .u8 0), (.int .u8 0), (.int .u8 0), (.int .u8 0), (.int .u8 0), (.int .u8 0), (.int .u8 0), (.int .u8 0), (.int .u8 0), (.int .u8 0), (.int .u8 0), (.int .u8 0), (.int .u8 0), (.int .u8 0), (.int .u8 0), (.int .u8 0), (.int .u8 0), (.int .u8 0), (.int .u8 0), (.int .u8 0), (.int .u8 0), (.int .u8 0), (.int .u8 0), (.int .u8 0), (.int .u8 0), (.int .u8 0)]
def Try.z67 : Array Value := #[(.int .i64 0), (.string (ByteArray.mk #[])), (.string (ByteArray.mk #[])), (.int .i64 0), (.int .i64 0), (.int .u8 0), (.int .u8 0), (.int .u8 0), (.int .u8 0), (.int .u8 0), (.int .u8 0), (.int .u8 0), (.int .u8 0), (.int .u8 0), (.int .u8 0), (.int .u8 0), (.int .u8 0), (.int .u8 0), (.int .u8 0), (.int .u8 0), (.int .u8 0), (.int .u8 0), (.int .u8 0), (.int .u8 0), (.int .u8 0), (.int .u8 0), (.int .u8 0), (.int .u8 0), (.int .u8 0), (.int .u8 0), (.int .u8 0), (.int .u8 0), (.int .u8 0), (.int .u8 0), (.int .u8 0), (.int .u8 0), (.int .u8 0), (.int .u8 0), (.int .u8 0), (.int .u8 0), (.int .u8 0), (.int .u8 0), (.int .u8 0), (.int .u8 0), (.int .u8 0), (.int .u8 0), (.int .u8 0), (.int .u8 0), (.int .u8 0), (.int .u8 0), (.int .u8 0), (.int .u8 0), (.int .u8 0)]
def Try.z73 : Array Value := #[(.int .i64 0), (.bool false), (.int .u8 0), (.int .u8 0), (.int .u8 0), (.int .u8 0), (.int .u8 0), (.int .u8 0), (.int .u8 0), (.int .u8 0), (.int .u8 0), (.int .u8 0), (.int .u8 0), (.int .u8 0), (.int .u8 0), (.int .u8 0), (.int .u8 0), (.int .u8 0), (.int .u8 0), (.int .u8 0), (.int .u8 0), (.int .u8 0), (.int .u8 0), (.int .u8 0), (.int .u8 0), (.int .u8 0), (.int .u8 0), (.int .u8 0), (.int .u8 0), (.int .u8 0), (.int .u8 0), (.int .u8 0), (.int .u8 0), (.int .u8 0), (.int .u8 0), (.int .u8 0), (.int .u8 0), (.int .u8 0), (.int .u8 0), (.int .u8 0), (.int .u8 0), (.int .u8 0), (.int .u8 0), (.int .u8 0), (.int .u8 0), (.int .u8 0), (.int .u8 0), (.int .u8 0), (.int .u8 0), (.int .u8 0), (Sl.v Sl.nil)]
def Try.z81 : Array Value := #[(.int .i64 0), (.string (ByteArray.mk #[])), (.string (ByteArray.mk #[])), (.int .i64 0), (.int .i64 0), (.bool false), (.int .u8 0), (.int .u8 0), (.int .u8 0), (.int .u8 0), (.int .u8 0), (.int .u8 0), (.int .u8 0), (.int .u8 0), (.int .u8 0), (.int .u8 0), (.int .u8 0), (.int .u8 0), (.int .u8 0), (.int .u8 0), (.int .u8 0), (.int .u8 0), (.int .u8 0), (.int .u8 0), (.int .u8 0), (.int .u8 0), (.int .u8 0), (.int .u8 0), (.int .u8 0), (.int .u8 0), (.int .u8 0), (.int .u8 0), (.int .u8 0), (.int .u8 0), (.int .u8 0), (.int .u8 0), (.int .u8 0), (.int .u8 0)]
def Try.z98 : Array Value := #[(.int .i64 0), (.int .u8 0), (.int .u8 0), (.int .u8 0), (.int .u8 0), (.int .u8 0), (.int .u8 0), (.int .u8 0), (.int .u8 0), (.int .u8 0), (.int .u8 0), (.int .u8 0), (.int .u8 0), (.int .u8 0), (.int .u8 0), (.int .u8 0), (.int .u8 0), (.int .u8 0), (.int .u8 0), (.int .u8 0), (.int .u8 0), (.int .u8 0), (.int .u8 0), (.int .u8 0), (.int .u8 0), (.int .u8 0), (.int .u8 0), (.int .u8 0), (.int .u8 0), (.int .u8 0), (.int .u8 0), (.int .u8 0), (.int .u8 0)]
def Try.z199 : Array Value := #[(.int .i64 0), (.int .u8 0), (.int .u8 0), (.int .u8 0), (.int .u8 0), (.int .u8 0), (.int .u8 0), (.int .u8 0), (.int .u8 0), (.int .u8 0), (.int .u8 0), (.int .u8 0), (.int .u8 0), (.int .u8 0), (.int .u8 0), (.int .u8 0), (.int .u8 0), (.int .u8 0), (.int .u8 0), (.int .u8 0), (.int .u8 0), (.int .u8 0), (.int .u8 0), (.int .u8 0), (.int .u8 0), (.int .u8 0), (.int .u8 0), (.int .u8 0), (.int .u8 0), (.int .u8 0), (.int .u8 0), (.int .u8 0), (.int .u8 0), (.int .u8 0), (.int .u8 0), (.int .u8 0), (.int .u8 0), (.int .u8 0), (.int .u8 0), (.int .u8 0), (.int .u8 0), (.int .u8 0), (.int .u8 0), (.int .u8 0), (.int .u8 0), (.int .u8 0), (.int .u8 0), (.int .u8 0), (.int .u8 0)]
def Try.z219 : Array Value := #[(.int .u8 0), (.int .u8 0), (.int .u8 0), (.int .u8 0), (.int .u8 0), (.int .u8 0), (.int .u8 0), (.int .u8 0), (.int .u8 0), (.int .u8 0), (.int .u8 0), (.int .u8 0), (.int .u8 0), (.int .u8 0), (.int .u8 0), (.int .u8 0), (.int .u8 0), (.int .u8 0), (.int .u8 0), (.int .u8 0), (.int .u8 0), (.int .u8 0), (.int .u8 0), (.int .u8 0), (.int .u8 0), (.int .u8 0), (.int .u8 0), (.int .u8 0), (.int .u8 0), (.int .u8 0), (.int .u8 0), (.int .u8 0), (.int .i64 0), (.int .i64 0), (.int .i64 0)]
def Try.z271 : Array Value := #[(.int .i64 0), (.int .i64 0), (.int .i64 0), (.int .u8 0), (.int .u8 0), (.int .u8 0), (.int .u8 0), (.int .u8 0), (.int .u8 0), (.int .u8 0), (.int .u8 0), (.int .u8 0), (.int .u8 0), (.int .u8 0), (.int .u8 0), (.int .u8 0), (.int .u8 0), (.int .u8 0), (.int .u8 0), (.int .u8 0), (.int .u8 0), (.int .u8 0), (.int .u8 0), (.int .u8 0), (.int .u8 0), (.int .u8 0), (.int .u8 0), (.int .u8 0), (.int .u8 0), (.int .u8 0), (.int .u8 0), (.int .u8 0), (.int .u8 0), (.int .u8 0), (.int .u8 0)]
theorem Try.ti3 : TI Try.prog 3 (.int .i64 0) 1 8 := TI.mk (by kernel_rfl)
theorem Try.ti4 : TI Try.prog 4 (.bool false) 1 1 := TI.mk (by kernel_rfl)
theorem Try.ti5 : TI Try.prog 5 (.int .u8 0) 1 1 := TI.mk (by kernel_rfl)
theorem Try.ti9 : TI Try.prog 9 (.string (ByteArray.mk #[])) 1 16 := TI.mk (by kernel_rfl)
theorem Try.ti16 : TI Try.prog 16 (.pointer none) 1 8 := TI.mk (by kernel_rfl)
theorem Try.ti22 : TI Try.prog 22 (.int .u64 0) 1 8 := TI.mk (by kernel_rfl)
theorem Try.ti24 : TI Try.prog 24 (.agg Try.z24) 32 32 := TI.mk (by kernel_rfl)
theorem Try.ti25 : TI Try.prog 25 (Sl.v Sl.nil) 1 24 := TI.mk (by kernel_rfl)
theorem Try.ti31 : TI Try.prog 31 (.int .i64 0) 1 8 := TI.mk (by kernel_rfl)
theorem Try.ti39 : TI Try.prog 39 (Sl.v Sl.nil) 1 24 := TI.mk (by kernel_rfl)
theorem Try.ti53 : TI Try.prog 53 (.agg Try.z53) 34 64 := TI.mk (by kernel_rfl)
theorem Try.ti59 : TI Try.prog 59 (.agg Try.z59) 33 56 := TI.mk (by kernel_rfl)
theorem Try.ti65 : TI Try.prog 65 (.agg Try.z65) 48 48 := TI.mk (by kernel_rfl)
theorem Try.ti67 : TI Try.prog 67 (.agg Try.z67) 53 104 := TI.mk (by kernel_rfl)
theorem Try.ti71 : TI Try.prog 71 (Sl.v Sl.nil) 1 24 := TI.mk (by kernel_rfl)
theorem Try.ti73 : TI Try.prog 73 (.agg Try.z73) 51 88 := TI.mk (by kernel_rfl)
theorem Try.ti81 : TI Try.prog 81 (.agg Try.z81) 38 96 := TI.mk (by kernel_rfl)
theorem Try.ti93 : TI Try.prog 93 (.agg #[(.string (ByteArray.mk #[])), (.int .i64 0), (.bool false), (Sl.v Sl.nil)]) 4 56 := TI.mk (by kernel_rfl)
theorem Try.ti98 : TI Try.prog 98 (.agg Try.z98) 33 40 := TI.mk (by kernel_rfl)
theorem Try.ti102 : TI Try.prog 102 (Sl.v Sl.nil) 1 24 := TI.mk (by kernel_rfl)
theorem Try.ti104 : TI Try.prog 104 (.agg #[(.string (ByteArray.mk #[])), (.int .i64 0), (.bool false), (Sl.v Sl.nil)]) 4 56 := TI.mk (by kernel_rfl)
theorem Try.ti149 : TI Try.prog 149 (.pointer none) 1 8 := TI.mk (by kernel_rfl)
theorem Try.ti163 : TI Try.prog 163 (.map none) 1 8 := TI.mk (by kernel_rfl)
theorem Try.ti165 : TI Try.prog 165 (.agg #[(.map none)]) 1 8 := TI.mk (by kernel_rfl)
theorem Try.ti167 : TI Try.prog 167 (.pointer none) 1 8 := TI.mk (by kernel_rfl)
theorem Try.ti168 : TI Try.prog 168 (.map none) 1 8 := TI.mk (by kernel_rfl)
theorem Try.ti170 : TI Try.prog 170 (.agg #[(.int .i64 0), (.bool false), (.map none)]) 3 24 := TI.mk (by kernel_rfl)
theorem Try.ti183 : TI Try.prog 183 (.agg #[(.int .i64 0), (.bool false), (.map none)]) 3 24 := TI.mk (by kernel_rfl)
theorem Try.ti184 : TI Try.prog 184 (Sl.v Sl.nil) 1 24 := TI.mk (by kernel_rfl)
theorem Try.ti199 : TI Try.prog 199 (.agg Try.z199) 49 56 := TI.mk (by kernel_rfl)
theorem Try.ti209 : TI Try.prog 209 (.agg #[(.int .i64 0), (.int .i64 0), (.int .i64 0)]) 3 24 := TI.mk (by kernel_rfl)
theorem Try.ti219 : TI Try.prog 219 (.agg Try.z219) 35 56 := TI.mk (by kernel_rfl)
theorem Try.ti227 : TI Try.prog 227 (.agg #[(.int .i64 0), (.int .i64 0), (.int .i64 0)]) 3 24 := TI.mk (by kernel_rfl)
theorem Try.ti267 : TI Try.prog 267 (.pointer none) 1 8 := TI.mk (by kernel_rfl)
theorem Try.ti271 : TI Try.prog 271 (.agg Try.z271) 35 56 := TI.mk (by kernel_rfl)
theorem Try.ti280 : TI Try.prog 280 (.int .u32 0) 1 4 := TI.mk (by kernel_rfl)
theorem Try.ti336 : TI Try.prog 336 (.int .u64 0) 1 8 := TI.mk (by kernel_rfl)
theorem Try.pl67 : PlaceOf Try.prog 67 #[(0, 1), (1, 1), (2, 1), (3, 1), (4, 1), (5, 48)] := ⟨_, Try.underlying67, fun w => by simp [Try.ti3.sizeOf, Try.ti65.sizeOf, Try.ti9.sizeOf]⟩
theorem Try.pl73 : PlaceOf Try.prog 73 #[(0, 1), (1, 1), (2, 48), (50, 1)] := ⟨_, Try.underlying73, fun w => by simp [Try.ti31.sizeOf, Try.ti4.sizeOf, Try.ti65.sizeOf, Try.ti71.sizeOf]⟩
theorem Try.pl104 : PlaceOf Try.prog 104 #[(0, 1), (1, 1), (2, 1), (3, 1)] := ⟨_, Try.underlying104, fun w => by simp [Try.ti102.sizeOf, Try.ti3.sizeOf, Try.ti4.sizeOf, Try.ti9.sizeOf]⟩
theorem Try.pl165 : PlaceOf Try.prog 165 #[(0, 1)] := ⟨_, Try.underlying165, fun w => by simp [Try.ti163.sizeOf]⟩
theorem Try.pl170 : PlaceOf Try.prog 170 #[(0, 1), (1, 1), (2, 1)] := ⟨_, Try.underlying170, fun w => by simp [Try.ti168.sizeOf, Try.ti3.sizeOf, Try.ti4.sizeOf]⟩
theorem Try.pl199 : PlaceOf Try.prog 199 #[(0, 1), (1, 48)] := ⟨_, Try.underlying199, fun w => by simp [Try.ti3.sizeOf, Try.ti65.sizeOf]⟩
abbrev u3 := @Try.underlying3
abbrev u4 := @Try.underlying4
abbrev u5 := @Try.underlying5
abbrev u8 := @Try.underlying8
abbrev u9 := @Try.underlying9
abbrev u22 := @Try.underlying22
abbrev u31 := @Try.underlying31
abbrev u39 := @Try.underlying39
abbrev u63 := @Try.underlying63
abbrev u64 := @Try.underlying64
abbrev u65 := @Try.underlying65
abbrev u67 := @Try.underlying67
abbrev u71 := @Try.underlying71
abbrev u73 := @Try.underlying73
abbrev u100 := @Try.underlying100
abbrev u102 := @Try.underlying102
abbrev u104 := @Try.underlying104
abbrev u126 := @Try.underlying126
abbrev u163 := @Try.underlying163
abbrev u165 := @Try.underlying165
abbrev u168 := @Try.underlying168
abbrev u170 := @Try.underlying170
abbrev u184 := @Try.underlying184
abbrev u199 := @Try.underlying199
abbrev u227 := @Try.underlying227
abbrev u234 := @Try.underlying234
abbrev u336 := @Try.underlying336
end Go.Proofs
