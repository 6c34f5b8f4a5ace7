/- The engine's laws: what each operation comes to. -/
import Derived.Test.YtnjilbgcflbghaaXAny
import Derived.WalkKit
set_option linter.all false
namespace Go.X
open Go

/-- A slice, taken apart. -/
structure Sl where
  a : Option Addr
  len : Nat
  cap : Nat
def Sl.v (s : Sl) : Value := .slice s.a s.len s.cap
def Sl.nil : Sl := ⟨none, 0, 0⟩

/-- A value of a kind. -/
def As {α : Type} (enc : α → Value) (v : Value) (K : α → Prop) : Prop := ∃ x, v = enc x ∧ K x
def As2 (v : Value) (K : Value → Value → Prop) : Prop := ∃ x y, v = .tuple #[x, y] ∧ K x y
def As3 (v : Value) (K : Value → Value → Value → Prop) : Prop := ∃ x y z, v = .tuple #[x, y, z] ∧ K x y z
def As4 (v : Value) (K : Value → Value → Value → Value → Prop) : Prop := ∃ x y z u, v = .tuple #[x, y, z, u] ∧ K x y z u
def IfB (b : Bool) (A B : Prop) : Prop := (b = true → A) ∧ (b = false → B)
def Lp {α : Type} (F : (α → World → Prop) → α → World → Prop) (s : α) (w : World) : Prop :=
  ∃ (I : α → World → Prop) (μ : α → World → Nat), I s w ∧ ∀ s w, I s w → F (fun s' w' => I s' w' ∧ μ s' w' < μ s w) s w

section pure
variable {P : Program} {ρ : Operand → Value} {o : Oper}

theorem p_move {x : Operand} {v : Value} (ho : o.op = .move x) (hv : ρ x = v) : PureOp P ρ o v := fun w => by simp [execOp, ho, hv]
theorem p_assign {x : Operand} {v : Value} (ho : o.op = .assign x) (hv : ρ x = v) : PureOp P ρ o v := fun w => by simp [execOp, ho, hv]
theorem p_pickT {c x y : Operand} {b : Bool} (ho : o.op = .pick c x y) (hc : ρ c = .bool b) (hb : b = true) {v : Value} (hv : ρ x = v) : PureOp P ρ o v := fun w => by subst hb; simp [execOp, ho, hc, asBool, hv]
theorem p_pickF {c x y : Operand} {b : Bool} (ho : o.op = .pick c x y) (hc : ρ c = .bool b) (hb : b = false) {v : Value} (hv : ρ y = v) : PureOp P ρ o v := fun w => by subst hb; simp [execOp, ho, hc, asBool, hv]

theorem eqGuard_int {op : BinOp} {t : TypeId} {x y : Operand} {k k' : IntKind} {m n : Int} {w : World} : (eqGuard op t x y (.int k m) (.int k' n)).run P w = .ok () w := by
  unfold eqGuard; cases op <;> simp

variable {t t' : TypeId} {x y : Operand} {k : IntKind} {m n : Int}
theorem p_add (ho : o.op = .binOp .add t x y t') (hx : ρ x = .int k m) (hy : ρ y = .int k n) : PureOp P ρ o (.int k (k.wrap (m + n))) := fun w => by
  simp [execOp, ho, hx, hy, binOp, Op.intArith, eqGuard_int]
theorem p_sub (ho : o.op = .binOp .sub t x y t') (hx : ρ x = .int k m) (hy : ρ y = .int k n) : PureOp P ρ o (.int k (k.wrap (m - n))) := fun w => by
  simp [execOp, ho, hx, hy, binOp, Op.intArith, eqGuard_int]
theorem p_mul (ho : o.op = .binOp .mul t x y t') (hx : ρ x = .int k m) (hy : ρ y = .int k n) : PureOp P ρ o (.int k (k.wrap (m * n))) := fun w => by
  simp [execOp, ho, hx, hy, binOp, Op.intArith, eqGuard_int]
theorem p_quo (ho : o.op = .binOp .quo t x y t') (hx : ρ x = .int k m) (hy : ρ y = .int k n) (hn : n ≠ 0) : PureOp P ρ o (.int k (k.wrap (m.tdiv n))) := fun w => by
  simp [execOp, ho, hx, hy, binOp, Op.intDiv, eqGuard_int, hn]
theorem p_rem (ho : o.op = .binOp .rem t x y t') (hx : ρ x = .int k m) (hy : ρ y = .int k n) (hn : n ≠ 0) : PureOp P ρ o (.int k (m.tmod n)) := fun w => by
  simp [execOp, ho, hx, hy, binOp, Op.intDiv, eqGuard_int, hn]
def andK (k : IntKind) (m n : Int) : Int := k.wrap (BitVec.ofInt k.bits m &&& BitVec.ofInt k.bits n).toNat
def orK (k : IntKind) (m n : Int) : Int := k.wrap (BitVec.ofInt k.bits m ||| BitVec.ofInt k.bits n).toNat
def xorK (k : IntKind) (m n : Int) : Int := k.wrap (BitVec.ofInt k.bits m ^^^ BitVec.ofInt k.bits n).toNat
def andNotK (k : IntKind) (m n : Int) : Int := k.wrap (BitVec.ofInt k.bits m &&& ~~~BitVec.ofInt k.bits n).toNat
theorem p_and (ho : o.op = .binOp .and t x y t') (hx : ρ x = .int k m) (hy : ρ y = .int k n) : PureOp P ρ o (.int k (andK k m n)) := fun w => by
  simp [execOp, ho, hx, hy, binOp, Op.intBits, eqGuard_int, andK]
theorem p_or (ho : o.op = .binOp .or t x y t') (hx : ρ x = .int k m) (hy : ρ y = .int k n) : PureOp P ρ o (.int k (orK k m n)) := fun w => by
  simp [execOp, ho, hx, hy, binOp, Op.intBits, eqGuard_int, orK]
theorem p_xor (ho : o.op = .binOp .xor t x y t') (hx : ρ x = .int k m) (hy : ρ y = .int k n) : PureOp P ρ o (.int k (xorK k m n)) := fun w => by
  simp [execOp, ho, hx, hy, binOp, Op.intBits, eqGuard_int, xorK]
theorem p_andNot (ho : o.op = .binOp .andNot t x y t') (hx : ρ x = .int k m) (hy : ρ y = .int k n) : PureOp P ρ o (.int k (andNotK k m n)) := fun w => by
  simp [execOp, ho, hx, hy, binOp, Op.intBits, eqGuard_int, andNotK]
def shlK (k : IntKind) (m n : Int) : Int := k.wrap (m * 2 ^ (min n.toNat k.bits))
def shrK (k : IntKind) (m n : Int) : Int := m.fdiv (2 ^ (min n.toNat k.bits))
theorem p_shl {k' : IntKind} (ho : o.op = .binOp .shl t x y t') (hx : ρ x = .int k m) (hy : ρ y = .int k' n) (hn : 0 ≤ n) : PureOp P ρ o (.int k (shlK k m n)) := fun w => by
  have h : ¬ n < 0 := by omega
  simp [execOp, ho, hx, hy, binOp, Op.shift, eqGuard_int, h, shlK]
theorem p_shr {k' : IntKind} (ho : o.op = .binOp .shr t x y t') (hx : ρ x = .int k m) (hy : ρ y = .int k' n) (hn : 0 ≤ n) : PureOp P ρ o (.int k (shrK k m n)) := fun w => by
  have h : ¬ n < 0 := by omega
  simp [execOp, ho, hx, hy, binOp, Op.shift, eqGuard_int, h, shrK]
theorem p_eq (ho : o.op = .binOp .eql t x y t') (hx : ρ x = .int k m) (hy : ρ y = .int k n) : PureOp P ρ o (.bool (decide (m = n))) := fun w => by
  simp [execOp, ho, hx, hy, binOp, Op.intCmp, eqGuard_int]; rfl
theorem p_ne (ho : o.op = .binOp .neq t x y t') (hx : ρ x = .int k m) (hy : ρ y = .int k n) : PureOp P ρ o (.bool (!decide (m = n))) := fun w => by
  simp [execOp, ho, hx, hy, binOp, Op.intCmp, eqGuard_int]; rfl
theorem p_lt (ho : o.op = .binOp .lss t x y t') (hx : ρ x = .int k m) (hy : ρ y = .int k n) : PureOp P ρ o (.bool (decide (m < n))) := fun w => by
  simp [execOp, ho, hx, hy, binOp, Op.intCmp, eqGuard_int]
theorem p_le (ho : o.op = .binOp .leq t x y t') (hx : ρ x = .int k m) (hy : ρ y = .int k n) : PureOp P ρ o (.bool (decide (m ≤ n))) := fun w => by
  simp [execOp, ho, hx, hy, binOp, Op.intCmp, eqGuard_int]
theorem p_gt (ho : o.op = .binOp .gtr t x y t') (hx : ρ x = .int k m) (hy : ρ y = .int k n) : PureOp P ρ o (.bool (decide (n < m))) := fun w => by
  simp [execOp, ho, hx, hy, binOp, Op.intCmp, eqGuard_int]
theorem p_ge (ho : o.op = .binOp .geq t x y t') (hx : ρ x = .int k m) (hy : ρ y = .int k n) : PureOp P ρ o (.bool (decide (n ≤ m))) := fun w => by
  simp [execOp, ho, hx, hy, binOp, Op.intCmp, eqGuard_int]
theorem p_not {b : Bool} (ho : o.op = .unOp .not t x) (hx : ρ x = .bool b) : PureOp P ρ o (.bool (!b)) := fun w => by simp [execOp, ho, hx, Op.unary]
theorem p_neg (ho : o.op = .unOp .neg t x) (hx : ρ x = .int k m) : PureOp P ρ o (.int k (k.wrap (0 - m))) := fun w => by simp [execOp, ho, hx, Op.unary, Op.intArith]
theorem p_conv {k' : IntKind} {d : TypeDesc} (ho : o.op = .convert t t' x) (h1 : P.underlying t = some d) (h2 : P.underlying t' = some (.int k')) (hx : ρ x = .int k m) : PureOp P ρ o (.int k' (k'.wrap m)) := fun w => by
  simp [execOp, ho, hx, convert, run_underlying h1, run_underlying h2, Conv.intToInt]
theorem equalIn_run (_ : Nat) (t : TypeId) (x y : Value) (w : World) (b : Bool) (h : ∀ d, (Op.equalIn (d + 1) t x y).run P w = .ok b w) : (Op.equal t x y).run P w = .ok b w := h 9999
theorem eql_run {t : TypeId} {x y : Value} {w : World} {b : Bool} (he : binOp .eql t x y = (do pure (.bool (← Op.equal t x y)))) (h : (Op.equal t x y).run P w = .ok b w) : (binOp .eql t x y).run P w = .ok (.bool b) w := by
  rw [he]; simp [h]
theorem neq_run {t : TypeId} {x y : Value} {w : World} {b : Bool} (he : binOp .neq t x y = (do pure (.bool (!(← Op.equal t x y))))) (h : (Op.equal t x y).run P w = .ok b w) : (binOp .neq t x y).run P w = .ok (.bool (!b)) w := by
  rw [he]; simp [h]
theorem exec_eql {t' : TypeId} {vx vy : Value} {b : Bool} {w : World} (ho : o.op = .binOp .eql t x y t') (hx : ρ x = vx) (hy : ρ y = vy) (hg : (eqGuard .eql t x y vx vy).run P w = .ok () w)
    (he : binOp .eql t vx vy = (do pure (.bool (← Op.equal t vx vy)))) (h : ∀ d, (Op.equalIn (d + 1) t vx vy).run P w = .ok b w) : (execOp ρ o).run P w = .ok (.value (.bool b)) w := by
  simp only [execOp, ho, hx, hy]
  simp [hg, eql_run he (equalIn_run 0 t vx vy w b h)]
theorem exec_neq {t' : TypeId} {vx vy : Value} {b : Bool} {w : World} (ho : o.op = .binOp .neq t x y t') (hx : ρ x = vx) (hy : ρ y = vy) (hg : (eqGuard .neq t x y vx vy).run P w = .ok () w)
    (he : binOp .neq t vx vy = (do pure (.bool (!(← Op.equal t vx vy))))) (h : ∀ d, (Op.equalIn (d + 1) t vx vy).run P w = .ok b w) : (execOp ρ o).run P w = .ok (.value (.bool (!b))) w := by
  simp only [execOp, ho, hx, hy]
  simp [hg, neq_run he (equalIn_run 0 t vx vy w b h)]
theorem p_beq {a b : Bool} (ho : o.op = .binOp .eql t x y t') (h1 : P.underlying t = some .bool) (hx : ρ x = .bool a) (hy : ρ y = .bool b) : PureOp P ρ o (.bool (a == b)) := fun w =>
  exec_eql ho hx hy (by simp [eqGuard]) rfl fun d => by simp [Op.equalIn, run_underlying h1]
theorem p_bne {a b : Bool} (ho : o.op = .binOp .neq t x y t') (h1 : P.underlying t = some .bool) (hx : ρ x = .bool a) (hy : ρ y = .bool b) : PureOp P ρ o (.bool (!(a == b))) := fun w =>
  exec_neq ho hx hy (by simp [eqGuard]) rfl fun d => by simp [Op.equalIn, run_underlying h1]
/-- strings -/
theorem eqGuard_str {op : BinOp} {a b : ByteArray} {w : World} : (eqGuard op t x y (.string a) (.string b)).run P w = .ok () w := by
  unfold eqGuard; cases op <;> simp
def seq (a b : ByteArray) : Bool := a.toList == b.toList
def slt (a b : ByteArray) : Bool := Op.bytesLess a.toList b.toList
variable {a b : ByteArray}
theorem p_seq (ho : o.op = .binOp .eql t x y t') (hx : ρ x = .string a) (hy : ρ y = .string b) : PureOp P ρ o (.bool (seq a b)) := fun w => by
  simp [execOp, ho, hx, hy, binOp, Op.stringOp, eqGuard_str, seq]
theorem p_sne (ho : o.op = .binOp .neq t x y t') (hx : ρ x = .string a) (hy : ρ y = .string b) : PureOp P ρ o (.bool (!seq a b)) := fun w => by
  simp [execOp, ho, hx, hy, binOp, Op.stringOp, eqGuard_str, seq]
theorem p_slt (ho : o.op = .binOp .lss t x y t') (hx : ρ x = .string a) (hy : ρ y = .string b) : PureOp P ρ o (.bool (slt a b)) := fun w => by
  simp [execOp, ho, hx, hy, binOp, Op.stringOp, eqGuard_str, slt]
theorem p_sle (ho : o.op = .binOp .leq t x y t') (hx : ρ x = .string a) (hy : ρ y = .string b) : PureOp P ρ o (.bool (slt a b || seq a b)) := fun w => by
  simp [execOp, ho, hx, hy, binOp, Op.stringOp, eqGuard_str, slt, seq]
theorem p_sge (ho : o.op = .binOp .geq t x y t') (hx : ρ x = .string a) (hy : ρ y = .string b) : PureOp P ρ o (.bool (!slt a b)) := fun w => by
  simp [execOp, ho, hx, hy, binOp, Op.stringOp, eqGuard_str, slt]
theorem p_sgt (ho : o.op = .binOp .gtr t x y t') (hx : ρ x = .string a) (hy : ρ y = .string b) : PureOp P ρ o (.bool (!(slt a b || seq a b))) := fun w => by
  simp [execOp, ho, hx, hy, binOp, Op.stringOp, eqGuard_str, slt, seq]
theorem p_scat (ho : o.op = .binOp .add t x y t') (hx : ρ x = .string a) (hy : ρ y = .string b) (h : ((a.size + b.size : Nat) : Int) ≤ IntKind.i64.max) : PureOp P ρ o (.string (a ++ b)) := fun w => by
  have h' : ¬ ((a.size + b.size : Nat) : Int) > IntKind.i64.max := by omega
  simp only [execOp, ho, hx, hy, binOp, Op.stringOp, h', if_false]
  simp [eqGuard_str]
/-- pointers, maps, functions against nil -/
theorem p_ptrNil {e : TypeId} {p : Option Addr} (ho : o.op = .binOp .eql t x y t') (h1 : P.underlying t = some (.pointer e)) (hx : ρ x = .pointer p) (hy : ρ y = .pointer none) : PureOp P ρ o (.bool p.isNone) := fun w => by
  cases p <;> exact exec_eql ho hx hy (by simp [eqGuard]) rfl fun d => by simp [Op.equalIn, run_underlying h1]
theorem p_ptrNotNil {e : TypeId} {p : Option Addr} (ho : o.op = .binOp .neq t x y t') (h1 : P.underlying t = some (.pointer e)) (hx : ρ x = .pointer p) (hy : ρ y = .pointer none) : PureOp P ρ o (.bool (!p.isNone)) := fun w => by
  cases p <;> exact exec_neq ho hx hy (by simp [eqGuard]) rfl fun d => by simp [Op.equalIn, run_underlying h1]
theorem p_mapNil {e e' : TypeId} {p : Option Nat} (ho : o.op = .binOp .eql t x y t') (h1 : P.underlying t = some (.map e e')) (hx : ρ x = .map p) (hy : ρ y = .map none) : PureOp P ρ o (.bool p.isNone) := fun w => by
  cases p <;> exact exec_eql ho hx hy (by simp [eqGuard]) rfl fun d => by simp [Op.equalIn, run_underlying h1]
theorem p_mapNotNil {e e' : TypeId} {p : Option Nat} (ho : o.op = .binOp .neq t x y t') (h1 : P.underlying t = some (.map e e')) (hx : ρ x = .map p) (hy : ρ y = .map none) : PureOp P ρ o (.bool (!p.isNone)) := fun w => by
  cases p <;> exact exec_neq ho hx hy (by simp [eqGuard]) rfl fun d => by simp [Op.equalIn, run_underlying h1]
theorem p_slNil {e : TypeId} {s : Sl} (ho : o.op = .binOp .eql t x y t') (h1 : P.underlying t = some (.slice e)) (hx : ρ x = s.v) (hy : ρ y = .slice none 0 0) : PureOp P ρ o (.bool s.a.isNone) := fun w => by
  obtain ⟨a, l, c⟩ := s; cases a <;> exact exec_eql ho hx hy (by simp [eqGuard, Sl.v]) rfl fun d => by simp [Op.equalIn, Sl.v, run_underlying h1]
theorem p_slNotNil {e : TypeId} {s : Sl} (ho : o.op = .binOp .neq t x y t') (h1 : P.underlying t = some (.slice e)) (hx : ρ x = s.v) (hy : ρ y = .slice none 0 0) : PureOp P ρ o (.bool (!s.a.isNone)) := fun w => by
  obtain ⟨a, l, c⟩ := s; cases a <;> exact exec_neq ho hx hy (by simp [eqGuard, Sl.v]) rfl fun d => by simp [Op.equalIn, Sl.v, run_underlying h1]
theorem p_nilCheck {p : Option Addr} {ad : Addr} (ho : o.op = .nilCheck x) (hx : ρ x = .pointer p) (hp : p = some ad) : PureOp P ρ o (.pointer (some ad)) := fun w => by
  subst hp; simp [execOp, ho, hx]
theorem p_extract {tu : Operand} {i : Nat} {vs : Array Value} {v : Value} (ho : o.op = .extract tu i) (hx : ρ tu = .tuple vs) (hv : vs[i]? = some v) : PureOp P ρ o v := fun w => by
  simp [execOp, ho, hx, Instr.extract, hv]
theorem p_makeFunc {fn' : FuncId} {xs ys : Array Operand} {a b : List Value} (ho : o.op = .makeFunc (.func fn') xs ys) (h1' : xs.toList.map ρ = a) (h2' : ys.toList.map ρ = b) : PureOp P ρ o (.func (.func fn') a.toArray b.toArray) := fun w => by
  have h1 : xs.map ρ = a.toArray := by subst h1'; apply Array.ext'; simp
  have h2 : ys.map ρ = b.toArray := by subst h2'; apply Array.ext'; simp
  simp [execOp, ho, Instr.makeFunc, h1, h2]
/-- A type's row: its zero value, its cells, its bytes. -/
def TI (P : Program) (t : TypeId) (z : Value) (size bytes : Nat) : Prop := ∃ i, P.info? t = some i ∧ i.zero = some z ∧ i.size = size ∧ i.bytes = bytes
theorem TI.mk {P : Program} {t : TypeId} {z : Value} {size bytes : Nat} (h : (P.info? t).map (fun i => (i.zero, i.size, i.bytes)) = some (some z, size, bytes)) : TI P t z size bytes := info_parts h
theorem TI.sizeOf {t : TypeId} {z : Value} {size bytes : Nat} (h : TI P t z size bytes) (w : World) : (Go.sizeOf t).run P w = .ok size w := by
  obtain ⟨i, h1, h2, h3, h4⟩ := h
  simp [Go.sizeOf, typeInfo, h1, h3]
theorem TI.zeroValue {t : TypeId} {z : Value} {size bytes : Nat} (h : TI P t z size bytes) (w : World) : (Go.zeroValue t).run P w = .ok z w := by
  obtain ⟨i, h1, h2, h3, h4⟩ := h
  simp [Go.zeroValue, typeInfo, h1, h2]

theorem field_of {fs : Array Field} {i : Nat} {ft : TypeId} {off : Nat} (h : (fs[i]?).map (fun fd => (fd.type, fd.offset)) = some (ft, off)) : ∃ fd, fs[i]? = some fd ∧ fd.type = ft ∧ fd.offset = off := by
  obtain ⟨fd, h1, h2⟩ := Option.map_eq_some_iff.1 h
  simp only [Prod.mk.injEq] at h2
  exact ⟨fd, h1, h2.1, h2.2⟩
def aggD : TypeDesc → Bool
  | .struct _ | .array _ _ => true
  | _ => false
theorem run_isAgg {t : TypeId} {d : TypeDesc} {w : World} (h : P.underlying t = some d) : (isAgg t).run P w = .ok (aggD d) w := by
  simp only [isAgg, Sem.run_bind, run_underlying h, Result.andThen_ok]
  cases d <;> simp [aggD]
theorem p_fieldAddr {s : TypeId} {fs : Array Field} {i : Nat} {ad : Addr} {p : Option Addr} {z : Value} {ft off size bytes : Nat} (ho : o.op = .fieldAddr s x i) (h1 : P.underlying s = some (.struct fs)) (h2 : (fs[i]?).map (fun fd => (fd.type, fd.offset)) = some (ft, off))
    (h3 : TI P ft z size bytes) (h4 : size ≠ 0) (hx : ρ x = .pointer p) (hp : p = some ad) : PureOp P ρ o (.pointer (some (ad.add off))) := fun w => by
  obtain ⟨fd, e1, rfl, rfl⟩ := field_of h2
  subst hp
  simp [execOp, ho, hx, Instr.fieldAt, run_underlying h1, e1, Instr.sureAddr, fieldPlace, h3.sizeOf, h4]
theorem p_field1 {s : TypeId} {fs : Array Field} {i : Nat} {cs : Array Value} {d : TypeDesc} {v : Value} {ft off : Nat} (ho : o.op = .field s x i) (h1 : P.underlying s = some (.struct fs)) (h2 : (fs[i]?).map (fun fd => (fd.type, fd.offset)) = some (ft, off))
    (h3 : P.underlying ft = some d) (h4 : aggD d = false) (hx : ρ x = .agg cs) (hv : cs[off]? = some v) : PureOp P ρ o v := fun w => by
  obtain ⟨fd, e1, rfl, rfl⟩ := field_of h2
  simp [execOp, ho, hx, Instr.field, run_underlying h1, e1, asAgg, part, run_isAgg h3, h4, hv]
theorem p_fieldN {s : TypeId} {fs : Array Field} {i : Nat} {cs : Array Value} {d : TypeDesc} {z : Value} {ft off size bytes : Nat} (ho : o.op = .field s x i) (h1 : P.underlying s = some (.struct fs)) (h2 : (fs[i]?).map (fun fd => (fd.type, fd.offset)) = some (ft, off))
    (h3 : P.underlying ft = some d) (h4 : aggD d = true) (h5 : TI P ft z size bytes) (hx : ρ x = .agg cs) : PureOp P ρ o (.agg (cs.extract off (off + size))) := fun w => by
  obtain ⟨fd, e1, rfl, rfl⟩ := field_of h2
  simp [execOp, ho, hx, Instr.field, run_underlying h1, e1, asAgg, part, run_isAgg h3, h4, h5.sizeOf]
theorem p_indexAN {e : TypeId} {len : Nat} {cs : Array Value} {n : Int} {z : Value} {size bytes : Nat} {d : TypeDesc} (ho : o.op = .index t x y) (h1 : P.underlying t = some (.array len e)) (h2 : TI P e z size bytes) (h5 : P.underlying e = some d) (h6 : aggD d = true)
    (hx : ρ x = .agg cs) (hy : ρ y = .int k n) (h3 : 0 ≤ n) (h4 : n < len) : PureOp P ρ o (.agg (cs.extract (n.toNat * size) (n.toNat * size + size))) := fun w => by
  simp [execOp, ho, hx, hy, Instr.index, asIntOf, run_underlying h1, h3, h4, h2.sizeOf, part, run_isAgg h5, h6]
theorem p_indexAddr {e : TypeId} {s : Sl} {ad : Addr} {n : Int} {z : Value} {size bytes : Nat} (ho : o.op = .indexAddr t x y) (h1 : P.underlying t = some (.slice e)) (h2 : TI P e z size bytes)
    (hx : ρ x = s.v) (hy : ρ y = .int k n) (ha : s.a = some ad) (h3 : 0 ≤ n) (h4 : n < s.len) : PureOp P ρ o (.pointer (some (ad.add (n.toNat * size)))) := fun w => by
  simp [execOp, ho, hx, hy, Instr.indexAt, asIntOf, run_underlying h1, Sl.v, ha, h3, h4, h2.sizeOf]
theorem p_indexAddrA {e : TypeId} {len : Nat} {ad : Addr} {n : Int} {z : Value} {size bytes : Nat} (ho : o.op = .indexAddr t x y) (h1 : P.underlying t = some (.array len e)) (h2 : TI P e z size bytes)
    (hx : ρ x = .pointer (some ad)) (hy : ρ y = .int k n) (h3 : 0 ≤ n) (h4 : n < len) : PureOp P ρ o (.pointer (some (ad.add (n.toNat * size)))) := fun w => by
  simp [execOp, ho, hx, hy, Instr.indexAt, asIntOf, run_underlying h1, Instr.sureAddr, h3, h4, h2.sizeOf]
theorem p_indexA1 {e : TypeId} {len : Nat} {cs : Array Value} {n : Int} {z v : Value} {bytes : Nat} {d : TypeDesc} (ho : o.op = .index t x y) (h1 : P.underlying t = some (.array len e)) (h2 : TI P e z 1 bytes) (h5 : P.underlying e = some d) (h6 : aggD d = false)
    (hx : ρ x = .agg cs) (hy : ρ y = .int k n) (h3 : 0 ≤ n) (h4 : n < len) (hv : cs[n.toNat]? = some v) : PureOp P ρ o v := fun w => by
  simp [execOp, ho, hx, hy, Instr.index, asIntOf, run_underlying h1, h3, h4, h2.sizeOf, part, run_isAgg h5, h6, hv]
theorem p_indexS {s : ByteArray} {n : Int} (ho : o.op = .index t x y) (h1 : P.underlying t = some .string)
    (hx : ρ x = .string s) (hy : ρ y = .int k n) (h3 : 0 ≤ n) (h4 : n < s.size) : PureOp P ρ o (.int .u8 (s.data.toList.getD n.toNat 0).toNat) := fun w => by
  have h5 : n.toNat < s.size := by omega
  have h6 : s[n.toNat]? = some (s.data.toList.getD n.toNat 0) := by
    rw [getElem?_pos s n.toNat h5]
    simp only [List.getD_eq_getElem?_getD]
    rw [List.getElem?_eq_getElem (by simpa using h5)]
    rfl
  simp only [execOp, ho, hx, hy, Instr.index, asIntOf, Sem.run_bind, Sem.run_pure, Result.andThen_ok, run_underlying h1, h3, if_true, h6]
theorem p_len {s : Sl} {bt e : TypeId} (ho : o.op = .call { callee := .builtin .len, args := #[x], argTypes := #[bt] }) (h1 : P.underlying bt = some (.slice e)) (hx : ρ x = s.v) : PureOp P ρ o (.int .i64 s.len) := fun w => by
  simp [execOp, ho, resolve, invoke, builtin, hx, Builtin.len_, Sl.v, goInt, run_underlying h1]
theorem p_lenS {s : ByteArray} {bt : TypeId} (ho : o.op = .call { callee := .builtin .len, args := #[x], argTypes := #[bt] }) (h1 : P.underlying bt = some .string) (hx : ρ x = .string s) : PureOp P ρ o (.int .i64 s.size) := fun w => by
  simp [execOp, ho, resolve, invoke, builtin, hx, Builtin.len_, goInt, run_underlying h1]
theorem p_lenA {n : Nat} {bt e : TypeId} (ho : o.op = .call { callee := .builtin .len, args := #[x], argTypes := #[bt] }) (h1 : P.underlying bt = some (.array n e)) : PureOp P ρ o (.int .i64 n) := fun w => by
  simp [execOp, ho, resolve, invoke, builtin, Builtin.len_, goInt, run_underlying h1]
end pure

def mxOK (vm : Option Int) (cap m : Nat) : Prop := match vm with | some v => v = (m : Int) | none => m = cap
def hiOK (vh vm : Option Int) (len h m : Nat) : Prop := match vh with | some v => v = (h : Int) ∧ h ≤ m | none => h = len ∧ vm = none
def loOK (vl : Option Int) (l : Nat) : Prop := match vl with | some v => v = (l : Int) | none => l = 0
def hiOKS (vh : Option Int) (len h : Nat) : Prop := match vh with | some v => v = (h : Int) | none => h = len
/-- x[lo:hi:mx] -/
def Cut (s : Sl) (size : Nat) (lo hi mx : Option Int) (K : Sl → Prop) : Prop :=
  ∃ l h m : Nat, mxOK mx s.cap m ∧ m ≤ s.cap ∧ hiOK hi mx s.len h m ∧ loOK lo l ∧ l ≤ h ∧ K ⟨if m = l then s.a else s.a.map (·.add (l * size)), h - l, m - l⟩
def CutS (s : ByteArray) (lo hi : Option Int) (K : ByteArray → Prop) : Prop :=
  ∃ l h : Nat, hiOKS hi s.size h ∧ h ≤ s.size ∧ loOK lo l ∧ l ≤ h ∧ K (s.extract l h)

section cuts
variable {P : Program} {ρ : Operand → Value} {o : Oper} {t : TypeId} {x : Operand}
/-- What an operand that may lack says. -/
def OptI (ρ : Operand → Value) (x : Option Operand) (v : Option Int) : Prop := match x, v with
  | some x, some n => ∃ k, ρ x = .int k n
  | none, none => True
  | _, _ => False
theorem OptI.none : OptI ρ none none := trivial
theorem OptI.some {x : Operand} {k : IntKind} {n : Int} (h : ρ x = .int k n) : OptI ρ (some x) (some n) := ⟨k, h⟩

theorem run_bounds {isS : Bool} {len cap : Nat} {lo hi mx : Option Operand} {vl vh vm : Option Int} (h1 : OptI ρ lo vl) (h2 : OptI ρ hi vh) (h3 : OptI ρ mx vm) {l h m : Nat}
    (hm : mxOK vm cap m) (hmc : m ≤ cap) (hh : hiOK vh vm len h m) (hl : loOK vl l) (hlh : l ≤ h) (w : World) :
    (Instr.sliceBounds isS len cap (lo.map ρ) (hi.map ρ) (mx.map ρ)).run P w = .ok (l, h, m) w := by
  unfold mxOK at hm; unfold hiOK at hh; unfold loOK at hl
  have b : ∀ (x : Operand) (k : IntKind) (n : Nat) (y : Nat) (c : BoundsCode), ρ x = .int k n → n ≤ y → (Instr.sliceBound (ρ x) y c).run P w = .ok n w := by
    intro x k n y c hx hn
    have h0 : (0 : Int) ≤ n ∧ (n : Int) ≤ y := by omega
    simp [Instr.sliceBound, asIntOf, hx, h0]
  cases mx with
  | none =>
    cases vm with
    | some v => exact h3.elim
    | none =>
      simp only at hm; subst hm
      cases hi with
      | none =>
        cases vh with
        | some v => exact h2.elim
        | none =>
          obtain ⟨rfl, _⟩ := hh
          cases lo with
          | none =>
            cases vl with
            | some v => exact h1.elim
            | none => simp only at hl; subst hl; simp [Instr.sliceBounds]
          | some x =>
            cases vl with
            | none => exact h1.elim
            | some v => obtain ⟨k, hx⟩ := h1; simp only at hl; subst hl; simp [Instr.sliceBounds, b x k l _ _ hx hlh]
      | some y =>
        cases vh with
        | none => exact h2.elim
        | some v =>
          obtain ⟨k', hy⟩ := h2
          obtain ⟨rfl, hhm⟩ := hh
          cases lo with
          | none =>
            cases vl with
            | some v => exact h1.elim
            | none => simp only at hl; subst hl; simp [Instr.sliceBounds, b y k' h _ _ hy hhm]
          | some x =>
            cases vl with
            | none => exact h1.elim
            | some v => obtain ⟨k, hx⟩ := h1; simp only at hl; subst hl; simp [Instr.sliceBounds, b y k' h _ _ hy hhm, b x k l _ _ hx hlh]
  | some z =>
    cases vm with
    | none => exact h3.elim
    | some v =>
      obtain ⟨k'', hz⟩ := h3
      simp only at hm; subst hm
      cases hi with
      | none =>
        cases vh with
        | some v => exact h2.elim
        | none => exact absurd hh.2 (by simp)
      | some y =>
        cases vh with
        | none => exact h2.elim
        | some v =>
          obtain ⟨k', hy⟩ := h2
          obtain ⟨rfl, hhm⟩ := hh
          cases lo with
          | none =>
            cases vl with
            | some v => exact h1.elim
            | none => simp only at hl; subst hl; simp [Instr.sliceBounds, b y k' h _ _ hy hhm, b z k'' m _ _ hz hmc]
          | some x =>
            cases vl with
            | none => exact h1.elim
            | some v => obtain ⟨k, hx⟩ := h1; simp only at hl; subst hl; simp [Instr.sliceBounds, b y k' h _ _ hy hhm, b x k l _ _ hx hlh, b z k'' m _ _ hz hmc]

theorem p_slice {e : TypeId} {s : Sl} {z : Value} {size bytes : Nat} {lo hi mx : Option Operand} {vl vh vm : Option Int} (ho : o.op = .slice t x lo hi mx) (h1 : P.underlying t = some (.slice e)) (h2 : TI P e z size bytes) (hx : ρ x = s.v)
    (q1 : OptI ρ lo vl) (q2 : OptI ρ hi vh) (q3 : OptI ρ mx vm) {l h m : Nat}
    (hm : mxOK vm s.cap m) (hmc : m ≤ s.cap) (hh : hiOK vh vm s.len h m) (hl : loOK vl l) (hlh : l ≤ h) :
    PureOp P ρ o (Sl.v ⟨if m = l then s.a else s.a.map (·.add (l * size)), h - l, m - l⟩) := fun w => by
  simp [execOp, ho, hx, Instr.sliceAt, Instr.slice, run_underlying h1, Sl.v, run_bounds q1 q2 q3 hm hmc hh hl hlh, h2.sizeOf]
theorem p_sliceA {e : TypeId} {n : Nat} {ad : Addr} {z : Value} {size bytes : Nat} {lo hi mx : Option Operand} {vl vh vm : Option Int} (ho : o.op = .slice t x lo hi mx) (h1 : P.underlying t = some (.array n e)) (h2 : TI P e z size bytes) (hx : ρ x = .pointer (some ad))
    (q1 : OptI ρ lo vl) (q2 : OptI ρ hi vh) (q3 : OptI ρ mx vm) {l h m : Nat}
    (hm : mxOK vm n m) (hmc : m ≤ n) (hh : hiOK vh vm n h m) (hl : loOK vl l) (hlh : l ≤ h) :
    PureOp P ρ o (Sl.v ⟨if m = l then some ad else (some ad).map (·.add (l * size)), h - l, m - l⟩) := fun w => by
  have e1 : (if m = l then some ad else some (ad.add (l * size))) = some (if m = l then ad else ad.add (l * size)) := by split <;> rfl
  simp [execOp, ho, hx, Instr.sliceAt, Instr.sureAddr, run_underlying h1, Sl.v, run_bounds q1 q2 q3 hm hmc hh hl hlh, h2.sizeOf, e1]
theorem p_sliceS {s : ByteArray} {lo hi : Option Operand} {vl vh : Option Int} (ho : o.op = .slice t x lo hi none) (h1 : P.underlying t = some .string) (hx : ρ x = .string s)
    (q1 : OptI ρ lo vl) (q2 : OptI ρ hi vh) {l h : Nat} (hh : hiOKS vh s.size h) (hhs : h ≤ s.size) (hl : loOK vl l) (hlh : l ≤ h) :
    PureOp P ρ o (.string (s.extract l h)) := fun w => by
  have q : hiOK vh none s.size h s.size := by cases vh <;> simp_all [hiOK, hiOKS]
  have := run_bounds (P := P) (isS := false) (len := s.size) (cap := s.size) q1 q2 (OptI.none (ρ := ρ)) (m := s.size) rfl (Nat.le_refl _) q hl hlh
  simp only [Option.map_none] at this
  simp [execOp, ho, hx, Instr.sliceAt, Instr.slice, run_underlying h1, this]
end cuts

/-! ## Reads -/
def Ld {α : Type} (enc : α → Value) (a : Option Addr) (w : World) (K : α → Prop) : Prop := ∃ ad x, a = some ad ∧ w.cell? ad = some (enc x) ∧ K x
/-- A read whose fact is used behind it too. -/
def LdH {α : Type} (enc : α → Value) (a : Option Addr) (w : World) (K : Addr → α → Prop) : Prop := ∃ ad x, a = some ad ∧ w.cell? ad = some (enc x) ∧ K ad x
def Row (w : World) (ad : Addr) (cs : Array Value) : Prop := ∀ i v, cs[i]? = some v → w.cell? (ad.add i) = some v
def LdN (n : Nat) (a : Option Addr) (w : World) (K : Array Value → Prop) : Prop := ∃ ad cs, a = some ad ∧ cs.size = n ∧ Row w ad cs ∧ K cs
def LdNH (n : Nat) (a : Option Addr) (w : World) (K : Addr → Array Value → Prop) : Prop := ∃ ad cs, a = some ad ∧ cs.size = n ∧ Row w ad cs ∧ K ad cs

section reads
variable {P : Program} {ρ : Operand → Value} {o : Oper} {t : TypeId} {x : Operand} {w : World}
theorem rd_load {d : TypeDesc} {ad : Addr} {v : Value} (ho : o.op = .load t x) (h1 : P.underlying t = some d) (h2 : aggD d = false) (hx : ρ x = .pointer (some ad)) (hc : w.cell? ad = some v) : ReadOp P ρ o v w := by
  unfold ReadOp
  simp [execOp, ho, hx, Instr.loadAt, Instr.sureAddr, loadVar, run_isAgg h1, h2, load, Sem.run, hc]
theorem run_loadCellsFrom {ad : Addr} (cs : Array Value) (hr : Row w ad cs) : ∀ (n i : Nat), i + n = cs.size → (loadCellsFrom ad i n (cs.extract 0 i)).run P w = .ok cs w
  | 0, i, h => by
    have : cs.extract 0 i = cs := by rw [show i = cs.size from by omega]; simp
    simp [loadCellsFrom, this]
  | n + 1, i, h => by
    have hi : i < cs.size := by omega
    have hc := hr i cs[i] (by simp [hi])
    have he : (cs.extract 0 i).push cs[i] = cs.extract 0 (i + 1) := by simp [Array.push_extract_getElem]
    simp only [loadCellsFrom, load, Sem.run_bind, Sem.run, hc, Result.andThen_ok]
    rw [he]
    exact run_loadCellsFrom cs hr n (i + 1) (by omega)
theorem run_loadCells {ad : Addr} {cs : Array Value} (hr : Row w ad cs) : (loadCells ad cs.size).run P w = .ok cs w := by
  have := run_loadCellsFrom (P := P) cs hr cs.size 0 (by omega)
  simpa [loadCells] using this
theorem rd_loadN {d : TypeDesc} {ad : Addr} {cs : Array Value} {z : Value} {bytes n : Nat} (ho : o.op = .load t x) (h1 : P.underlying t = some d) (h2 : aggD d = true) (h3 : TI P t z n bytes) (hx : ρ x = .pointer (some ad)) (hn : cs.size = n) (hr : Row w ad cs) : ReadOp P ρ o (.agg cs) w := by
  unfold ReadOp
  subst hn
  simp [execOp, ho, hx, Instr.loadAt, Instr.sureAddr, loadVar, run_isAgg h1, h2, h3.sizeOf, run_loadCells hr]
end reads

/-! ## Effects -/
def Ef {α : Type} (P : Program) (s : Sem Value) (enc : α → Value) (w : World) (K : α → World → Prop) : Prop := ∃ x w', s.run P w = .ok (enc x) w' ∧ K x w'
def EfU (P : Program) (s : Sem Unit) (w : World) (K : World → Prop) : Prop := ∃ w', s.run P w = .ok () w' ∧ K w'
def New (cells : Array Value) (e : TypeId) (w : World) (K : Addr → World → Prop) : Prop := K ⟨w.heap.size, 0, none⟩ (w.alloc (.cells cells e))
def St (a : Option Addr) (v : Value) (w : World) (K : World → Prop) : Prop := ∃ ad, a = some ad ∧ (w.cell? ad).isSome = true ∧ w.frozen? ad = false ∧ K (w.setCell ad v)
def setRow' (w : World) (ad : Addr) : List Value → Nat → World
  | [], _ => w
  | v :: vs, i => setRow' (w.setCell (ad.add i) v) ad vs (i + 1)
def StN (n : Nat) (a : Option Addr) (cs : Array Value) (w : World) (K : World → Prop) : Prop :=
  ∃ ad, a = some ad ∧ cs.size = n ∧ (∀ v ∈ cs, v.oneCell' = true) ∧ (∀ i, i < n → (w.cell? (ad.add i)).isSome = true ∧ w.frozen? (ad.add i) = false) ∧ K (setRow' w ad cs.toList 0)

section effs
variable {P : Program} {ρ : Operand → Value} {o : Oper} {t : TypeId} {x y : Operand} {w : World}
theorem e_val {s : Sem Value} {v : Value} {w' : World} {K : Value → World → Prop} (he : execOp ρ o = (do pure (.value (← s)))) (hr : s.run P w = .ok v w') (h : K v w') : EffOp P ρ o w K := by
  unfold EffOp; rw [he]; simp [hr, h]
theorem e_unit {s : Sem Unit} {w' : World} {K : Value → World → Prop} (he : execOp ρ o = (do s; pure .skip)) (hr : s.run P w = .ok () w') (h : K undef w') : EffOp P ρ o w K := by
  unfold EffOp; rw [he]; simp [hr, h]
theorem e_alloc {z : Value} {size bytes : Nat} {N : Addr → World → Prop} (ho : o.op = .alloc t) (h1 : TI P t z size bytes) (h : New z.cells t w N) : EffOp P ρ o w fun v w' => ∃ a, v = .pointer (some a) ∧ N a w' :=
  e_val (v := .pointer (some ⟨w.heap.size, 0, none⟩)) (w' := w.alloc (.cells z.cells t)) (s := Instr.alloc t true (.tuple #[])) (by simp [execOp, ho]) (by simp [Instr.alloc, h1.zeroValue, newVar, newRow, newObj, Sem.run]) ⟨_, rfl, h⟩
theorem e_box {v : Value} {N : Addr → World → Prop} (ho : o.op = .box t x) (hx : ρ x = v) (h : New v.cells t w N) : EffOp P ρ o w fun v w' => ∃ a, v = .pointer (some a) ∧ N a w' :=
  e_val (v := .pointer (some ⟨w.heap.size, 0, none⟩)) (w' := w.alloc (.cells v.cells t)) (s := Instr.box t v) (by simp [execOp, ho, hx]) (by simp [Instr.box, newVar, newRow, newObj, Sem.run]) ⟨_, rfl, h⟩
theorem e_store {a : Option Addr} {v : Value} {z : Value} {bytes : Nat} {N : World → Prop} (ho : o.op = .store t x y) (h1 : TI P t z 1 bytes) (hv : v.oneCell' = true) (hx : ρ x = .pointer a) (hy : ρ y = v) (h : St a v w N) : EffOp P ρ o w fun _ w' => N w' := by
  obtain ⟨ad, rfl, hc, hf, h⟩ := h
  obtain ⟨u, hu⟩ := Option.isSome_iff_exists.1 hc
  refine e_unit (s := Instr.storeAt t (.pointer (some ad)) v) (by simp [execOp, ho, hx, hy]) ?_ h
  have h0 : (ad.add 0) = ad := by simp [Addr.add]
  cases v <;> first | (simp [Value.oneCell'] at hv; done) | simp [Instr.storeAt, Instr.sureAddr, storeVar, h1.sizeOf, Value.cells, storeCells, store, h0, Sem.run, hu, hf]
theorem run_storeCells {ad : Addr} : ∀ (vs : List Value) (i : Nat) (w : World), (∀ v ∈ vs, v.oneCell' = true) → (∀ j, i ≤ j → j < i + vs.length → (w.cell? (ad.add j)).isSome = true ∧ w.frozen? (ad.add j) = false) →
    (storeCells ad vs i).run P w = .ok () (setRow' w ad vs i)
  | [], i, w, _, _ => by simp [storeCells, setRow']
  | v :: vs, i, w, h1, h2 => by
    obtain ⟨hc, hf⟩ := h2 i (Nat.le_refl _) (by simp)
    obtain ⟨u, hu⟩ := Option.isSome_iff_exists.1 hc
    have hv := h1 v (.head _)
    have hs : ∀ p q, (w.cell? p).isSome = true → ((w.setCell q v).cell? p).isSome = true := fun p q hp => by
      unfold World.cell? World.setCell at *
      by_cases e : q.block = p.block
      · rw [e]
        cases hb : w.heap[p.block]? with
        | none => simp [hb] at hp
        | some b =>
          have hlt := (Array.getElem?_eq_some_iff.1 hb).1
          simp only [hb] at hp
          simp only [Array.getElem?_modify, hb, if_true, Option.map_some]
          cases b <;> simp_all
          split at hp <;> simp_all
          split <;> simp_all
      · simp only [Array.getElem?_modify, if_neg e]
        exact hp
    have ih := run_storeCells (ad := ad) vs (i + 1) (w.setCell (ad.add i) v) (fun u hu => h1 u (.tail _ hu)) (fun j hj hj2 => by
      have := h2 j (by omega) (by simp only [List.length_cons]; omega)
      exact ⟨hs _ _ this.1, by rw [World.frozen?_setCell]; exact this.2⟩)
    cases v <;> first | (simp [Value.oneCell'] at hv; done) | simp [storeCells, store, Sem.run, hu, hf, ih, setRow']
theorem e_storeN {n : Nat} {a : Option Addr} {cs : Array Value} {z : Value} {bytes : Nat} {N : World → Prop} (ho : o.op = .store t x y) (h1 : TI P t z n bytes) (hx : ρ x = .pointer a) (hy : ρ y = .agg cs) (h : StN n a cs w N) : EffOp P ρ o w fun _ w' => N w' := by
  obtain ⟨ad, rfl, hn, h1c, hc, h⟩ := h
  refine e_unit (s := Instr.storeAt t (.pointer (some ad)) (.agg cs)) (by simp [execOp, ho, hx, hy]) ?_ h
  subst hn
  simp [Instr.storeAt, Instr.sureAddr, storeVar, h1.sizeOf, Value.cells]
  exact run_storeCells _ _ _ (fun v hv => h1c v (by simpa using hv)) (fun j _ hj => hc j (by simpa using hj))
theorem e_buildSlice0 {e : TypeId} {z : Value} {size bytes : Nat} {N : Addr → World → Prop} (ho : o.op = .buildSlice t 0 #[]) (h1 : P.underlying t = some (.slice e)) (h2 : TI P e z size bytes)
    (h : New #[] e w N) : EffOp P ρ o w fun v w' => ∃ a, v = Sl.v ⟨some a, 0, 0⟩ ∧ N a w' := by
  refine e_val (s := Instr.buildSlice t 0 #[]) (by simp [execOp, ho]) (v := Sl.v ⟨some ⟨w.heap.size, 0, none⟩, 0, 0⟩) (w' := w.alloc (.cells #[] e)) ?_ ⟨_, rfl, h⟩
  have e0 : Array.range 0 = #[] := by simp [Array.range]
  simp [Instr.buildSlice, run_underlying h1, h2.sizeOf, Instr.fill, newRow, newObj, Sem.run, Sl.v, e0]
theorem e_buildSlice {e : TypeId} {n : Nat} {ps : Array (Nat × Operand)} {cells : Array Value} {z : Value} {size bytes : Nat} {N : Addr → World → Prop} (ho : o.op = .buildSlice t n ps) (h1 : P.underlying t = some (.slice e)) (h2 : TI P e z size bytes) (h3 : n * size ≤ 2 ^ 24) (h0 : n * size ≠ 0)
    {pl : List (Nat × Value)} (h4' : Instr.fill (fun i => some (i * size, size)) ((Array.range (n * size)).map (z.cells[· % z.cells.size]!)) pl = some cells) (hl : ps.toList.map (fun p => (p.1, ρ p.2)) = pl)
    (h : New cells e w N) : EffOp P ρ o w fun v w' => ∃ a, v = Sl.v ⟨some a, n, n⟩ ∧ N a w' := by
  have h4 : Instr.fill (fun i => some (i * size, size)) ((Array.range (n * size)).map (z.cells[· % z.cells.size]!)) ((ps.map fun p => (p.1, ρ p.2)).toList) = some cells := by rw [Array.toList_map, hl]; exact h4'
  have h3' : ¬ n * size > 2 ^ 24 := by omega
  refine e_val (s := Instr.buildSlice t n (ps.map fun p => (p.1, ρ p.2))) (by simp [execOp, ho]) (v := Sl.v ⟨some ⟨w.heap.size, 0, none⟩, n, n⟩) (w' := w.alloc (.cells cells e)) ?_ ⟨_, rfl, h⟩
  simp only [Instr.buildSlice, Sem.run_bind, run_underlying h1, Result.andThen_ok, h2.sizeOf, h3', if_false, h0, h2.zeroValue, Sem.run_pure]
  simp only [h4, newRow, newObj, Sem.run, Sem.run_bind, World.alloc, Sl.v, Result.andThen_ok, Sem.run_pure]
theorem foldl_set : ∀ (l : List Value) (k : Nat) (init : Array Value), k + l.length ≤ init.size →
   (l.zipIdx k).foldl (fun (a : Array Value) p => a.setIfInBounds p.2 p.1) init = (init.toList.take k ++ l ++ init.toList.drop (k + l.length)).toArray
  | [], k, init, _ => by simp
  | v :: l, k, init, h => by
    simp only [List.length_cons] at h
    simp only [List.zipIdx_cons, List.foldl_cons]
    rw [foldl_set l (k + 1) _ (by simp; omega)]
    congr 1
    simp only [Array.toList_setIfInBounds, List.length_cons]
    apply List.ext_getElem?
    intro j
    simp only [List.getElem?_append, List.getElem?_take, List.getElem?_set, List.length_take, List.length_set, Array.length_toList, List.getElem?_drop, List.length_append, List.length_cons, List.append_assoc, List.cons_append]
    grind
theorem fill_agg (cs init : Array Value) (h : init.size = cs.size) : cs.zipIdx.foldl (fun a (p : Value × Nat) => a.setIfInBounds (0 + p.2) p.1) init = cs := by
  rw [← Array.foldl_toList]
  simp only [Nat.zero_add, Array.toList_zipIdx]
  have := foldl_set cs.toList 0 init (by simp [h])
  rw [this]
  apply Array.ext'
  simp [h]
theorem fill_row : ∀ (vs : List Value) (k : Nat) (init : Array Value), (∀ v ∈ vs, v.oneCell' = true) → k + vs.length ≤ init.size →
    Instr.fill (fun i => some (i * 1, 1)) init ((vs.zipIdx k).map fun p => (p.2, p.1)) = some (init.toList.take k ++ vs ++ init.toList.drop (k + vs.length)).toArray
  | [], k, init, _, _ => by simp [Instr.fill]
  | v :: vs, k, init, h1, h2 => by
    have hv := h1 v (.head _)
    have hc : v.cells = #[v] := by cases v <;> first | rfl | (simp [Value.oneCell'] at hv; done)
    simp only [List.length_cons] at h2
    have ih := fill_row vs (k + 1) (init.setIfInBounds k v) (fun u hu => h1 u (.tail _ hu)) (by simp; omega)
    simp only [List.zipIdx_cons, List.map_cons, Instr.fill, hc]
    have h3 : ¬ (1 ≠ 1 ∨ k * 1 + 1 > init.size) := by omega
    simp only [Nat.mul_one, List.size_toArray, List.length_cons, List.length_nil, Nat.zero_add, ne_eq, not_true_eq_false, decide_false, Bool.false_or, decide_eq_true_eq, gt_iff_lt]
    rw [if_neg (by omega)]
    simp only [Nat.mul_one] at ih ⊢
    rw [show (#[v] : Array Value).zipIdx.foldl (fun cs (p : Value × Nat) => cs.setIfInBounds (k + p.2) p.1) init = init.setIfInBounds k v from by simp]
    rw [ih]
    congr 2
    simp only [Array.toList_setIfInBounds, List.length_cons]
    apply List.ext_getElem?
    intro j
    simp only [List.getElem?_append, List.getElem?_take, List.getElem?_set, List.length_take, List.length_set, Array.length_toList, List.getElem?_drop, List.length_append, List.length_cons, List.append_assoc, List.cons_append]
    grind
theorem e_buildRow {e : TypeId} {ps : Array (Nat × Operand)} {vs : List Value} {z : Value} {n bytes : Nat} {N : Addr → World → Prop} (h : New vs.toArray e w N) (ho : o.op = .buildSlice t n ps) (h1 : P.underlying t = some (.slice e)) (h2 : TI P e z 1 bytes) (h3 : n * 1 ≤ 2 ^ 24) (h0 : n * 1 ≠ 0)
    (hv : ps.toList.map (fun p => (p.1, ρ p.2)) = (vs.zipIdx 0).map fun p => (p.2, p.1)) (hn : vs.length = n) (h1c : ∀ v ∈ vs, v.oneCell' = true) : EffOp P ρ o w fun v w' => ∃ a, v = Sl.v ⟨some a, n, n⟩ ∧ N a w' :=
  e_buildSlice ho h1 h2 h3 h0 (pl := (vs.zipIdx 0).map fun p => (p.2, p.1)) (by
    rw [fill_row vs 0 _ h1c (by simp; omega)]
    congr 2
    simp [hn]) hv h
theorem e_buildAgg {e : TypeId} {x : Operand} {cs : Array Value} {z : Value} {size bytes : Nat} {N : Addr → World → Prop} (h : New cs e w N) (ho : o.op = .buildSlice t 1 #[(0, x)]) (h1 : P.underlying t = some (.slice e)) (h2 : TI P e z size bytes) (h3 : 1 * size ≤ 2 ^ 24) (h0 : 1 * size ≠ 0)
    (hx : ρ x = .agg cs) (hs : cs.size = size) : EffOp P ρ o w fun v w' => ∃ a, v = Sl.v ⟨some a, 1, 1⟩ ∧ N a w' :=
  e_buildSlice ho h1 h2 h3 h0 (pl := [(0, .agg cs)]) (by
    simp only [Instr.fill, Value.cells, Nat.zero_mul, hs, ne_eq, not_true_eq_false, decide_false, Nat.zero_add, Bool.false_or, decide_eq_true_eq, Array.size_map, Array.size_range, Nat.one_mul, Nat.lt_irrefl, gt_iff_lt]
    simp only [Bool.false_eq_true, if_false]
    congr 1
    have := fill_agg cs ((Array.range size).map (z.cells[· % z.cells.size]!)) (by simp [hs])
    simp only [Nat.zero_add] at this
    exact this) (by simp [hx]) h
theorem callFunc_run {g : FuncId} {fn : Func} {c : Code} {args : Array Value} (hf : P.funcs[g]? = some fn) (hn : (fn.name == "runtime.NumGoroutine") = false) (hb : fn.body = some c) : (callFunc g args).run P w = .ok (.enter g args) w := by
  have h : fn.body.isNone = false := by rw [hb]; rfl
  simp only [callFunc, program, Sem.run, Sem.run_bind, Result.andThen_ok, hf, hn, h, Bool.false_eq_true, if_false, Sem.run_pure]
theorem e_call {g : FuncId} {fn : Func} {c : Code} {xs : Array Operand} {ts : Array TypeId} {args : List Value} {K : Value → World → Prop} (h : CallF P g args.toArray w K) (ho : o.op = .call { callee := .value (.func g), args := xs, argTypes := ts }) (hg : ρ (.func g) = .func (.func g) #[] #[])
    (hf : P.funcs[g]? = some fn) (hn : (fn.name == "runtime.NumGoroutine") = false) (hb : fn.body = some c) (ha' : xs.toList.map ρ = args) : EffOp P ρ o w K := by
  have ha : xs.map ρ = args.toArray := by subst ha'; apply Array.ext'; simp
  unfold EffOp
  have e : (execOp ρ o).run P w = .ok (.enter g args.toArray) w := by
    simp only [execOp, ho, resolve, Deferred.ofValue, hg, Sem.run_bind, Sem.run_pure, Result.andThen_ok, ha, invoke, Array.empty_append, Array.append_empty, callFunc_run hf hn hb]
  rw [e]
  exact h
/-- A call of a function value that leads into a body. -/
def CallC (P : Program) (v : Value) (args : Array Value) (w : World) (K : Value → World → Prop) : Prop :=
  ∃ g fn c pre cap, v = .func (.func g) pre cap ∧ P.funcs[g]? = some fn ∧ (fn.name == "runtime.NumGoroutine") = false ∧ fn.body = some c ∧ CallF P g (pre ++ args ++ cap) w K
theorem CallC.mono {P : Program} {v : Value} {args : Array Value} {w : World} {K K' : Value → World → Prop} (h : CallC P v args w K) (hk : ∀ v w', K v w' → K' v w') : CallC P v args w K' := by
  obtain ⟨g, fn, c, pre, cap, h1, h2, h3, h4, h⟩ := h
  exact ⟨g, fn, c, pre, cap, h1, h2, h3, h4, h.mono hk⟩
/-- What a call asks for comes to a value. -/
def NextF (P : Program) (x : Result Next) (K : Value → World → Prop) : Prop :=
  match x with
  | .ok (.value v) w' => K v w'
  | .ok (.enter g args) w' => CallF P g args w' K
  | .ok (.round l g tmps asg body) w' => RoundF P l g tmps asg body w' K
  | _ => False
theorem NextF.mono {P : Program} {x : Result Next} {K K' : Value → World → Prop} (h : NextF P x K) (hk : ∀ v w', K v w' → K' v w') : NextF P x K' := by
  unfold NextF at *
  split at h <;> first | exact hk _ _ h | exact CallF.mono h hk | exact RoundF.mono h hk | exact h.elim
/-- A call of a function value: of a function, or of yield. -/
def CallV (P : Program) (v : Value) (args : Array Value) (w : World) (K : Value → World → Prop) : Prop :=
  NextF P ((do let d ← Deferred.ofValue v args; invoke d.target d.args : Sem Next).run P w) K
theorem CallV.mono {P : Program} {v : Value} {args : Array Value} {w : World} {K K' : Value → World → Prop} (h : CallV P v args w K) (hk : ∀ v w', K v w' → K' v w') : CallV P v args w K' := NextF.mono h hk
theorem CallC.callV {P : Program} {v : Value} {args : Array Value} {w : World} {K : Value → World → Prop} (h : CallC P v args w K) : CallV P v args w K := by
  obtain ⟨g, fn, c, pre, cap, rfl, hf, hn, hb, h⟩ := h
  unfold CallV
  have e : (do let d ← Deferred.ofValue (.func (.func g) pre cap) args; invoke d.target d.args : Sem Next).run P w = .ok (.enter g (pre ++ args ++ cap)) w := by
    simp only [Deferred.ofValue, Sem.run_bind, Sem.run_pure, Result.andThen_ok, invoke, callFunc_run hf hn hb]
  rw [e]
  exact h
theorem e_callv {f : Operand} {v : Value} {xs : Array Operand} {ts : Array TypeId} {args : List Value} {K : Value → World → Prop} (h : CallV P v args.toArray w K) (ho : o.op = .call { callee := .value f, args := xs, argTypes := ts }) (hv : ρ f = v)
    (ha' : xs.toList.map ρ = args) : EffOp P ρ o w K := by
  have ha : xs.map ρ = args.toArray := by subst ha'; apply Array.ext'; simp
  unfold CallV NextF at h
  unfold EffOp
  have e : (execOp ρ o).run P w = (do let d ← Deferred.ofValue v args.toArray; invoke d.target d.args : Sem Next).run P w := by
    simp only [execOp, ho, resolve, hv, ha]
  rw [e]
  split at h
  · rename_i he; rw [he]; exact h
  · rename_i he; rw [he]; exact h
  · rename_i he; rw [he]; exact h
  · exact h.elim
theorem e_app {ts : Array TypeId} {xs : Array Operand} {vs : List Value} {ty : TypeId} {N : Sl → World → Prop} (h : Ef P (Builtin.append_ ts ty vs.toArray) Sl.v w N) (ho : o.op = .call { callee := .builtin .append, args := xs, argTypes := ts }) (hty : o.type = ty) (ha' : xs.toList.map ρ = vs) : EffOp P ρ o w fun v w' => ∃ s, v = Sl.v s ∧ N s w' := by
  obtain ⟨s, w', hr, h⟩ := h
  have ha : xs.map ρ = vs.toArray := by subst ha'; apply Array.ext'; simp
  subst hty
  exact e_val (s := Builtin.append_ ts o.type vs.toArray) (by simp only [execOp, ho, resolve, ha, invoke, builtin, pure_bind]) hr ⟨s, rfl, h⟩
theorem e_copy {ts : Array TypeId} {xs : Array Operand} {vs : List Value} {ty : TypeId} {N : Int → World → Prop} (h : Ef P (Builtin.copy_ ts ty vs.toArray) (.int .i64) w N) (ho : o.op = .call { callee := .builtin .copy, args := xs, argTypes := ts }) (hty : o.type = ty) (ha' : xs.toList.map ρ = vs) : EffOp P ρ o w fun v w' => ∃ n, v = .int .i64 n ∧ N n w' := by
  obtain ⟨s, w', hr, h⟩ := h
  have ha : xs.map ρ = vs.toArray := by subst ha'; apply Array.ext'; simp
  subst hty
  exact e_val (s := Builtin.copy_ ts o.type vs.toArray) (by simp only [execOp, ho, resolve, ha, invoke, builtin, pure_bind]) hr ⟨s, rfl, h⟩
end effs

def NotNil (p : Option Addr) (K : Addr → Prop) : Prop := ∃ a, p = some a ∧ K a
def At {α : Type} (enc : α → Value) (cs : Array Value) (i : Nat) (K : α → Prop) : Prop := ∃ x, cs[i]? = some (enc x) ∧ K x
def Ix (s : Sl) (i : Int) (K : Addr → Prop) : Prop := ∃ a, s.a = some a ∧ 0 ≤ i ∧ i < (s.len : Int) ∧ K a
def IxA (n : Nat) (i : Int) (A : Prop) : Prop := 0 ≤ i ∧ i < (n : Int) ∧ A
def AsT2 {α β : Type} (e1 : α → Value) (e2 : β → Value) (v : Value) (K : α → β → Prop) : Prop := ∃ x y, v = .tuple #[e1 x, e2 y] ∧ K x y
def AsT3 {α β γ : Type} (e1 : α → Value) (e2 : β → Value) (e3 : γ → Value) (v : Value) (K : α → β → γ → Prop) : Prop := ∃ x y z, v = .tuple #[e1 x, e2 y, e3 z] ∧ K x y z
def AsT4 {α β γ δ : Type} (e1 : α → Value) (e2 : β → Value) (e3 : γ → Value) (e4 : δ → Value) (v : Value) (K : α → β → γ → δ → Prop) : Prop := ∃ x y z u, v = .tuple #[e1 x, e2 y, e3 z, e4 u] ∧ K x y z u
def AsNext (v : Value) (K : Array Value → Bool → Prop) : Prop := ∃ vs b, v = .tuple vs ∧ vs[0]? = some (.bool b) ∧ K vs b
/-- the cells of a slice that is written out -/
def Filled (n size : Nat) (z : Array Value) (ps : List (Nat × Value)) (K : Array Value → Prop) : Prop :=
  ∃ c, Instr.fill (fun i => some (i * size, size)) ((Array.range (n * size)).map (z[· % z.size]!)) ps = some c ∧ K c
def Built (places : Array (Nat × Nat)) (z : Array Value) (ps : List (Nat × Value)) (K : Array Value → Prop) : Prop := ∃ c, Instr.fill (places[·]?) z ps = some c ∧ K c
def BuiltA (size : Nat) (z : Array Value) (ps : List (Nat × Value)) (K : Array Value → Prop) : Prop := ∃ c, Instr.fill (fun i => some (i * size, size)) z ps = some c ∧ K c
/-- '==' of two arrays or structs. -/
def EqOK (P : Program) (t : TypeId) (x y : Value) (b : Bool) : Prop := P.eqGuardType P.depth t = false ∧ ∀ w d, (Op.equalIn (d + 5) t x y).run P w = .ok b w
def AggEq (P : Program) (t : TypeId) (x y : Array Value) (K : Bool → Prop) : Prop := ∃ b, EqOK P t (.agg x) (.agg y) b ∧ K b
def minI (a b : Int) : Int := if a ≤ b then a else b
def maxI (a b : Int) : Int := if a ≤ b then b else a
section more0
variable {P : Program} {ρ : Operand → Value} {o : Oper} {t : TypeId} {x y : Operand} {w : World}
theorem eqGuard_agg {op : BinOp} {cs ds : Array Value} (h : P.eqGuardType P.depth t = false) : (eqGuard op t x y (.agg cs) (.agg ds)).run P w = .ok () w := by
  unfold eqGuard; cases op <;> simp [program, Sem.run, h]
theorem p_aggEq {t' : TypeId} {cs ds : Array Value} {b : Bool} (ho : o.op = .binOp .eql t x y t') (hb : EqOK P t (.agg cs) (.agg ds) b) (hx : ρ x = .agg cs) (hy : ρ y = .agg ds) : PureOp P ρ o (.bool b) := fun w => by
  have h : (Op.equal t (.agg cs) (.agg ds)).run P w = .ok b w := hb.2 w 9995
  simp only [execOp, ho, hx, hy]
  simp [eqGuard_agg hb.1, eql_run rfl h]
theorem p_aggNe {t' : TypeId} {cs ds : Array Value} {b : Bool} (ho : o.op = .binOp .neq t x y t') (hb : EqOK P t (.agg cs) (.agg ds) b) (hx : ρ x = .agg cs) (hy : ρ y = .agg ds) : PureOp P ρ o (.bool (!b)) := fun w => by
  have h : (Op.equal t (.agg cs) (.agg ds)).run P w = .ok b w := hb.2 w 9995
  simp only [execOp, ho, hx, hy]
  simp [eqGuard_agg hb.1, neq_run rfl h]
theorem p_cap {s : Sl} {bt e : TypeId} (ho : o.op = .call { callee := .builtin .cap, args := #[x], argTypes := #[bt] }) (h1 : P.underlying bt = some (.slice e)) (hx : ρ x = s.v) : PureOp P ρ o (.int .i64 s.cap) := fun w => by
  simp [execOp, ho, resolve, invoke, builtin, hx, Builtin.cap_, Sl.v, goInt, run_underlying h1]
theorem p_buildA {e : TypeId} {n m size bytes bytes' : Nat} {zc : Array Value} {z' : Value} {cs : Array Value} {ps : Array (Nat × Operand)} (ho : o.op = .build t ps) (h1 : P.underlying t = some (.array n e)) (h2 : TI P t (.agg zc) m bytes) (h3 : TI P e z' size bytes')
    {pl : List (Nat × Value)} (hf' : Instr.fill (fun i => some (i * size, size)) zc pl = some cs) (hl : ps.toList.map (fun p => (p.1, ρ p.2)) = pl) : PureOp P ρ o (.agg cs) := fun w => by
  have hf : Instr.fill (fun i => some (i * size, size)) zc (ps.map fun p => (p.1, ρ p.2)).toList = some cs := by rw [Array.toList_map, hl]; exact hf'
  simp only [execOp, ho, Instr.build, Sem.run_bind, h2.zeroValue, Result.andThen_ok, run_underlying h1, h3.sizeOf, Value.cells]
  rw [hf]; rfl
/-- Where a struct's fields lie. -/
def PlaceOf (P : Program) (t : TypeId) (places : Array (Nat × Nat)) : Prop :=
  ∃ fs, P.underlying t = some (.struct fs) ∧ ∀ w, (fs.mapM (fun f => do pure (f.offset, ← sizeOf f.type) : Field → Sem (Nat × Nat))).run P w = .ok places w
theorem p_buildS {m bytes : Nat} {places : Array (Nat × Nat)} {zc : Array Value} {cs : Array Value} {ps : Array (Nat × Operand)} {pl : List (Nat × Value)} (ho : o.op = .build t ps) (h1 : PlaceOf P t places) (h2 : TI P t (.agg zc) m bytes)
    (hf' : Instr.fill (places[·]?) zc pl = some cs) (hl : ps.toList.map (fun p => (p.1, ρ p.2)) = pl) : PureOp P ρ o (.agg cs) := fun w => by
  obtain ⟨fs, h1, h3⟩ := h1
  have hf : Instr.fill (places[·]?) zc (ps.map fun p => (p.1, ρ p.2)).toList = some cs := by rw [Array.toList_map, hl]; exact hf'
  simp only [execOp, ho, Instr.build, Sem.run_bind, h2.zeroValue, Result.andThen_ok, run_underlying h1, h3, Value.cells]
  rw [hf]; rfl
theorem e_gen {α : Type} {s : Sem Value} {enc : α → Value} {N : α → World → Prop} (he : execOp ρ o = (do pure (.value (← s)))) (h : Ef P s enc w N) : EffOp P ρ o w fun v w' => ∃ x, v = enc x ∧ N x w' := by
  obtain ⟨x, w', hr, h⟩ := h
  exact e_val he hr ⟨x, rfl, h⟩
theorem e_genV {s : Sem Value} {N : Value → World → Prop} (he : execOp ρ o = (do pure (.value (← s)))) (h : Ef P s id w N) : EffOp P ρ o w N := by
  obtain ⟨x, w', hr, h⟩ := h
  exact e_val he hr h
theorem e_genU {s : Sem Unit} {N : World → Prop} (he : execOp ρ o = (do s; pure .skip)) (h : EfU P s w N) : EffOp P ρ o w fun _ w' => N w' := by
  obtain ⟨w', hr, h⟩ := h
  exact e_unit he hr h
theorem e_bi {b : Builtin} {s : Sem Value} {α : Type} {enc : α → Value} {N : α → World → Prop} {xs : Array Operand} {ts : Array TypeId} {vs : List Value} (h : Ef P s enc w N) (ho : o.op = .call { callee := .builtin b, args := xs, argTypes := ts }) (ha' : xs.toList.map ρ = vs)
    (he : builtin b ts o.type (xs.map fun | .const _ => true | _ => false) vs.toArray = (do pure (.value (← s)))) : EffOp P ρ o w fun v w' => ∃ x, v = enc x ∧ N x w' := by
  have ha : xs.map ρ = vs.toArray := by subst ha'; apply Array.ext'; simp
  exact e_gen (by simp only [execOp, ho, resolve, ha, invoke, pure_bind]; exact he) h
theorem e_biV {b : Builtin} {s : Sem Value} {N : Value → World → Prop} {xs : Array Operand} {ts : Array TypeId} {vs : List Value} (h : Ef P s id w N) (ho : o.op = .call { callee := .builtin b, args := xs, argTypes := ts }) (ha' : xs.toList.map ρ = vs)
    (he : builtin b ts o.type (xs.map fun | .const _ => true | _ => false) vs.toArray = (do pure (.value (← s)))) : EffOp P ρ o w N := by
  have ha : xs.map ρ = vs.toArray := by subst ha'; apply Array.ext'; simp
  exact e_genV (by simp only [execOp, ho, resolve, ha, invoke, pure_bind]; exact he) h
theorem execOp_makeMap (ho : o.op = .makeMap t none) : execOp ρ o = (do pure (.value (← Instr.makeMap t none))) := by simp [execOp, ho]
theorem execOp_makeSlice {a b : Value} (ho : o.op = .makeSlice t x y) (hx : ρ x = a) (hy : ρ y = b) : execOp ρ o = (do pure (.value (← Instr.makeSlice t a b))) := by simp [execOp, ho, hx, hy]
theorem execOp_mapUpdate {z : Operand} {a b c : Value} (ho : o.op = .mapUpdate t x y z) (hx : ρ x = a) (hy : ρ y = b) (hz : ρ z = c) : execOp ρ o = (do Instr.mapUpdate t a b c; pure .skip) := by simp [execOp, ho, hx, hy, hz]
end more0

/-! ## Guards, joins, loops, results -/
section more
variable {P : Program} {f : Fr} {n : Nat} {R : Value → World → Prop} {k : List Item} {σ : Env} {w : World}
theorem wanted_yes {ops : Array Oper} {o : Oper} {j d : Nat} {want b : Bool} (hg : o.guard = some (j, want)) (hd : (ops[j]?).bind (·.dst) = some d) (hlt : d < n) (hv : σ d = .bool b) (hb : b = want) :
    Region.wanted o (yielded ops (mkAct n σ).tmps) = true := by
  subst hb
  simp [Region.wanted, hg, yielded, hd, mkAct, hlt, hv]
theorem wanted_no {ops : Array Oper} {o : Oper} {j d : Nat} {want b : Bool} (hg : o.guard = some (j, want)) (hd : (ops[j]?).bind (·.dst) = some d) (hlt : d < n) (hv : σ d = .bool b) (hb : b = !want) :
    Region.wanted o (yielded ops (mkAct n σ).tmps) = false := by
  subst hb
  simp [Region.wanted, hg, yielded, hd, mkAct, hlt, hv]
theorem wanted_undef {ops : Array Oper} {o : Oper} {j d : Nat} {want : Bool} (hg : o.guard = some (j, want)) (hd : (ops[j]?).bind (·.dst) = some d) (hlt : d < n) (hv : σ d = undef) :
    Region.wanted o (yielded ops (mkAct n σ).tmps) = false := by
  simp [Region.wanted, hg, yielded, hd, mkAct, hlt, hv, undef]
theorem ifB_cases {G A B : Prop} {b : Bool} (H : IfB b A B) (h1 : b = true → A → G) (h2 : b = false → B → G) : G := by
  cases b
  · exact h2 rfl (H.2 rfl)
  · exact h1 rfl (H.1 rfl)
theorem r_condB {c : Operand} {x y : Code} {A B : Prop} {b : Bool} (hc : ev n σ c = .bool b) (H : IfB b A B) (ht : b = true → A → Runs P f n R (.code x :: k) σ w) (hf : b = false → B → Runs P f n R (.code y :: k) σ w) :
    Runs P f n R (.code (.cond c x y) :: k) σ w := r_cond hc (fun h => ht h (H.1 h)) (fun h => hf h (H.2 h))
theorem r_trueB {c : Operand} {x y : Code} {b : Bool} (hc : ev n σ c = .bool b) (hb : b = true) (h : Runs P f n R (.code x :: k) σ w) : Runs P f n R (.code (.cond c x y) :: k) σ w := r_true (by rw [hc, hb]) h
theorem r_falseB {c : Operand} {x y : Code} {b : Bool} (hc : ev n σ c = .bool b) (hb : b = false) (h : Runs P f n R (.code y :: k) σ w) : Runs P f n R (.code (.cond c x y) :: k) σ w := r_false (by rw [hc, hb]) h
theorem r_seqJ {α : Type} (enc : α → Env → Env) (N : α → World → Prop) {x y : Code} (hJ : ∀ s σ w, N s w → Runs P f n R (.code y :: k) (enc s σ) w)
    (h : (∀ s σ w, N s w → Runs P f n R (.code y :: k) (enc s σ) w) → Runs P f n R (.code x :: .code y :: k) σ w) : Runs P f n R (.code (.seq x y) :: k) σ w := r_seq (h hJ)
theorem r_blockJ {α : Type} (enc : α → Env → Env) (N : α → World → Prop) {id : Nat} {c : Code} (hJ : ∀ s σ w, N s w → Runs P f n R k (enc s σ) w)
    (h : (∀ s σ w, N s w → Runs P f n R k (enc s σ) w) → Runs P f n R (.code c :: .inBlock id :: k) σ w) : Runs P f n R (.code (.block id c) :: k) σ w := r_block (h hJ)
theorem r_topJ {α : Type} (enc : α → Env → Env) (N : α → World → Prop) {x : Item} (hJ : ∀ s σ w, N s w → Runs P f n R k (enc s σ) w)
    (h : (∀ s σ w, N s w → Runs P f n R k (enc s σ) w) → Runs P f n R (x :: k) σ w) : Runs P f n R (x :: k) σ w := h hJ
theorem r_loopJ {α : Type} (enc : α → Env → Env) {F : (α → World → Prop) → α → World → Prop} {s : α} {c : Code} (H : Lp F s w)
    (hs : ∀ (ag : α → World → Prop) s σ w, F ag s w → (∀ s' σ' w', ag s' w' → Runs P f n R (.inLoop c :: k) (enc s' σ') w') → Runs P f n R (.code c :: .inLoop c :: k) (enc s σ) w) :
    Runs P f n R (.code (.loop c) :: k) (enc s σ) w := by
  obtain ⟨I, μ, hI, hst⟩ := H
  have key : ∀ m s σ w, μ s w = m → I s w → Runs P f n R (.code c :: .inLoop c :: k) (enc s σ) w := by
    intro m
    induction m using Nat.strongRecOn with
    | _ m ih =>
      intro s σ w hm hI
      exact hs _ s σ w (hst s w hI) fun s' σ' w' hI' => r_inLoop (ih _ (hm ▸ hI'.2) s' σ' w' rfl hI'.1)
  exact r_loop (key _ s σ w rfl hI)

def ResV (P : Program) (n : Nat) (σ : Env) (w : World) : ResultVar → Value → Prop
  | .tmp t, v => t < n ∧ σ t = v
  | .cell a t, v => a < n ∧ ∃ ad, σ a = .pointer (some ad) ∧ (loadVar t ad).run P w = .ok v w
theorem resV_cell1 {a t : Nat} {ad : Addr} {d : TypeDesc} {v : Value} (h0 : a < n) (ha : σ a = .pointer (some ad)) (h1 : P.underlying t = some d) (h2 : aggD d = false) (hc : w.cell? ad = some v) : ResV P n σ w (.cell a t) v :=
  ⟨h0, ad, ha, by simp [loadVar, run_isAgg h1, h2, load, Sem.run, hc]⟩
theorem resV_cellN {a t : Nat} {ad : Addr} {d : TypeDesc} {cs : Array Value} {z : Value} {m bytes : Nat} (h0 : a < n) (ha : σ a = .pointer (some ad)) (h1 : P.underlying t = some d) (h2 : aggD d = true) (h3 : TI P t z m bytes) (hm : cs.size = m) (hr : Row w ad cs) : ResV P n σ w (.cell a t) (.agg cs) :=
  ⟨h0, ad, ha, by subst hm; simp [loadVar, run_isAgg h1, h2, h3.sizeOf, run_loadCells hr]⟩
def res1 (P : Program) (n : Nat) (σ : Env) : ResultVar → Sem Value
  | .tmp t => pure ((mkAct n σ).tmps.getD t undef)
  | .cell a t => do loadVar t (← asAddr ((mkAct n σ).tmps.getD a undef))
theorem run_resV {r : ResultVar} {v : Value} (h : ResV P n σ w r v) : (res1 P n σ r).run P w = .ok v w := by
  cases r with
  | tmp t => obtain ⟨h1, h2⟩ := h; simp only [res1]; rw [tmps_getD n σ t h1, h2]; rfl
  | cell a t => obtain ⟨h1, ad, h2, h3⟩ := h; simp only [res1]; rw [tmps_getD n σ a h1, h2]; simp [asAddr, h3]
theorem results_eq (fn : Func) : results fn (mkAct n σ).tmps = (do let vs ← fn.results.mapM (res1 P n σ); pure (if h : vs.size = 1 then vs[0] else .tuple vs)) := by
  unfold results
  congr 1
theorem res_1 {fn : Func} {r : ResultVar} {v : Value} (hf : fn.results = #[r]) (h : ResV P n σ w r v) : (results fn (mkAct n σ).tmps).run P w = .ok v w := by
  rw [results_eq (P := P), hf]; simp [run_resV h]
theorem res_0 {fn : Func} (hf : fn.results = #[]) : (results fn (mkAct n σ).tmps).run P w = .ok (.tuple #[]) w := by
  rw [results_eq (P := P), hf]; simp
theorem res_2 {fn : Func} {r s : ResultVar} {u v : Value} (hf : fn.results = #[r, s]) (h1 : ResV P n σ w r u) (h2 : ResV P n σ w s v) : (results fn (mkAct n σ).tmps).run P w = .ok (.tuple #[u, v]) w := by
  rw [results_eq (P := P), hf]; simp [run_resV h1, run_resV h2]
theorem res_3 {fn : Func} {r s t : ResultVar} {u v x : Value} (hf : fn.results = #[r, s, t]) (h1 : ResV P n σ w r u) (h2 : ResV P n σ w s v) (h3 : ResV P n σ w t x) : (results fn (mkAct n σ).tmps).run P w = .ok (.tuple #[u, v, x]) w := by
  rw [results_eq (P := P), hf]; simp [run_resV h1, run_resV h2, run_resV h3]
theorem res_4 {fn : Func} {r s t q : ResultVar} {u v x y : Value} (hf : fn.results = #[r, s, t, q]) (h1 : ResV P n σ w r u) (h2 : ResV P n σ w s v) (h3 : ResV P n σ w t x) (h4 : ResV P n σ w q y) : (results fn (mkAct n σ).tmps).run P w = .ok (.tuple #[u, v, x, y]) w := by
  rw [results_eq (P := P), hf]; simp [run_resV h1, run_resV h2, run_resV h3, run_resV h4]
end more
end Go.X
