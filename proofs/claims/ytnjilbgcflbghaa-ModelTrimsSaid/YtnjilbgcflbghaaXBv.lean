/- Whole numbers of a kind as bit vectors. -/
import Derived.Test.YtnjilbgcflbghaaXNum
set_option linter.all false
set_option linter.all false
namespace Go.X
open Go
/-- An unsigned kind of so many bits. -/
def UK (k : IntKind) (n : Nat) : Prop := k.bits = n ∧ k.signed = false
theorem uk32 : UK .u32 32 := ⟨rfl, rfl⟩
theorem uk64 : UK .u64 64 := ⟨rfl, rfl⟩
theorem uk8 : UK .u8 8 := ⟨rfl, rfl⟩
theorem uk16 : UK .u16 16 := ⟨rfl, rfl⟩
/-- The number of a bit vector. -/
def iv {n : Nat} (x : BitVec n) : Int := (x.toNat : Int)
section
variable {k : IntKind} {n : Nat} (h : UK k n)
include h
theorem wrap_iv (z : Int) : k.wrap z = iv (BitVec.ofInt n z) := by
  obtain ⟨h1, h2⟩ := h
  simp only [IntKind.wrap, h1, h2, Bool.false_and, Bool.false_eq_true, if_false, iv, BitVec.toNat_ofInt]
  have hp : (0 : Int) < 2 ^ n := by exact Int.pow_pos (by omega)
  rw [Int.toNat_of_nonneg (Int.emod_nonneg _ (by simp; omega))]
  simp
theorem ofInt_iv (x : BitVec n) : BitVec.ofInt n (iv x) = x := by
  apply BitVec.eq_of_toNat_eq
  simp [iv, BitVec.toNat_ofInt]
theorem wrapN (x : Nat) : k.wrap (x : Int) = iv (BitVec.ofNat n x) := by rw [wrap_iv h]; rfl
theorem wrap_self (x : BitVec n) : k.wrap (iv x) = iv x := by rw [wrap_iv h, ofInt_iv h]
theorem add_iv (x y : BitVec n) : k.wrap (iv x + iv y) = iv (x + y) := by rw [wrap_iv h]; congr 1
theorem mul_iv (x y : BitVec n) : k.wrap (iv x * iv y) = iv (x * y) := by rw [wrap_iv h]; congr 1
theorem and_iv (x y : BitVec n) : andK k (iv x) (iv y) = iv (x &&& y) := by
  have h1 := h.1; subst h1
  unfold andK; rw [ofInt_iv h, ofInt_iv h]; exact wrap_self h _
theorem or_iv (x y : BitVec n) : orK k (iv x) (iv y) = iv (x ||| y) := by
  have h1 := h.1; subst h1
  unfold orK; rw [ofInt_iv h, ofInt_iv h]; exact wrap_self h _
theorem xor_iv (x y : BitVec n) : xorK k (iv x) (iv y) = iv (x ^^^ y) := by
  have h1 := h.1; subst h1
  unfold xorK; rw [ofInt_iv h, ofInt_iv h]; exact wrap_self h _
theorem andNot_iv (x y : BitVec n) : andNotK k (iv x) (iv y) = iv (x &&& ~~~y) := by
  have h1 := h.1; subst h1
  unfold andNotK; rw [ofInt_iv h, ofInt_iv h]; exact wrap_self h _
theorem shl_iv (x : BitVec n) (m : Nat) : shlK k (iv x) (m : Int) = iv (x <<< m) := by
  have h1 := h.1; subst h1
  unfold shlK; rw [wrap_iv h]; congr 1; apply BitVec.eq_of_toNat_eq
  rcases Nat.lt_or_ge k.bits m with hm | hm
  · rw [show min (m : Int).toNat k.bits = k.bits from by simp; omega]
    have e : (iv x * 2 ^ k.bits) = (((x.toNat * 2 ^ k.bits : Nat)) : Int) := by simp [iv]
    rw [e]
    simp only [BitVec.toNat_ofInt, BitVec.toNat_shiftLeft, Nat.shiftLeft_eq]
    have : 2 ^ m = 2 ^ k.bits * 2 ^ (m - k.bits) := by rw [← Nat.pow_add]; congr 1; omega
    rw [this, ← Nat.mul_assoc, Nat.mul_right_comm]
    norm_cast
    simp
  · rw [show min (m : Int).toNat k.bits = m from by simp; omega]
    have e : (iv x * 2 ^ m) = (((x.toNat * 2 ^ m : Nat)) : Int) := by simp [iv]
    rw [e]
    simp only [BitVec.toNat_ofInt, BitVec.toNat_shiftLeft, Nat.shiftLeft_eq]
    norm_cast
theorem shr_iv (x : BitVec n) (m : Nat) : shrK k (iv x) (m : Int) = iv (x >>> m) := by
  have h1 := h.1; subst h1
  rcases Nat.lt_or_ge k.bits m with hm | hm
  · unfold shrK
    rw [show min (m : Int).toNat k.bits = k.bits from by simp; omega]
    have : (x >>> m).toNat = 0 := by
      simp only [BitVec.toNat_ushiftRight, Nat.shiftRight_eq_div_pow]
      exact Nat.div_eq_of_lt (Nat.lt_of_lt_of_le x.isLt (Nat.pow_le_pow_right (by omega) (by omega)))
    simp only [iv, this]
    rw [Int.fdiv_eq_ediv_of_nonneg _ (by exact Int.pow_nonneg (by omega))]
    norm_cast
    exact Nat.div_eq_of_lt x.isLt
  · show shrK k (x.toNat : Int) (m : Int) = _
    rw [shrK_nat x.toNat m hm]
    simp [iv, Nat.shiftRight_eq_div_pow]
end
theorem iv_inj {n : Nat} {x y : BitVec n} (h : iv x = iv y) : x = y := BitVec.eq_of_toNat_eq (by unfold iv at h; omega)
@[simp] theorem iv_inj' {n : Nat} {x y : BitVec n} : iv x = iv y ↔ x = y := ⟨iv_inj, fun h => by rw [h]⟩
theorem iv_nonneg {n : Nat} (x : BitVec n) : 0 ≤ iv x := by unfold iv; omega
theorem iv_lt {n : Nat} {x y : BitVec n} : iv x < iv y ↔ x < y := by unfold iv; rw [BitVec.lt_def]; omega
theorem iv_le {n : Nat} {x y : BitVec n} : iv x ≤ iv y ↔ x ≤ y := by unfold iv; rw [BitVec.le_def]; omega
theorem iv_ofNat (n m : Nat) (h : m < 2 ^ n) : iv (BitVec.ofNat n m) = (m : Int) := by simp [iv, Nat.mod_eq_of_lt h]
end Go.X
