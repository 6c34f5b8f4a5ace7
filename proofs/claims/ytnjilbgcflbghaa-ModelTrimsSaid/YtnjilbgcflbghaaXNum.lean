/- Plain laws on numbers: bytes, varints. -/
import Derived.Test.YtnjilbgcflbghaaXMem
set_option linter.all false
namespace Go.X
open Go
def u8s (l : List Nat) : List Value := l.map fun n : Nat => .int .u8 (n : Int)
@[simp] theorem u8s_nil : u8s [] = [] := rfl
@[simp] theorem u8s_cons (a : Nat) (l : List Nat) : u8s (a :: l) = .int .u8 (a : Int) :: u8s l := rfl
@[simp] theorem u8s_append (a b : List Nat) : u8s (a ++ b) = u8s a ++ u8s b := by simp [u8s]
@[simp] theorem u8s_length (a : List Nat) : (u8s a).length = a.length := by simp [u8s]
theorem u8s_one (l : List Nat) : ∀ u ∈ u8s l, u.oneCell' = true := by
  intro u hu
  obtain ⟨n, _, rfl⟩ := List.mem_map.1 hu
  rfl
theorem u8s_inj {a b : List Nat} (h : u8s a = u8s b) : a = b := by
  have hinj : Function.Injective (fun n : Nat => Value.int .u8 (n : Int)) := fun x y hxy => by
    simp only [Value.int.injEq, true_and] at hxy
    omega
  exact (List.map_inj_right (fun x y hxy => hinj hxy)).1 h

/-- A number, seven bits a byte. -/
def vint (v : Nat) : List Nat := if h : v < 128 then [v] else (v % 128 + 128) :: vint (v / 128)
theorem vint_small {v : Nat} (h : v < 128) : vint v = [v] := by rw [vint, dif_pos h]
theorem vint_big {v : Nat} (h : ¬ v < 128) : vint v = (v % 128 + 128) :: vint (v / 128) := by rw [vint, dif_neg h]
theorem vint_len : ∀ (k v : Nat), v < 128 ^ (k + 1) → (vint v).length ≤ k + 1
  | 0, v, h => by rw [vint_small (by omega)]; simp
  | k + 1, v, h => by
    by_cases hv : v < 128
    · rw [vint_small hv]; simp
    · rw [vint_big hv]
      have := vint_len k (v / 128) (by rw [Nat.div_lt_iff_lt_mul (by omega)]; rw [← Nat.pow_succ]; exact h)
      simp only [List.length_cons]
      omega
theorem vint_len10 {v : Nat} (h : v < 18446744073709551616) : (vint v).length ≤ 10 := vint_len 9 v (by omega)
theorem vint_pos (v : Nat) : 0 < (vint v).length := by
  rw [vint]; split <;> simp
theorem vint_byte (v : Nat) : ∀ b ∈ vint v, b < 256 := by
  induction v using vint.induct with
  | case1 v h => rw [vint_small h]; simp; omega
  | case2 v h ih =>
    rw [vint_big h]
    intro b hb
    rcases List.mem_cons.1 hb with rfl | hb
    · omega
    · exact ih b hb
theorem or128 (b : BitVec 8) : (b ||| 128#8).toNat = b.toNat % 128 + 128 := by revert b; decide
theorem orK_128 (n : Nat) : orK .u8 (IntKind.u8.wrap (n : Int)) 128 = ((n % 128 + 128 : Nat) : Int) := by
  have e1 : BitVec.ofInt IntKind.u8.bits (IntKind.u8.wrap (n : Int)) = BitVec.ofNat 8 n := by
    apply BitVec.eq_of_toNat_eq
    simp [IntKind.bits, IntKind.wrap, IntKind.signed, BitVec.toNat_ofInt]
    omega
  have e2 : BitVec.ofInt IntKind.u8.bits 128 = 128#8 := rfl
  unfold orK
  rw [e1, e2]
  have h := or128 (BitVec.ofNat 8 n)
  change IntKind.u8.wrap (((BitVec.ofNat 8 n ||| 128#8 : BitVec 8).toNat : Nat) : Int) = _
  rw [h]
  rw [wrap_u8 (by omega) (by have := Nat.mod_lt (BitVec.ofNat 8 n).toNat (show 0 < 128 by omega); omega)]
  simp only [BitVec.toNat_ofNat]
  omega
theorem wrap8_nat (n : Nat) : IntKind.u8.wrap (n : Int) = ((n % 256 : Nat) : Int) := by
  simp only [IntKind.wrap, IntKind.bits, IntKind.signed, Bool.false_and, Bool.false_eq_true, if_false]; omega
theorem shrK_nat {k : IntKind} (m n : Nat) (h : n ≤ k.bits) : shrK k (m : Int) (n : Int) = ((m / 2 ^ n : Nat) : Int) := by
  unfold shrK
  rw [show min (n : Int).toNat k.bits = n from by simp; omega]
  rw [Int.fdiv_eq_ediv_of_nonneg _ (by exact Int.pow_nonneg (by omega))]
  simp
end Go.X
