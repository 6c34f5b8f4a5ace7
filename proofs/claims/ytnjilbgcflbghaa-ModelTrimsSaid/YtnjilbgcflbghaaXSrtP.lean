/- Plain laws that the sort's walks lean on: lengths in bits; the order of strings. -/
import Derived.Test.YtnjilbgcflbghaaXSrt
import Derived.Test.YtnjilbgcflbghaaXBv
import Derived.Test.YtnjilbgcflbghaaXDat
import Derived.Sort.LotA
set_option linter.all false
set_option linter.all false
namespace Go.X
open Go Go.Sort
theorem bitsLen_shift {x k : Nat} (h : 2 ^ k ≤ x) : bitsLen (x / 2 ^ k) + k = bitsLen x := by
  have hp : 0 < 2 ^ k := Nat.pow_pos (by omega)
  have hk : k < bitsLen x := by
    rcases Nat.lt_or_ge k (bitsLen x) with h' | h'
    · exact h'
    · exact absurd ((bitsLen_le_iff x k).1 h') (by omega)
  apply Nat.le_antisymm
  · have h1 : bitsLen (x / 2 ^ k) ≤ bitsLen x - k := (bitsLen_le_iff _ _).2 (by
      rw [Nat.div_lt_iff_lt_mul hp, ← Nat.pow_add, Nat.sub_add_cancel (by omega)]
      exact lt_two_pow_bitsLen x)
    omega
  · exact (bitsLen_le_iff _ _).2 (by
      have := lt_two_pow_bitsLen (x / 2 ^ k)
      rw [Nat.div_lt_iff_lt_mul hp, ← Nat.pow_add] at this
      exact this)
theorem bitsLen_64 {x : Nat} (h : x < 18446744073709551616) : bitsLen x ≤ 64 := (bitsLen_le_iff x 64).2 (by omega)
/-- the library's table of lengths of bytes -/
def len8 : List UInt8 := [0, 1, 2, 2, 3, 3, 3, 3, 4, 4, 4, 4, 4, 4, 4, 4, 5, 5, 5, 5, 5, 5, 5, 5, 5, 5, 5, 5, 5, 5, 5, 5] ++ List.replicate 32 6 ++ List.replicate 64 7 ++ List.replicate 128 8
theorem len8_tab : ∀ m : Fin 256, (len8.getD m.val 0).toNat = bitsLen m.val := by decide +kernel
theorem tbytes_toList (a : ByteArray) : a.toList = a.data.toList := ByteArray.toList_eq a
theorem bytesLess_ltStr : ∀ (x y : List UInt8), Op.bytesLess x y = ltStr x y
  | [], [] => by simp [Op.bytesLess, ltStr]
  | _ :: _, [] => by simp [Op.bytesLess, ltStr]
  | [], _ :: _ => by simp [Op.bytesLess, ltStr]
  | a :: x, b :: y => by
    have ih := bytesLess_ltStr x y
    unfold ltStr at *
    rw [Op.bytesLess, ih]
    simp only [List.cons_lt_cons_iff]
    by_cases h1 : a < b <;> by_cases h2 : a = b <;> simp [h1, h2]
theorem slt_ltStr (a b : ByteArray) : slt a b = ltStr a.toList b.toList := bytesLess_ltStr _ _
theorem swo_slt : SWO slt where
  irrefl x := by rw [slt_ltStr]; exact swo_ltStr.irrefl _
  trans x y z h1 h2 := by rw [slt_ltStr] at *; exact swo_ltStr.trans _ _ _ h1 h2
  ntrans x y z h1 h2 := by rw [slt_ltStr] at *; exact swo_ltStr.ntrans _ _ _ h1 h2
theorem slt_eq {a b : ByteArray} (h1 : slt a b = false) (h2 : slt b a = false) : a = b := by
  rw [slt_ltStr] at h1 h2
  unfold ltStr at h1 h2
  simp only [decide_eq_false_iff_not, List.not_lt] at h1 h2
  have e := List.le_antisymm h1 h2
  rw [tbytes_toList, tbytes_toList] at e
  obtain ⟨a⟩ := a; obtain ⟨b⟩ := b
  congr 1
  exact (Array.ext' e.symm : a = b)
/-- Sorted, and a permutation, of what order there is one. -/
theorem ltInt_eq {a b : Int} (h1 : ltInt a b = false) (h2 : ltInt b a = false) : a = b := by unfold ltInt at *; simp at *; omega
end Go.X
