/- The sort's walks, at one type: insertion, heap, reversal. -/
import Derived.Test.YtnjilbgcflbghaaXF2
import Derived.Test.YtnjilbgcflbghaaXF3
import Derived.Test.YtnjilbgcflbghaaXF4
import Derived.Test.YtnjilbgcflbghaaXSrt
set_option linter.all false
set_option maxHeartbeats 1000000
namespace Go.Proofs
open Go Go.X Go.Sort
theorem less_string (u v : ByteArray) (w : World) (K : Value → World → Prop) (k : K (.bool (slt u v)) w) : CallF Try.prog 214 #[Value.string u, Value.string v] w K := by
  have hn : ∀ (u : ByteArray) (w : World) (K : Value → World → Prop), K (.bool false) w → CallF Try.prog 246 #[Value.string u] w K := fun u w K k => by
    refine cmp_isNaN_string_ok K _ w ?_
    unfold cmp_isNaN_string
    simpa [seq] using k
  refine cmp_Less_string_ok K _ _ w ?_
  unfold cmp_Less_string
  exact hn u w _ ⟨false, rfl, fun h => by simp at h, fun _ => k⟩

variable {b n c : Nat} {e : TypeId} {rest : List Value} {w : World} {d : Array ByteArray} {R : Value → World → Prop}
theorem insertion_string (h : SB Value.string e b rest n w d) (hn : n < 4611686018427387904) (x y : Nat) (hxy : x ≤ y) (hy : y ≤ n) (k : ∀ w', SB Value.string e b rest n w' (insertionSort slt d x y) → Ch (· = b) w w' → R (.tuple #[]) w') :
    CallF Try.prog 208 #[(slc b n c).v, .int .i64 x, .int .i64 y] w R := by
  refine slices_insertionSortOrdered_string_ok R _ _ _ w ?_
  unfold slices_insertionSortOrdered_string
  refine ⟨fun s w' => ∃ (i : Nat) (d' : Array ByteArray), s = (slc b n c, (x : Int), (y : Int), (i : Int)) ∧ SB Value.string e b rest n w' d' ∧ Ch (· = b) w w' ∧ x < i ∧ (i ≤ y ∨ i = x + 1) ∧ insOuter slt x y i d' = insertionSort slt d x y, fun s _ => y - s.2.2.2.toNat,
    ⟨x + 1, d, by rw [show IntKind.i64.wrap ((x : Int) + 1) = ((x + 1 : Nat) : Int) by rw [wrap_i64e]; omega], h, Ch.refl _ _, by omega, .inr rfl, rfl⟩, ?_⟩
  rintro _ w1 ⟨i, d1, rfl, h1, c1, hi, hi2, he⟩
  show slices_insertionSortOrdered_string_b0 R _ (slc b n c) x y i w1
  unfold slices_insertionSortOrdered_string_b0
  refine ⟨fun hb => ?_, fun hb => ?_⟩
  · have hlt : i < y := by simp at hb; omega
    refine ⟨fun s w' => ∃ (j : Nat) (d' : Array ByteArray), s = (slc b n c, (x : Int), (y : Int), (i : Int), (j : Int)) ∧ SB Value.string e b rest n w' d' ∧ Ch (· = b) w w' ∧ j ≤ i ∧ insOuter slt x y (i + 1) (insInner slt x j d') = insertionSort slt d x y, fun s _ => s.2.2.2.2.toNat,
      ⟨i, d1, rfl, h1, c1, Nat.le_refl _, by rw [← he]; conv => rhs; rw [insOuter]; simp only [if_pos hlt]⟩, ?_⟩
    rintro _ w2 ⟨j, d2, rfl, h2, c2, hj, he2⟩
    show slices_insertionSortOrdered_string_b1 R _ _ (slc b n c) x y i j w2
    unfold slices_insertionSortOrdered_string_b1
    have hout : ∀ w', SB Value.string e b rest n w' d2 → Ch (· = b) w w' → insInner slt x j d2 = d2 → (∃ (i' : Nat) (d' : Array ByteArray), (slc b n c, (x : Int), (y : Int), IntKind.i64.wrap ((i : Int) + 1)) = (slc b n c, (x : Int), (y : Int), (i' : Int)) ∧ SB Value.string e b rest n w' d' ∧ Ch (· = b) w w' ∧ x < i' ∧ (i' ≤ y ∨ i' = x + 1) ∧ insOuter slt x y i' d' = insertionSort slt d x y) ∧ y - (IntKind.i64.wrap ((i : Int) + 1)).toNat < y - ((i : Int)).toNat := fun w' h' c' hs => by
      have e1 : IntKind.i64.wrap ((i : Int) + 1) = ((i + 1 : Nat) : Int) := by rw [wrap_i64e]; omega
      rw [e1]
      exact ⟨⟨i + 1, d2, rfl, h', c', by omega, by omega, by rw [← he2, hs]⟩, by omega⟩
    refine ⟨fun hb => ?_, fun hb => ?_⟩
    · have hlt2 : x < j := by simp at hb; omega
      obtain ⟨j', rfl⟩ : ∃ j', j = j' + 1 := ⟨j - 1, by omega⟩
      have ej : IntKind.i64.wrap (((j' + 1 : Nat) : Int) - 1) = (j' : Int) := by rw [wrap_i64e]; omega
      refine s_cmp (lt := slt) (j' + 1) j' less_string h2 rfl (by omega) ej (by omega) ?_
      unfold slices_insertionSortOrdered_string_k2
      have hsz := h2.size
      refine ⟨fun hc => ?_, fun hc => ?_⟩
      · refine s_swp (j' + 1) j' h2.drew rfl (by omega) ej (by omega) fun w3 h3 c3 => ?_
        rw [ej]
        exact ⟨⟨j', _, rfl, h3, c2.trans (((Ch.drew w2).mono fun _ _ h => h.elim).trans c3), by omega, by rw [← he2]; conv => rhs; rw [insInner]; simp [hlt2, hc]⟩, by simp⟩
      · exact hout _ h2.drew (c2.trans ((Ch.drew w2).mono fun _ _ h => h.elim)) (by rw [insInner]; simp [hc])
    · unfold slices_insertionSortOrdered_string_k2
      have hge : ¬ x < j := by simp at hb; omega
      refine ⟨fun hc => (by cases hc), fun _ => ?_⟩
      exact hout _ h2.drew (c2.trans ((Ch.drew w2).mono fun _ _ h => h.elim)) (by cases j with | zero => rfl | succ j => rw [insInner]; simp; omega)
  · have hge : ¬ i < y := by simp at hb; omega
    refine k w1 ?_ c1
    rw [← he, insOuter, if_neg hge]; exact h1

theorem reverse_string (h : SB Value.string e b rest n w d) (hn : n < 4611686018427387904) (x y : Nat) (hxy : x < y) (hy : y ≤ n) (k : ∀ w', SB Value.string e b rest n w' (reverseRange d x y) → Ch (· = b) w w' → R (.tuple #[]) w') :
    CallF Try.prog 212 #[(slc b n c).v, .int .i64 x, .int .i64 y] w R := by
  refine slices_reverseRangeOrdered_string_ok R _ _ _ w ?_
  unfold slices_reverseRangeOrdered_string
  refine ⟨fun s w' => ∃ (i j : Nat) (d' : Array ByteArray), s = (slc b n c, (i : Int), (j : Int)) ∧ SB Value.string e b rest n w' d' ∧ Ch (· = b) w w' ∧ j < n ∧ i ≤ n ∧ reverseLoop i j d' = reverseRange d x y, fun s _ => (s.2.2 - s.2.1).toNat,
    ⟨x, y - 1, d, by rw [show IntKind.i64.wrap ((y : Int) - 1) = ((y - 1 : Nat) : Int) by rw [wrap_i64e]; omega], h, Ch.refl _ _, by omega, by omega, rfl⟩, ?_⟩
  rintro _ w1 ⟨i, j, d1, rfl, h1, c1, hj, hi, he⟩
  show slices_reverseRangeOrdered_string_b0 R _ (slc b n c) i j w1
  unfold slices_reverseRangeOrdered_string_b0
  refine ⟨fun hb => ?_, fun hb => ?_⟩
  · have hlt : i < j := by simp at hb; omega
    refine s_swp i j h1 rfl (by omega) rfl (by omega) fun w3 h3 c3 => ?_
    have e1 : IntKind.i64.wrap ((i : Int) + 1) = ((i + 1 : Nat) : Int) := by rw [wrap_i64e]; omega
    have e2 : IntKind.i64.wrap ((j : Int) - 1) = ((j - 1 : Nat) : Int) := by rw [wrap_i64e]; omega
    rw [e1, e2]
    exact ⟨⟨i + 1, j - 1, _, rfl, h3, c1.trans c3, by omega, by omega, by rw [← he]; conv => rhs; rw [reverseLoop]; simp only [if_pos hlt]⟩, by dsimp only; omega⟩
  · have hge : ¬ i < j := by simp at hb; omega
    refine k w1 ?_ c1
    rw [← he, reverseLoop, if_neg hge]; exact h1
end Go.Proofs
