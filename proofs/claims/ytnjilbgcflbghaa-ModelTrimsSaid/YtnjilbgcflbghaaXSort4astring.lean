/- The sort's walks, at one type: insertion in part, the pivot. -/
import Derived.Test.YtnjilbgcflbghaaXF2
import Derived.Test.YtnjilbgcflbghaaXF3
import Derived.Test.YtnjilbgcflbghaaXF4
import Derived.Test.YtnjilbgcflbghaaXSort3string
set_option linter.all false
set_option maxHeartbeats 1000000
namespace Go.Proofs
open Go Go.X Go.Sort
variable {b n c : Nat} {e : TypeId} {rest : List Value} {w : World} {d : Array ByteArray} {R : Value → World → Prop}

theorem scanSorted_stop_string {d : Array ByteArray} {y i : Nat} (h : i < y → slt d[i]! d[i - 1]! = true) : scanSorted slt d y i = i := by
  rw [scanSorted, if_neg (by simp only [Bool.and_eq_true, decide_eq_true_eq, not_and, Bool.not_eq_true, Bool.not_eq_false']; exact h)]
theorem scanSorted_go_string {d : Array ByteArray} {y i : Nat} (h1 : i < y) (h2 : slt d[i]! d[i - 1]! = false) : scanSorted slt d y i = scanSorted slt d y (i + 1) := by
  conv => lhs; rw [scanSorted, if_pos (by simp [h1, h2])]
theorem partialIns_at_string (x y s i : Nat) (d : Array ByteArray) (h : scanSorted slt d y i = i) : partialIns slt x y (s + 1) i d =
    if i = y then (d, true) else if y - x < 50 then (d, false) else
      partialIns slt x y s i (fixUp slt y i (fixDown slt x i (swp d i (i - 1)))) := by
  rw [partialIns_succ, h]
theorem partialIns_go_string (x y s i : Nat) (d : Array ByteArray) (h : scanSorted slt d y i = scanSorted slt d y (i + 1)) : partialIns slt x y (s + 1) i d = partialIns slt x y (s + 1) (i + 1) d := by
  rw [partialIns_succ, partialIns_succ, h]

theorem partialIns_string (h : SB Value.string e b rest n w d) (hn : n < 4611686018427387904) (x y : Nat) (hxy : x < y) (hy : y ≤ n)
    (k : ∀ w', SB Value.string e b rest n w' (partialInsertionSort slt d x y).1 → Ch (· = b) w w' → R (.bool (partialInsertionSort slt d x y).2) w') :
    CallF Try.prog 213 #[(slc b n c).v, .int .i64 x, .int .i64 y] w R := by
  refine slices_partialInsertionSortOrdered_string_ok R _ _ _ w ?_
  unfold slices_partialInsertionSortOrdered_string
  rw [show IntKind.i64.wrap ((x : Int) + 1) = ((x + 1 : Nat) : Int) by rw [wrap_i64e]; omega]
  refine Lp.mk (fun s w' => ∃ (i j t : Nat) (d' : Array ByteArray), s = (slc b n c, (x : Int), (y : Int), (i : Int), (j : Int)) ∧ j + t = 5 ∧ SB Value.string e b rest n w' d' ∧ Ch (· = b) w w' ∧ x < i ∧ i ≤ y ∧ partialIns slt x y t i d' = partialInsertionSort slt d x y) (fun s _ => 5 - s.2.2.2.2.toNat)
    ⟨x + 1, 0, 5, d, rfl, rfl, h, Ch.refl _ _, by omega, by omega, rfl⟩ ?_
  rintro _ w1 ⟨i, j, t, d1, rfl, hjt, h1, c1, hi, hiy, he⟩ ag1 hag1
  show slices_partialInsertionSortOrdered_string_b0 R ag1 (slc b n c) x y i j w1
  unfold slices_partialInsertionSortOrdered_string_b0
  refine ⟨fun hb => ?_, fun hb => ?_⟩
  case refine_2 =>
    have ht : t = 0 := by simp at hb; omega
    subst ht
    change (d1, false) = _ at he
    rw [← he] at k
    exact k w1 h1 c1
  obtain ⟨t, rfl⟩ : ∃ u, t = u + 1 := ⟨t - 1, by simp at hb; omega⟩
  refine Lp.mk (fun s w' => ∃ (i : Nat), s = (slc b n c, (x : Int), (y : Int), (i : Int), (j : Int)) ∧ SB Value.string e b rest n w' d1 ∧ Ch (· = b) w w' ∧ x < i ∧ i ≤ y ∧ partialIns slt x y (t + 1) i d1 = partialInsertionSort slt d x y) (fun s _ => y - s.2.2.2.1.toNat)
    ⟨i, rfl, h1, c1, hi, hiy, he⟩ ?_
  rintro _ w2 ⟨i, rfl, h2, c2, hi, hiy, he⟩ ag4 hag4
  show slices_partialInsertionSortOrdered_string_b2 R ag1 ag4 (slc b n c) x y i j w2
  unfold slices_partialInsertionSortOrdered_string_b2
  have ei : IntKind.i64.wrap ((i : Int) - 1) = ((i - 1 : Nat) : Int) := by rw [wrap_i64e]; omega
  have step : ∀ w3, SB Value.string e b rest n w3 d1 → Ch (· = b) w w3 → scanSorted slt d1 y i = i → slices_partialInsertionSortOrdered_string_k3 R ag1 ag4 (slc b n c) x y i j false w3 := by
    intro w3 h3 c3 hs
    rw [partialIns_at_string x y t i d1 hs] at he
    unfold slices_partialInsertionSortOrdered_string_k3
    refine ⟨fun hc => (by cases hc), fun _ => ⟨fun hb => ?_, fun hb => ?_⟩⟩
    · have hlt : i = y := by simp at hb; omega
      rw [if_pos hlt] at he
      rw [← he] at k
      exact k w3 h3 c3
    have hne : ¬ i = y := by simp at hb; omega
    rw [if_neg hne] at he
    rw [show IntKind.i64.wrap ((y : Int) - (x : Int)) = ((y - x : Nat) : Int) by rw [wrap_i64e]; omega]
    refine ⟨fun hb => ?_, fun hb => ?_⟩
    · have hlt : y - x < 50 := by simp at hb; omega
      rw [if_pos hlt] at he
      rw [← he] at k
      exact k w3 h3 c3
    have hge : ¬ y - x < 50 := by simp at hb; omega
    rw [if_neg hge] at he
    rw [ei]
    refine s_swp i (i - 1) h3 rfl (by omega) rfl (by omega) fun w4 h4 c4 => ?_
    have c4 := c3.trans c4
    generalize swp d1 i (i - 1) = d4 at h4 he
    have up : ∀ (w5 : World), SB Value.string e b rest n w5 (fixDown slt x i d4) → Ch (· = b) w w5 → slices_partialInsertionSortOrdered_string_k4 R ag1 ag4 (slc b n c) x y i j w5 := by
      intro w5 h5 c5
      generalize fixDown slt x i d4 = d5 at h5 he
      have fin : ∀ (w6 : World), SB Value.string e b rest n w6 (fixUp slt y i d5) → Ch (· = b) w w6 → slices_partialInsertionSortOrdered_string_k1 R ag1 (slc b n c) x y i j w6 := by
        intro w6 h6 c6
        unfold slices_partialInsertionSortOrdered_string_k1
        rw [show IntKind.i64.wrap ((j : Int) + 1) = ((j + 1 : Nat) : Int) by rw [wrap_i64e]; omega]
        exact hag1 _ _ ⟨i, j + 1, t, _, rfl, by omega, h6, c6, hi, hiy, he⟩ (by dsimp only; omega)
      unfold slices_partialInsertionSortOrdered_string_k4
      rw [show IntKind.i64.wrap ((y : Int) - (i : Int)) = ((y - i : Nat) : Int) by rw [wrap_i64e]; omega]
      refine ⟨fun hb => ?_, fun hb => ?_⟩
      · have hge2 : y - i ≥ 2 := by simp at hb; omega
        rw [show IntKind.i64.wrap ((i : Int) + 1) = ((i + 1 : Nat) : Int) by rw [wrap_i64e]; omega]
        unfold fixUp at fin
        rw [if_pos hge2] at fin
        refine Lp.mk (fun s w' => ∃ (q : Nat) (d' : Array ByteArray), s = (slc b n c, (x : Int), (y : Int), (i : Int), (j : Int), (q : Int)) ∧ SB Value.string e b rest n w' d' ∧ Ch (· = b) w w' ∧ 0 < q ∧ q ≤ y ∧ shiftUp slt y q d' = shiftUp slt y (i + 1) d5) (fun s _ => y - s.2.2.2.2.2.toNat)
          ⟨i + 1, d5, rfl, h5, c5, by omega, by omega, rfl⟩ ?_
        rintro _ w6 ⟨q, d6, rfl, h6, c6, hq0, hq, he6⟩ ag11 hag11
        show slices_partialInsertionSortOrdered_string_b5 R ag1 ag4 ag11 (slc b n c) x y i j q w6
        unfold slices_partialInsertionSortOrdered_string_b5
        have eq1 : IntKind.i64.wrap ((q : Int) - 1) = ((q - 1 : Nat) : Int) := by rw [wrap_i64e]; omega
        rw [shiftUp] at he6
        refine ⟨fun hb => ?_, fun hb => ?_⟩
        · have hlt : q < y := by simp at hb; omega
          rw [if_pos hlt] at he6
          rw [eq1]
          refine s_cmp (lt := slt) q (q - 1) less_string h6 rfl (by omega) rfl (by omega) ?_
          refine ⟨fun hc => ?_, fun hc => ?_⟩
          · rw [if_pos hc] at he6
            exact fin _ (by rw [← he6]; exact h6.drew) (chd c6)
          · rw [if_neg (by simpa using hc)] at he6
            refine s_swp q (q - 1) h6.drew rfl (by omega) rfl (by omega) fun w7 h7 c7 => ?_
            rw [show IntKind.i64.wrap ((q : Int) + 1) = ((q + 1 : Nat) : Int) by rw [wrap_i64e]; omega]
            exact hag11 _ _ ⟨q + 1, _, rfl, h7, (chd c6).trans c7, by omega, by omega, he6⟩ (by dsimp only; omega)
        · have hge3 : ¬ q < y := by simp at hb; omega
          rw [if_neg hge3] at he6
          exact fin _ (by rw [← he6]; exact h6) c6
      · have hlt : ¬ y - i ≥ 2 := by simp at hb; omega
        unfold fixUp at fin
        rw [if_neg hlt] at fin
        exact fin _ h5 c5
    rw [show IntKind.i64.wrap ((i : Int) - (x : Int)) = ((i - x : Nat) : Int) by rw [wrap_i64e]; omega]
    refine ⟨fun hb => ?_, fun hb => ?_⟩
    · have hge2 : i - x ≥ 2 := by simp at hb; omega
      unfold fixDown at up
      rw [if_pos hge2] at up
      refine Lp.mk (fun s w' => ∃ (q : Nat) (d' : Array ByteArray), s = (slc b n c, (x : Int), (y : Int), (i : Int), (j : Int), (q : Int)) ∧ SB Value.string e b rest n w' d' ∧ Ch (· = b) w w' ∧ q < y ∧ shiftDown slt q d' = shiftDown slt (i - 1) d4) (fun s _ => s.2.2.2.2.2.toNat)
        ⟨i - 1, d4, rfl, h4, c4, by omega, rfl⟩ ?_
      rintro _ w6 ⟨q, d6, rfl, h6, c6, hq, he6⟩ ag15 hag15
      show slices_partialInsertionSortOrdered_string_b6 R ag1 ag4 ag15 (slc b n c) x y i j q w6
      unfold slices_partialInsertionSortOrdered_string_b6
      refine ⟨fun hb => ?_, fun hb => ?_⟩
      · obtain ⟨q, rfl⟩ : ∃ u, q = u + 1 := ⟨q - 1, by simp at hb; omega⟩
        rw [show IntKind.i64.wrap (((q + 1 : Nat) : Int) - 1) = (q : Int) by rw [wrap_i64e]; omega]
        rw [shiftDown] at he6
        refine s_cmp (lt := slt) (q + 1) q less_string h6 rfl (by omega) rfl (by omega) ?_
        refine ⟨fun hc => ?_, fun hc => ?_⟩
        · rw [if_pos hc] at he6
          exact up _ (by rw [← he6]; exact h6.drew) (chd c6)
        · rw [if_neg (by simpa using hc)] at he6
          refine s_swp (q + 1) q h6.drew rfl (by omega) rfl (by omega) fun w7 h7 c7 => ?_
          exact hag15 _ _ ⟨q, _, rfl, h7, (chd c6).trans c7, by omega, he6⟩ (by dsimp only; omega)
      · have h0 : q = 0 := by simp at hb; omega
        subst h0
        exact up _ (by rw [← he6]; exact h6) c6
    · have hlt : ¬ i - x ≥ 2 := by simp at hb; omega
      unfold fixDown at up
      rw [if_neg hlt] at up
      exact up _ h4 c4
  refine ⟨fun hb => ?_, fun hb => ?_⟩
  · have hlt : i < y := by simp at hb; omega
    rw [ei]
    refine s_cmp (lt := slt) i (i - 1) less_string h2 rfl (by omega) rfl (by omega) ?_
    cases hc : slt d1[i]! d1[i - 1]! with
    | true => exact step _ h2.drew (chd c2) (scanSorted_stop_string fun _ => hc)
    | false =>
      unfold slices_partialInsertionSortOrdered_string_k3
      refine ⟨fun _ => ?_, fun hc => (by cases hc)⟩
      rw [show IntKind.i64.wrap ((i : Int) + 1) = ((i + 1 : Nat) : Int) by rw [wrap_i64e]; omega]
      exact hag4 _ _ ⟨i + 1, rfl, h2.drew, chd c2, by omega, by omega, by rw [← he]; exact (partialIns_go_string x y t i d1 (scanSorted_go_string hlt hc)).symm⟩ (by dsimp only; omega)
  · have hge : ¬ i < y := by simp at hb; omega
    exact step _ h2.drew (chd c2) (scanSorted_stop_string fun h => absurd h hge)

end Go.Proofs
