/- The sort's walks, at one type: the heap. -/
import Derived.Test.YtnjilbgcflbghaaXF2
import Derived.Test.YtnjilbgcflbghaaXF3
import Derived.Test.YtnjilbgcflbghaaXSort1string
set_option linter.all false
set_option maxHeartbeats 1000000
namespace Go.Proofs
open Go Go.X Go.Sort
variable {b n c : Nat} {e : TypeId} {rest : List Value} {w : World} {d : Array ByteArray} {R : Value → World → Prop}
theorem chd_string {b : Nat} {w w1 : World} (h : Ch (· = b) w w1) : Ch (· = b) w w1.drew := h.trans ((Ch.drew w1).mono fun _ _ h => h.elim)
theorem sift_string (h : SB Value.string e b rest n w d) (hn : n < 4611686018427387904) (root hi first : Nat) (hf : first + hi ≤ n) (hr : root ≤ n) (k : ∀ w', SB Value.string e b rest n w' (siftDown slt hi first root d) → Ch (· = b) w w' → R (.tuple #[]) w') :
    CallF Try.prog 241 #[(slc b n c).v, .int .i64 root, .int .i64 hi, .int .i64 first] w R := by
  refine slices_siftDownOrdered_string_ok R _ _ _ _ w ?_
  unfold slices_siftDownOrdered_string
  refine ⟨fun s w' => ∃ (r : Nat) (d' : Array ByteArray), s = (slc b n c, (hi : Int), (first : Int), (r : Int)) ∧ SB Value.string e b rest n w' d' ∧ Ch (· = b) w w' ∧ r ≤ n ∧ siftDown slt hi first r d' = siftDown slt hi first root d, fun s _ => n - s.2.2.2.toNat,
    ⟨root, d, rfl, h, Ch.refl _ _, hr, rfl⟩, ?_⟩
  rintro _ w1 ⟨r, d1, rfl, h1, c1, hr1, he⟩
  show slices_siftDownOrdered_string_b0 R _ (slc b n c) hi first r w1
  unfold slices_siftDownOrdered_string_b0
  have e1 : IntKind.i64.wrap (IntKind.i64.wrap (2 * (r : Int)) + 1) = ((2 * r + 1 : Nat) : Int) := by simp only [wrap_i64e]; omega
  rw [e1]
  rw [siftDown] at he
  have step : ∀ (ch : Nat) (w2 : World), r < ch → ch < hi → SB Value.string e b rest n w2 d1 → Ch (· = b) w w2 →
      (if !slt d1[first + r]! d1[first + ch]! then d1 else siftDown slt hi first ch (swp d1 (first + r) (first + ch))) = siftDown slt hi first root d →
      slices_siftDownOrdered_string_k1 R (fun s' w' => (∃ (r : Nat) (d' : Array ByteArray), s' = (slc b n c, (hi : Int), (first : Int), (r : Int)) ∧ SB Value.string e b rest n w' d' ∧ Ch (· = b) w w' ∧ r ≤ n ∧ siftDown slt hi first r d' = siftDown slt hi first root d) ∧ n - s'.2.2.2.toNat < n - ((r : Int)).toNat) (slc b n c) hi first r ch w2 := by
    intro ch w2 hrc hch h2 c2 he2
    unfold slices_siftDownOrdered_string_k1
    have e2 : IntKind.i64.wrap ((first : Int) + (r : Int)) = ((first + r : Nat) : Int) := by rw [wrap_i64e]; omega
    have e3 : IntKind.i64.wrap ((first : Int) + (ch : Int)) = ((first + ch : Nat) : Int) := by rw [wrap_i64e]; omega
    rw [e2, e3]
    refine s_cmp (lt := slt) (first + r) (first + ch) less_string h2 rfl (by omega) rfl (by omega) ?_
    refine ⟨fun hc => ?_, fun hc => ?_⟩
    · rw [if_pos hc] at he2
      exact k _ (by rw [← he2]; exact h2.drew) (chd_string c2)
    · rw [if_neg (by simpa using hc)] at he2
      refine s_swp (first + r) (first + ch) h2.drew rfl (by omega) rfl (by omega) fun w3 h3 c3 => ?_
      exact ⟨⟨ch, _, rfl, h3, (chd_string c2).trans c3, by omega, he2⟩, by dsimp only; omega⟩
  refine ⟨fun hb => ?_, fun hb => ?_⟩
  · have hge : 2 * r + 1 ≥ hi := by simp at hb; omega
    rw [dif_pos hge] at he
    exact k w1 (by rw [← he]; exact h1) c1
  · have hlt : ¬ 2 * r + 1 ≥ hi := by simp at hb; omega
    rw [dif_neg hlt] at he
    have e4 : IntKind.i64.wrap (((2 * r + 1 : Nat) : Int) + 1) = ((2 * r + 2 : Nat) : Int) := by rw [wrap_i64e]; omega
    have e5 : IntKind.i64.wrap ((first : Int) + ((2 * r + 1 : Nat) : Int)) = ((first + (2 * r + 1) : Nat) : Int) := by rw [wrap_i64e]; omega
    have e6 : IntKind.i64.wrap (((first + (2 * r + 1) : Nat) : Int) + 1) = ((first + (2 * r + 1) + 1 : Nat) : Int) := by rw [wrap_i64e]; omega
    rw [e4, e5, e6]
    refine ⟨fun hb2 => ?_, fun hb2 => ?_⟩
    · have hlt2 : 2 * r + 1 + 1 < hi := by simp at hb2; omega
      refine s_cmp (lt := slt) (first + (2 * r + 1)) (first + (2 * r + 1) + 1) less_string h1 rfl (by omega) rfl (by omega) ?_
      unfold slices_siftDownOrdered_string_k2
      refine ⟨fun hc => ?_, fun hc => ?_⟩
      · rw [e4]
        rw [if_pos (by simp [hlt2, hc])] at he
        rw [dif_pos (show 2 * r + 2 < hi by omega)] at he
        exact step (2 * r + 2) _ (by omega) (by omega) h1.drew (chd_string c1) he
      · rw [if_neg (by simp [hc])] at he
        exact step (2 * r + 1) _ (by omega) (by omega) h1.drew (chd_string c1) he
    · have hge2 : ¬ 2 * r + 1 + 1 < hi := by simp at hb2; omega
      unfold slices_siftDownOrdered_string_k2
      refine ⟨fun hc => (by cases hc), fun _ => ?_⟩
      rw [if_neg (by simp [hge2])] at he
      exact step (2 * r + 1) _ (by omega) (by omega) h1.drew (chd_string c1) he

theorem heap_string (h : SB Value.string e b rest n w d) (hn : n < 4611686018427387904) (x y : Nat) (hxy : x ≤ y) (hy : y ≤ n) (k : ∀ w', SB Value.string e b rest n w' (heapSort slt d x y) → Ch (· = b) w w' → R (.tuple #[]) w') :
    CallF Try.prog 209 #[(slc b n c).v, .int .i64 x, .int .i64 y] w R := by
  refine slices_heapSortOrdered_string_ok R _ _ _ w ?_
  unfold slices_heapSortOrdered_string
  have e0 : IntKind.i64.wrap ((y : Int) - (x : Int)) = ((y - x : Nat) : Int) := by rw [wrap_i64e]; omega
  have e1 : IntKind.i64.wrap (Int.tdiv (IntKind.i64.wrap (((y - x : Nat) : Int) - 1)) 2) = (((y - x - 1) / 2 + 1 : Nat) : Int) - 1 := by
    rcases Nat.eq_zero_or_pos (y - x) with h0 | h0
    · rw [h0]; rfl
    · rw [show IntKind.i64.wrap (((y - x : Nat) : Int) - 1) = ((y - x - 1 : Nat) : Int) by rw [wrap_i64e]; omega, Int.tdiv_eq_ediv_of_nonneg (by omega), wrap_i64e]; omega
  rw [e0, e1]
  refine ⟨fun s w' => ∃ (i : Nat) (d' : Array ByteArray), s = (slc b n c, (x : Int), (0 : Int), ((y - x : Nat) : Int), (i : Int) - 1) ∧ SB Value.string e b rest n w' d' ∧ Ch (· = b) w w' ∧ i ≤ n + 1 ∧ heapPop slt x (y - x) (heapBuild slt (y - x) x i d') = heapSort slt d x y, fun s _ => (s.2.2.2.2 + 1).toNat,
    ⟨(y - x - 1) / 2 + 1, d, rfl, h, Ch.refl _ _, by omega, rfl⟩, ?_⟩
  rintro _ w1 ⟨i, d1, rfl, h1, c1, hi, he⟩
  show slices_heapSortOrdered_string_b0 R _ (slc b n c) x 0 (y - x : Nat) ((i : Int) - 1) w1
  unfold slices_heapSortOrdered_string_b0
  refine ⟨fun hb => ?_, fun hb => ?_⟩
  · obtain ⟨j, rfl⟩ : ∃ j, i = j + 1 := ⟨i - 1, by simp at hb; omega⟩
    rw [show ((j + 1 : Nat) : Int) - 1 = (j : Int) by omega]
    refine sift_string h1 hn j (y - x) x (by omega) (by omega) fun w2 h2 c2 => ?_
    rw [show IntKind.i64.wrap ((j : Int) - 1) = (j : Int) - 1 by rw [wrap_i64e]; omega]
    exact ⟨⟨j, _, rfl, h2, c1.trans c2, by omega, he⟩, by dsimp only; omega⟩
  · have h0 : i = 0 := by simp at hb; omega
    subst h0
    change heapPop slt x (y - x) d1 = _ at he
    rw [show IntKind.i64.wrap (((y - x : Nat) : Int) - 1) = ((y - x : Nat) : Int) - 1 by rw [wrap_i64e]; omega]
    refine ⟨fun s w' => ∃ (i : Nat) (d' : Array ByteArray), s = (slc b n c, (x : Int), (0 : Int), (i : Int) - 1) ∧ SB Value.string e b rest n w' d' ∧ Ch (· = b) w w' ∧ i ≤ y - x ∧ heapPop slt x i d' = heapSort slt d x y, fun s _ => (s.2.2.2 + 1).toNat,
      ⟨y - x, d1, rfl, h1, c1, Nat.le_refl _, he⟩, ?_⟩
    rintro _ w2 ⟨i, d2, rfl, h2, c2, hi2, he2⟩
    show slices_heapSortOrdered_string_b1 R _ _ (slc b n c) x 0 ((i : Int) - 1) w2
    unfold slices_heapSortOrdered_string_b1
    refine ⟨fun hb => ?_, fun hb => ?_⟩
    · obtain ⟨j, rfl⟩ : ∃ j, i = j + 1 := ⟨i - 1, by simp at hb; omega⟩
      rw [show ((j + 1 : Nat) : Int) - 1 = (j : Int) by omega, show IntKind.i64.wrap ((x : Int) + (j : Int)) = ((x + j : Nat) : Int) by rw [wrap_i64e]; omega]
      refine s_swp x (x + j) h2 rfl (by omega) rfl (by omega) fun w3 h3 c3 => ?_
      refine sift_string h3 hn 0 j x (by omega) (by omega) fun w4 h4 c4 => ?_
      rw [show IntKind.i64.wrap ((j : Int) - 1) = (j : Int) - 1 by rw [wrap_i64e]; omega]
      exact ⟨⟨j, _, rfl, h4, c2.trans (c3.trans c4), by omega, he2⟩, by dsimp only; omega⟩
    · have h0 : i = 0 := by simp at hb; omega
      subst h0
      exact k w2 (by rw [← he2]; exact h2) c2
end Go.Proofs
