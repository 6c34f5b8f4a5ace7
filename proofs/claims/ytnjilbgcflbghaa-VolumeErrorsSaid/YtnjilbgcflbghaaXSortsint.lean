/- Laid by program. -/
import Derived.Test.YtnjilbgcflbghaaXF2
import Derived.Test.YtnjilbgcflbghaaXF3
import Derived.Test.YtnjilbgcflbghaaXF4
import Derived.Test.YtnjilbgcflbghaaXE3
import Derived.Test.YtnjilbgcflbghaaXF1
import Derived.Test.YtnjilbgcflbghaaXBits
import Derived.Test.YtnjilbgcflbghaaXF0
/- The sort's walks, at one type: insertion, heap, reversal. -/
set_option linter.all false
set_option maxHeartbeats 1000000
namespace Go.Proofs
open Go Go.X Go.Sort
theorem less_int (u v : Int) (w : World) (K : Value → World → Prop) (k : K (.bool (ltInt u v)) w) : CallF Try.prog 225 #[(Value.int .i64) u, (Value.int .i64) v] w K := by
  have hn : ∀ (u : Int) (w : World) (K : Value → World → Prop), K (.bool false) w → CallF Try.prog 250 #[(Value.int .i64) u] w K := fun u w K k => by
    refine f250_ok K _ w ?_
    unfold f250
    simpa using k
  refine f225_ok K _ _ w ?_
  unfold f225
  exact hn u w _ ⟨false, rfl, fun h => by simp at h, fun _ => k⟩

variable {b n c : Nat} {e : TypeId} {rest : List Value} {w : World} {d : Array Int} {R : Value → World → Prop}
theorem insertion_int (h : SB (Value.int .i64) e b rest n w d) (hn : n < 4611686018427387904) (x y : Nat) (hxy : x ≤ y) (hy : y ≤ n) (k : ∀ w', SB (Value.int .i64) e b rest n w' (insertionSort ltInt d x y) → Ch (· = b) w w' → R (.tuple #[]) w') :
    CallF Try.prog 219 #[(slc b n c).v, .int .i64 x, .int .i64 y] w R := by
  refine f219_ok R _ _ _ w ?_
  unfold f219
  refine ⟨fun s w' => ∃ (i : Nat) (d' : Array Int), s = (slc b n c, (x : Int), (y : Int), (i : Int)) ∧ SB (Value.int .i64) e b rest n w' d' ∧ Ch (· = b) w w' ∧ x < i ∧ (i ≤ y ∨ i = x + 1) ∧ insOuter ltInt x y i d' = insertionSort ltInt d x y, fun s _ => y - s.2.2.2.toNat,
    ⟨x + 1, d, by rw [show IntKind.i64.wrap ((x : Int) + 1) = ((x + 1 : Nat) : Int) by rw [wrap_i64e]; omega], h, Ch.refl _ _, by omega, .inr rfl, rfl⟩, ?_⟩
  rintro _ w1 ⟨i, d1, rfl, h1, c1, hi, hi2, he⟩
  show f219_b0 R _ (slc b n c) x y i w1
  unfold f219_b0
  refine ⟨fun hb => ?_, fun hb => ?_⟩
  · have hlt : i < y := by simp at hb; omega
    refine ⟨fun s w' => ∃ (j : Nat) (d' : Array Int), s = (slc b n c, (x : Int), (y : Int), (i : Int), (j : Int)) ∧ SB (Value.int .i64) e b rest n w' d' ∧ Ch (· = b) w w' ∧ j ≤ i ∧ insOuter ltInt x y (i + 1) (insInner ltInt x j d') = insertionSort ltInt d x y, fun s _ => s.2.2.2.2.toNat,
      ⟨i, d1, rfl, h1, c1, Nat.le_refl _, by rw [← he]; conv => rhs; rw [insOuter]; simp only [if_pos hlt]⟩, ?_⟩
    rintro _ w2 ⟨j, d2, rfl, h2, c2, hj, he2⟩
    show f219_b1 R _ _ (slc b n c) x y i j w2
    unfold f219_b1
    have hout : ∀ w', SB (Value.int .i64) e b rest n w' d2 → Ch (· = b) w w' → insInner ltInt x j d2 = d2 → (∃ (i' : Nat) (d' : Array Int), (slc b n c, (x : Int), (y : Int), IntKind.i64.wrap ((i : Int) + 1)) = (slc b n c, (x : Int), (y : Int), (i' : Int)) ∧ SB (Value.int .i64) e b rest n w' d' ∧ Ch (· = b) w w' ∧ x < i' ∧ (i' ≤ y ∨ i' = x + 1) ∧ insOuter ltInt x y i' d' = insertionSort ltInt d x y) ∧ y - (IntKind.i64.wrap ((i : Int) + 1)).toNat < y - ((i : Int)).toNat := fun w' h' c' hs => by
      have e1 : IntKind.i64.wrap ((i : Int) + 1) = ((i + 1 : Nat) : Int) := by rw [wrap_i64e]; omega
      rw [e1]
      exact ⟨⟨i + 1, d2, rfl, h', c', by omega, by omega, by rw [← he2, hs]⟩, by omega⟩
    refine ⟨fun hb => ?_, fun hb => ?_⟩
    · have hlt2 : x < j := by simp at hb; omega
      obtain ⟨j', rfl⟩ : ∃ j', j = j' + 1 := ⟨j - 1, by omega⟩
      have ej : IntKind.i64.wrap (((j' + 1 : Nat) : Int) - 1) = (j' : Int) := by rw [wrap_i64e]; omega
      refine s_cmp (lt := ltInt) (j' + 1) j' less_int h2 rfl (by omega) ej (by omega) ?_
      unfold f219_k2
      have hsz := h2.size
      refine ⟨fun hc => ?_, fun hc => ?_⟩
      · refine s_swp (j' + 1) j' h2.drew rfl (by omega) ej (by omega) fun w3 h3 c3 => ?_
        rw [ej]
        exact ⟨⟨j', _, rfl, h3, c2.trans (((Ch.drew w2).mono fun _ _ h => h.elim).trans c3), by omega, by rw [← he2]; conv => rhs; rw [insInner]; simp [hlt2, hc]⟩, by simp⟩
      · exact hout _ h2.drew (c2.trans ((Ch.drew w2).mono fun _ _ h => h.elim)) (by rw [insInner]; simp [hc])
    · unfold f219_k2
      have hge : ¬ x < j := by simp at hb; omega
      refine ⟨fun hc => (by cases hc), fun _ => ?_⟩
      exact hout _ h2.drew (c2.trans ((Ch.drew w2).mono fun _ _ h => h.elim)) (by cases j with | zero => rfl | succ j => rw [insInner]; simp; omega)
  · have hge : ¬ i < y := by simp at hb; omega
    refine k w1 ?_ c1
    rw [← he, insOuter, if_neg hge]; exact h1

theorem reverse_int (h : SB (Value.int .i64) e b rest n w d) (hn : n < 4611686018427387904) (x y : Nat) (hxy : x < y) (hy : y ≤ n) (k : ∀ w', SB (Value.int .i64) e b rest n w' (reverseRange d x y) → Ch (· = b) w w' → R (.tuple #[]) w') :
    CallF Try.prog 223 #[(slc b n c).v, .int .i64 x, .int .i64 y] w R := by
  refine f223_ok R _ _ _ w ?_
  unfold f223
  refine ⟨fun s w' => ∃ (i j : Nat) (d' : Array Int), s = (slc b n c, (i : Int), (j : Int)) ∧ SB (Value.int .i64) e b rest n w' d' ∧ Ch (· = b) w w' ∧ j < n ∧ i ≤ n ∧ reverseLoop i j d' = reverseRange d x y, fun s _ => (s.2.2 - s.2.1).toNat,
    ⟨x, y - 1, d, by rw [show IntKind.i64.wrap ((y : Int) - 1) = ((y - 1 : Nat) : Int) by rw [wrap_i64e]; omega], h, Ch.refl _ _, by omega, by omega, rfl⟩, ?_⟩
  rintro _ w1 ⟨i, j, d1, rfl, h1, c1, hj, hi, he⟩
  show f223_b0 R _ (slc b n c) i j w1
  unfold f223_b0
  refine ⟨fun hb => ?_, fun hb => ?_⟩
  · have hlt : i < j := by simp at hb; omega
    refine s_swp i j h1 rfl (by omega) rfl (by omega) fun w3 h3 c3 => ?_
    have e1 : IntKind.i64.wrap ((i : Int) + 1) = ((i + 1 : Nat) : Int) := by rw [wrap_i64e]; omega
    have e2 : IntKind.i64.wrap ((j : Int) - 1) = ((j - 1 : Nat) : Int) := by rw [wrap_i64e]; omega
    rw [e1, e2]
    exact ⟨⟨i + 1, j - 1, _, rfl, h3, c1.trans c3, by omega, by omega, by rw [← he]; conv => rhs; rw [reverseLoop]; simp only [if_pos hlt]⟩, by dsimp only; omega⟩
  · have hge : ¬ i < j := by simp at hb; omega
    refine k w1 ?_ c1
    rw [← he, reverseLoop, if_neg hge]; exact h1
end Go.Proofs

/- The sort's walks, at one type: the heap. -/
set_option linter.all false
set_option maxHeartbeats 1000000
namespace Go.Proofs
open Go Go.X Go.Sort
variable {b n c : Nat} {e : TypeId} {rest : List Value} {w : World} {d : Array Int} {R : Value → World → Prop}
theorem chd_int {b : Nat} {w w1 : World} (h : Ch (· = b) w w1) : Ch (· = b) w w1.drew := h.trans ((Ch.drew w1).mono fun _ _ h => h.elim)
theorem sift_int (h : SB (Value.int .i64) e b rest n w d) (hn : n < 4611686018427387904) (root hi first : Nat) (hf : first + hi ≤ n) (hr : root ≤ n) (k : ∀ w', SB (Value.int .i64) e b rest n w' (siftDown ltInt hi first root d) → Ch (· = b) w w' → R (.tuple #[]) w') :
    CallF Try.prog 247 #[(slc b n c).v, .int .i64 root, .int .i64 hi, .int .i64 first] w R := by
  refine f247_ok R _ _ _ _ w ?_
  unfold f247
  refine ⟨fun s w' => ∃ (r : Nat) (d' : Array Int), s = (slc b n c, (hi : Int), (first : Int), (r : Int)) ∧ SB (Value.int .i64) e b rest n w' d' ∧ Ch (· = b) w w' ∧ r ≤ n ∧ siftDown ltInt hi first r d' = siftDown ltInt hi first root d, fun s _ => n - s.2.2.2.toNat,
    ⟨root, d, rfl, h, Ch.refl _ _, hr, rfl⟩, ?_⟩
  rintro _ w1 ⟨r, d1, rfl, h1, c1, hr1, he⟩
  show f247_b0 R _ (slc b n c) hi first r w1
  unfold f247_b0
  have e1 : IntKind.i64.wrap (IntKind.i64.wrap (2 * (r : Int)) + 1) = ((2 * r + 1 : Nat) : Int) := by simp only [wrap_i64e]; omega
  rw [e1]
  rw [siftDown] at he
  have step : ∀ (ch : Nat) (w2 : World), r < ch → ch < hi → SB (Value.int .i64) e b rest n w2 d1 → Ch (· = b) w w2 →
      (if !ltInt d1[first + r]! d1[first + ch]! then d1 else siftDown ltInt hi first ch (swp d1 (first + r) (first + ch))) = siftDown ltInt hi first root d →
      f247_k1 R (fun s' w' => (∃ (r : Nat) (d' : Array Int), s' = (slc b n c, (hi : Int), (first : Int), (r : Int)) ∧ SB (Value.int .i64) e b rest n w' d' ∧ Ch (· = b) w w' ∧ r ≤ n ∧ siftDown ltInt hi first r d' = siftDown ltInt hi first root d) ∧ n - s'.2.2.2.toNat < n - ((r : Int)).toNat) (slc b n c) hi first r ch w2 := by
    intro ch w2 hrc hch h2 c2 he2
    unfold f247_k1
    have e2 : IntKind.i64.wrap ((first : Int) + (r : Int)) = ((first + r : Nat) : Int) := by rw [wrap_i64e]; omega
    have e3 : IntKind.i64.wrap ((first : Int) + (ch : Int)) = ((first + ch : Nat) : Int) := by rw [wrap_i64e]; omega
    rw [e2, e3]
    refine s_cmp (lt := ltInt) (first + r) (first + ch) less_int h2 rfl (by omega) rfl (by omega) ?_
    refine ⟨fun hc => ?_, fun hc => ?_⟩
    · rw [if_pos hc] at he2
      exact k _ (by rw [← he2]; exact h2.drew) (chd_int c2)
    · rw [if_neg (by simpa using hc)] at he2
      refine s_swp (first + r) (first + ch) h2.drew rfl (by omega) rfl (by omega) fun w3 h3 c3 => ?_
      exact ⟨⟨ch, _, rfl, h3, (chd_int c2).trans c3, by omega, he2⟩, by dsimp only; omega⟩
  refine ⟨fun hb => ?_, fun hb => ?_⟩
  · have hge : 2 * r + 1 ≥ hi := by simp at hb; omega
    rw [dif_pos hge] at he
    exact k w1 (by rw [← he]; exact h1) c1
  · have hlt : ¬ 2 * r + 1 ≥ hi := by simp at hb; omega
    rw [dif_neg hlt] at he
    have e4 : IntKind.i64.wrap (((2 * r + 1 : Nat) : Int) + 1) = ((2 * r + 2 : Nat) : Int) := by rw [wrap_i64e]; omega
    have e5 : IntKind.i64.wrap ((first : Int) + ((2 * r + 1 : Nat) : Int)) = ((first + (2 * r + 1) : Nat) : Int) := by rw [wrap_i64e]; omega
    have e6 : IntKind.i64.wrap (((first + (2 * r + 1) : Nat) : Int) + 1) = ((first + (2 * r + 1) + 1 : Nat) : Int) := by rw [wrap_i64e]; omega
    rw [e4, e5, e6]
    refine ⟨fun hb2 => ?_, fun hb2 => ?_⟩
    · have hlt2 : 2 * r + 1 + 1 < hi := by simp at hb2; omega
      refine s_cmp (lt := ltInt) (first + (2 * r + 1)) (first + (2 * r + 1) + 1) less_int h1 rfl (by omega) rfl (by omega) ?_
      unfold f247_k2
      refine ⟨fun hc => ?_, fun hc => ?_⟩
      · rw [e4]
        rw [if_pos (by simp [hlt2, hc])] at he
        rw [dif_pos (show 2 * r + 2 < hi by omega)] at he
        exact step (2 * r + 2) _ (by omega) (by omega) h1.drew (chd_int c1) he
      · rw [if_neg (by simp [hc])] at he
        exact step (2 * r + 1) _ (by omega) (by omega) h1.drew (chd_int c1) he
    · have hge2 : ¬ 2 * r + 1 + 1 < hi := by simp at hb2; omega
      unfold f247_k2
      refine ⟨fun hc => (by cases hc), fun _ => ?_⟩
      rw [if_neg (by simp [hge2])] at he
      exact step (2 * r + 1) _ (by omega) (by omega) h1.drew (chd_int c1) he

theorem heap_int (h : SB (Value.int .i64) e b rest n w d) (hn : n < 4611686018427387904) (x y : Nat) (hxy : x ≤ y) (hy : y ≤ n) (k : ∀ w', SB (Value.int .i64) e b rest n w' (heapSort ltInt d x y) → Ch (· = b) w w' → R (.tuple #[]) w') :
    CallF Try.prog 220 #[(slc b n c).v, .int .i64 x, .int .i64 y] w R := by
  refine f220_ok R _ _ _ w ?_
  unfold f220
  have e0 : IntKind.i64.wrap ((y : Int) - (x : Int)) = ((y - x : Nat) : Int) := by rw [wrap_i64e]; omega
  have e1 : IntKind.i64.wrap (Int.tdiv (IntKind.i64.wrap (((y - x : Nat) : Int) - 1)) 2) = (((y - x - 1) / 2 + 1 : Nat) : Int) - 1 := by
    rcases Nat.eq_zero_or_pos (y - x) with h0 | h0
    · rw [h0]; rfl
    · rw [show IntKind.i64.wrap (((y - x : Nat) : Int) - 1) = ((y - x - 1 : Nat) : Int) by rw [wrap_i64e]; omega, Int.tdiv_eq_ediv_of_nonneg (by omega), wrap_i64e]; omega
  rw [e0, e1]
  refine ⟨fun s w' => ∃ (i : Nat) (d' : Array Int), s = (slc b n c, (x : Int), (0 : Int), ((y - x : Nat) : Int), (i : Int) - 1) ∧ SB (Value.int .i64) e b rest n w' d' ∧ Ch (· = b) w w' ∧ i ≤ n + 1 ∧ heapPop ltInt x (y - x) (heapBuild ltInt (y - x) x i d') = heapSort ltInt d x y, fun s _ => (s.2.2.2.2 + 1).toNat,
    ⟨(y - x - 1) / 2 + 1, d, rfl, h, Ch.refl _ _, by omega, rfl⟩, ?_⟩
  rintro _ w1 ⟨i, d1, rfl, h1, c1, hi, he⟩
  show f220_b0 R _ (slc b n c) x 0 (y - x : Nat) ((i : Int) - 1) w1
  unfold f220_b0
  refine ⟨fun hb => ?_, fun hb => ?_⟩
  · obtain ⟨j, rfl⟩ : ∃ j, i = j + 1 := ⟨i - 1, by simp at hb; omega⟩
    rw [show ((j + 1 : Nat) : Int) - 1 = (j : Int) by omega]
    refine sift_int h1 hn j (y - x) x (by omega) (by omega) fun w2 h2 c2 => ?_
    rw [show IntKind.i64.wrap ((j : Int) - 1) = (j : Int) - 1 by rw [wrap_i64e]; omega]
    exact ⟨⟨j, _, rfl, h2, c1.trans c2, by omega, he⟩, by dsimp only; omega⟩
  · have h0 : i = 0 := by simp at hb; omega
    subst h0
    change heapPop ltInt x (y - x) d1 = _ at he
    rw [show IntKind.i64.wrap (((y - x : Nat) : Int) - 1) = ((y - x : Nat) : Int) - 1 by rw [wrap_i64e]; omega]
    refine ⟨fun s w' => ∃ (i : Nat) (d' : Array Int), s = (slc b n c, (x : Int), (0 : Int), (i : Int) - 1) ∧ SB (Value.int .i64) e b rest n w' d' ∧ Ch (· = b) w w' ∧ i ≤ y - x ∧ heapPop ltInt x i d' = heapSort ltInt d x y, fun s _ => (s.2.2.2 + 1).toNat,
      ⟨y - x, d1, rfl, h1, c1, Nat.le_refl _, he⟩, ?_⟩
    rintro _ w2 ⟨i, d2, rfl, h2, c2, hi2, he2⟩
    show f220_b1 R _ _ (slc b n c) x 0 ((i : Int) - 1) w2
    unfold f220_b1
    refine ⟨fun hb => ?_, fun hb => ?_⟩
    · obtain ⟨j, rfl⟩ : ∃ j, i = j + 1 := ⟨i - 1, by simp at hb; omega⟩
      rw [show ((j + 1 : Nat) : Int) - 1 = (j : Int) by omega, show IntKind.i64.wrap ((x : Int) + (j : Int)) = ((x + j : Nat) : Int) by rw [wrap_i64e]; omega]
      refine s_swp x (x + j) h2 rfl (by omega) rfl (by omega) fun w3 h3 c3 => ?_
      refine sift_int h3 hn 0 j x (by omega) (by omega) fun w4 h4 c4 => ?_
      rw [show IntKind.i64.wrap ((j : Int) - 1) = (j : Int) - 1 by rw [wrap_i64e]; omega]
      exact ⟨⟨j, _, rfl, h4, c2.trans (c3.trans c4), by omega, he2⟩, by dsimp only; omega⟩
    · have h0 : i = 0 := by simp at hb; omega
      subst h0
      exact k w2 (by rw [← he2]; exact h2) c2
end Go.Proofs

/- The sort's walks, at one type: the partitions. -/
set_option linter.all false
set_option maxHeartbeats 1000000
namespace Go.Proofs
open Go Go.X Go.Sort
variable {b n c : Nat} {e : TypeId} {rest : List Value} {w : World} {d : Array Int} {R : Value → World → Prop}

theorem partition_int (h : SB (Value.int .i64) e b rest n w d) (hn : n < 4611686018427387904) (x y v : Nat) (hxv : x ≤ v) (hvy : v < y) (hy : y ≤ n)
    (k : ∀ w', SB (Value.int .i64) e b rest n w' (partition ltInt d x y v).2.2 → Ch (· = b) w w' → R (.tuple #[.int .i64 (partition ltInt d x y v).1, .bool (partition ltInt d x y v).2.1]) w') :
    CallF Try.prog 227 #[(slc b n c).v, .int .i64 x, .int .i64 y, .int .i64 v] w R := by
  refine f227_ok R _ _ _ _ w ?_
  unfold f227
  refine s_swp x v h rfl (by omega) rfl (by omega) fun w0 h0 c0 => ?_
  unfold partition at k
  dsimp only at k
  generalize swp d x v = d0 at h0 k
  have ea : IntKind.i64.wrap ((x : Int) + 1) = ((x + 1 : Nat) : Int) := by rw [wrap_i64e]; omega
  have eb : IntKind.i64.wrap ((y : Int) - 1) = ((y - 1 : Nat) : Int) := by rw [wrap_i64e]; omega
  rw [ea, eb]
  -- the first scan upwards
  refine Lp.mk (fun s w' => ∃ (i : Nat), s = (slc b n c, (x : Int), (i : Int), ((y - 1 : Nat) : Int)) ∧ SB (Value.int .i64) e b rest n w' d0 ∧ Ch (· = b) w w' ∧ x < i ∧ i ≤ y ∧ scanUp (fun u => ltInt u d0[x]!) d0 (y - 1) i = scanUp (fun u => ltInt u d0[x]!) d0 (y - 1) (x + 1)) (fun s _ => y - s.2.2.1.toNat)
    ⟨x + 1, rfl, h0, c0, by omega, by omega, rfl⟩ ?_
  rintro _ w1 ⟨i, rfl, h1, c1, hi, hi2, he⟩ ag1 hag1
  show f227_b0 R ag1 (slc b n c) x i (y - 1 : Nat) w1
  unfold f227_b0
  rw [← he] at k
  have next : ∀ (w2 : World), SB (Value.int .i64) e b rest n w2 d0 → Ch (· = b) w w2 → scanUp (fun u => ltInt u d0[x]!) d0 (y - 1) i = i → f227_k1 R ag1 (slc b n c) x i (y - 1 : Nat) false w2 := by
    intro w2 h2 c2 hs
    rw [hs] at k
    unfold f227_k1
    refine ⟨fun hc => (by cases hc), fun _ => ?_⟩
    -- the first scan downwards
    refine Lp.mk (fun s w' => ∃ (j : Nat), s = (slc b n c, (x : Int), (i : Int), (j : Int)) ∧ SB (Value.int .i64) e b rest n w' d0 ∧ Ch (· = b) w w' ∧ j < y ∧ i ≤ j + 1 ∧ scanDown (fun u => !ltInt u d0[x]!) d0 i j = scanDown (fun u => !ltInt u d0[x]!) d0 i (y - 1)) (fun s _ => s.2.2.2.toNat)
      ⟨y - 1, rfl, h2, c2, by omega, by omega, rfl⟩ ?_
    rintro _ w3 ⟨j, rfl, h3, c3, hj, hij, he3⟩ ag2 hag2
    show f227_b2 R ag1 ag2 (slc b n c) x i j w3
    unfold f227_b2
    rw [← he3] at k
    have next2 : ∀ (w4 : World), SB (Value.int .i64) e b rest n w4 d0 → Ch (· = b) w w4 → scanDown (fun u => !ltInt u d0[x]!) d0 i j = j → f227_k3 R ag1 ag2 (slc b n c) x i j false w4 := by
      intro w4 h4 c4 hs4
      rw [hs4] at k
      unfold f227_k3
      refine ⟨fun hc => (by cases hc), fun _ => ⟨fun hb => ?_, fun hb => ?_⟩⟩
      · have hlt : i > j := by simp at hb; omega
        rw [if_pos hlt] at k
        exact s_swp j x h4 rfl (by omega) rfl (by omega) fun w5 h5 c5 => k _ h5 (c4.trans c5)
      · have hge : ¬ i > j := by simp at hb; omega
        rw [if_neg hge] at k
        refine s_swp i j h4 rfl (by omega) rfl (by omega) fun w5 h5 c5 => ?_
        have e1 : IntKind.i64.wrap ((i : Int) + 1) = ((i + 1 : Nat) : Int) := by rw [wrap_i64e]; omega
        have e2 : IntKind.i64.wrap ((j : Int) - 1) = ((j - 1 : Nat) : Int) := by rw [wrap_i64e]; omega
        rw [e1, e2]
        generalize swp d0 i j = d1 at h5 k
        -- the rounds
        refine Lp.mk (fun s w' => ∃ (i' j' : Nat) (d' : Array Int), s = (slc b n c, (x : Int), (i' : Int), (j' : Int)) ∧ SB (Value.int .i64) e b rest n w' d' ∧ Ch (· = b) w w' ∧ x < i' ∧ j' < y ∧ i' ≤ j' + 2 ∧ partLoop ltInt x i' j' d' = partLoop ltInt x (i + 1) (j - 1) d1) (fun s _ => (s.2.2.2 + 1 - s.2.2.1).toNat)
          ⟨i + 1, j - 1, d1, rfl, h5, c4.trans c5, by omega, by omega, by omega, rfl⟩ ?_
        rintro _ w6 ⟨i6, j6, d6, rfl, h6, c6, hi6, hj6, hij6, he6⟩ ag3 hag3
        show f227_b4 R ag1 ag2 ag3 (slc b n c) x i6 j6 w6
        unfold f227_b4
        rw [partLoop_eq] at he6
        refine Lp.mk (fun s w' => ∃ (i : Nat), s = (slc b n c, (x : Int), (i : Int), (j6 : Int)) ∧ SB (Value.int .i64) e b rest n w' d6 ∧ Ch (· = b) w w' ∧ i6 ≤ i ∧ i ≤ j6 + 2 ∧ scanUp (fun u => ltInt u d6[x]!) d6 j6 i = scanUp (fun u => ltInt u d6[x]!) d6 j6 i6) (fun s _ => (j6 + 2 - s.2.2.1).toNat)
          ⟨i6, rfl, h6, c6, by omega, by omega, rfl⟩ ?_
        rintro _ w7 ⟨i7, rfl, h7, c7, hi67, hi72, he7⟩ ag4 hag4
        show f227_b5 R ag1 ag2 ag3 ag4 (slc b n c) x i7 j6 w7
        unfold f227_b5
        rw [← he7] at he6
        have next3 : ∀ (w8 : World), SB (Value.int .i64) e b rest n w8 d6 → Ch (· = b) w w8 → scanUp (fun u => ltInt u d6[x]!) d6 j6 i7 = i7 → f227_k6 R ag1 ag2 ag3 ag4 (slc b n c) x i7 j6 false w8 := by
          intro w8 h8 c8 hs8
          rw [hs8] at he6
          unfold f227_k6
          refine ⟨fun hc => (by cases hc), fun _ => ?_⟩
          refine Lp.mk (fun s w' => ∃ (j : Nat), s = (slc b n c, (x : Int), (i7 : Int), (j : Int)) ∧ SB (Value.int .i64) e b rest n w' d6 ∧ Ch (· = b) w w' ∧ j ≤ j6 ∧ i7 ≤ j + 2 ∧ scanDown (fun u => !ltInt u d6[x]!) d6 i7 j = scanDown (fun u => !ltInt u d6[x]!) d6 i7 j6) (fun s _ => s.2.2.2.toNat)
            ⟨j6, rfl, h8, c8, by omega, by omega, rfl⟩ ?_
          rintro _ w9 ⟨j9, rfl, h9, c9, hj9, hij9, he9⟩ ag5 hag5
          show f227_b7 R ag1 ag2 ag3 ag4 ag5 (slc b n c) x i7 j9 w9
          unfold f227_b7
          rw [← he9] at he6
          have next4 : ∀ (wa : World), SB (Value.int .i64) e b rest n wa d6 → Ch (· = b) w wa → scanDown (fun u => !ltInt u d6[x]!) d6 i7 j9 = j9 → f227_k8 R ag1 ag2 ag3 ag4 ag5 (slc b n c) x i7 j9 false wa := by
            intro wa ha ca hsa
            rw [hsa] at he6
            unfold f227_k8
            refine ⟨fun hc => (by cases hc), fun _ => ⟨fun hb => ?_, fun hb => ?_⟩⟩
            · have hlt : i7 > j9 := by simp at hb; omega
              rw [if_pos hlt] at he6
              rw [← he6] at k
              exact s_swp j9 x ha rfl (by omega) rfl (by omega) fun wb hb cb => k _ hb (ca.trans cb)
            · have hge : ¬ i7 > j9 := by simp at hb; omega
              rw [if_neg hge] at he6
              refine s_swp i7 j9 ha rfl (by omega) rfl (by omega) fun wb hb cb => ?_
              rw [show IntKind.i64.wrap ((i7 : Int) + 1) = ((i7 + 1 : Nat) : Int) by rw [wrap_i64e]; omega, show IntKind.i64.wrap ((j9 : Int) - 1) = ((j9 - 1 : Nat) : Int) by rw [wrap_i64e]; omega]
              exact hag3 _ _ ⟨i7 + 1, j9 - 1, _, rfl, hb, ca.trans cb, by omega, by omega, by omega, he6⟩ (by dsimp only; omega)
          refine ⟨fun hb => ?_, fun hb => ?_⟩
          · have hle : i7 ≤ j9 := by simp at hb; omega
            refine s_cmp (lt := ltInt) j9 x less_int h9 rfl (by omega) rfl (by omega) ?_
            cases hc : ltInt d6[j9]! d6[x]! with
            | true => exact next4 _ h9.drew (chd c9) (scanDown_stop fun _ => by simp [hc])
            | false =>
              unfold f227_k8
              refine ⟨fun _ => ?_, fun hc => (by cases hc)⟩
              rw [show IntKind.i64.wrap ((j9 : Int) - 1) = ((j9 - 1 : Nat) : Int) by rw [wrap_i64e]; omega]
              exact hag5 _ _ ⟨j9 - 1, rfl, h9.drew, chd c9, by omega, by omega, by rw [← he9]; exact (scanDown_go (by omega) hle (by simp [hc])).symm⟩ (by dsimp only; omega)
          · have hle : ¬ i7 ≤ j9 := by simp at hb; omega
            exact next4 _ h9.drew (chd c9) (scanDown_stop fun h => absurd h hle)
        refine ⟨fun hb => ?_, fun hb => ?_⟩
        · have hle : i7 ≤ j6 := by simp at hb; omega
          refine s_cmp (lt := ltInt) i7 x less_int h7 rfl (by omega) rfl (by omega) ?_
          cases hc : ltInt d6[i7]! d6[x]! with
          | false => exact next3 _ h7.drew (chd c7) (scanUp_stop fun _ => hc)
          | true =>
            unfold f227_k6
            refine ⟨fun _ => ?_, fun hc => (by cases hc)⟩
            rw [show IntKind.i64.wrap ((i7 : Int) + 1) = ((i7 + 1 : Nat) : Int) by rw [wrap_i64e]; omega]
            exact hag4 _ _ ⟨i7 + 1, rfl, h7.drew, chd c7, by omega, by omega, by rw [← he7]; exact (scanUp_go hle hc).symm⟩ (by dsimp only; omega)
        · have hle : ¬ i7 ≤ j6 := by simp at hb; omega
          exact next3 _ h7.drew (chd c7) (scanUp_stop fun h => absurd h hle)
    refine ⟨fun hb => ?_, fun hb => ?_⟩
    · have hle : i ≤ j := by simp at hb; omega
      refine s_cmp (lt := ltInt) j x less_int h3 rfl (by omega) rfl (by omega) ?_
      cases hc : ltInt d0[j]! d0[x]! with
      | true => exact next2 _ h3.drew (chd c3) (scanDown_stop fun _ => by simp [hc])
      | false =>
        unfold f227_k3
        refine ⟨fun _ => ?_, fun hc => (by cases hc)⟩
        rw [show IntKind.i64.wrap ((j : Int) - 1) = ((j - 1 : Nat) : Int) by rw [wrap_i64e]; omega]
        exact hag2 _ _ ⟨j - 1, rfl, h3.drew, chd c3, by omega, by omega, by rw [← he3]; exact (scanDown_go (by omega) hle (by simp [hc])).symm⟩ (by dsimp only; omega)
    · have hle : ¬ i ≤ j := by simp at hb; omega
      exact next2 _ h3.drew (chd c3) (scanDown_stop fun h => absurd h hle)
  refine ⟨fun hb => ?_, fun hb => ?_⟩
  · have hle : i ≤ y - 1 := by simp at hb; omega
    refine s_cmp (lt := ltInt) i x less_int h1 rfl (by omega) rfl (by omega) ?_
    cases hc : ltInt d0[i]! d0[x]! with
    | false => exact next _ h1.drew (chd c1) (scanUp_stop fun _ => hc)
    | true =>
      unfold f227_k1
      refine ⟨fun _ => ?_, fun hc => (by cases hc)⟩
      rw [show IntKind.i64.wrap ((i : Int) + 1) = ((i + 1 : Nat) : Int) by rw [wrap_i64e]; omega]
      exact hag1 _ _ ⟨i + 1, rfl, h1.drew, chd c1, by omega, by omega, by rw [← he]; exact (scanUp_go hle hc).symm⟩ (by dsimp only; omega)
  · have hle : ¬ i ≤ y - 1 := by simp at hb; omega
    exact next _ h1.drew (chd c1) (scanUp_stop fun h => absurd h hle)

theorem partitionEqual_int (h : SB (Value.int .i64) e b rest n w d) (hn : n < 4611686018427387904) (x y v : Nat) (hxv : x ≤ v) (hvy : v < y) (hy : y ≤ n)
    (k : ∀ w', SB (Value.int .i64) e b rest n w' (partitionEqual ltInt d x y v).2 → Ch (· = b) w w' → R (.int .i64 (partitionEqual ltInt d x y v).1) w') :
    CallF Try.prog 226 #[(slc b n c).v, .int .i64 x, .int .i64 y, .int .i64 v] w R := by
  refine f226_ok R _ _ _ _ w ?_
  unfold f226
  refine s_swp x v h rfl (by omega) rfl (by omega) fun w0 h0 c0 => ?_
  unfold partitionEqual at k
  generalize swp d x v = d0 at h0 k
  have ea : IntKind.i64.wrap ((x : Int) + 1) = ((x + 1 : Nat) : Int) := by rw [wrap_i64e]; omega
  have eb : IntKind.i64.wrap ((y : Int) - 1) = ((y - 1 : Nat) : Int) := by rw [wrap_i64e]; omega
  rw [ea, eb]
  refine Lp.mk (fun s w' => ∃ (i' j' : Nat) (d' : Array Int), s = (slc b n c, (x : Int), (i' : Int), (j' : Int)) ∧ SB (Value.int .i64) e b rest n w' d' ∧ Ch (· = b) w w' ∧ x < i' ∧ j' < y ∧ i' ≤ j' + 2 ∧ partEqLoop ltInt x i' j' d' = partEqLoop ltInt x (x + 1) (y - 1) d0) (fun s _ => (s.2.2.2 + 1 - s.2.2.1).toNat)
    ⟨x + 1, y - 1, d0, rfl, h0, c0, by omega, by omega, by omega, rfl⟩ ?_
  rintro _ w6 ⟨i6, j6, d6, rfl, h6, c6, hi6, hj6, hij6, he6⟩ ag3 hag3
  show f226_b0 R ag3 (slc b n c) x i6 j6 w6
  unfold f226_b0
  rw [partEqLoop_eq] at he6
  refine Lp.mk (fun s w' => ∃ (i : Nat), s = (slc b n c, (x : Int), (i : Int), (j6 : Int)) ∧ SB (Value.int .i64) e b rest n w' d6 ∧ Ch (· = b) w w' ∧ i6 ≤ i ∧ i ≤ j6 + 2 ∧ scanUp (fun u => !ltInt d6[x]! u) d6 j6 i = scanUp (fun u => !ltInt d6[x]! u) d6 j6 i6) (fun s _ => (j6 + 2 - s.2.2.1).toNat)
    ⟨i6, rfl, h6, c6, by omega, by omega, rfl⟩ ?_
  rintro _ w7 ⟨i7, rfl, h7, c7, hi67, hi72, he7⟩ ag4 hag4
  show f226_b1 R ag3 ag4 (slc b n c) x i7 j6 w7
  unfold f226_b1
  rw [← he7] at he6
  have next3 : ∀ (w8 : World), SB (Value.int .i64) e b rest n w8 d6 → Ch (· = b) w w8 → scanUp (fun u => !ltInt d6[x]! u) d6 j6 i7 = i7 → f226_k2 R ag3 ag4 (slc b n c) x i7 j6 false w8 := by
    intro w8 h8 c8 hs8
    rw [hs8] at he6
    unfold f226_k2
    refine ⟨fun hc => (by cases hc), fun _ => ?_⟩
    refine Lp.mk (fun s w' => ∃ (j : Nat), s = (slc b n c, (x : Int), (i7 : Int), (j : Int)) ∧ SB (Value.int .i64) e b rest n w' d6 ∧ Ch (· = b) w w' ∧ j ≤ j6 ∧ i7 ≤ j + 2 ∧ scanDown (fun u => ltInt d6[x]! u) d6 i7 j = scanDown (fun u => ltInt d6[x]! u) d6 i7 j6) (fun s _ => s.2.2.2.toNat)
      ⟨j6, rfl, h8, c8, by omega, by omega, rfl⟩ ?_
    rintro _ w9 ⟨j9, rfl, h9, c9, hj9, hij9, he9⟩ ag5 hag5
    show f226_b3 R ag3 ag4 ag5 (slc b n c) x i7 j9 w9
    unfold f226_b3
    rw [← he9] at he6
    have next4 : ∀ (wa : World), SB (Value.int .i64) e b rest n wa d6 → Ch (· = b) w wa → scanDown (fun u => ltInt d6[x]! u) d6 i7 j9 = j9 → f226_k4 R ag3 ag4 ag5 (slc b n c) x i7 j9 false wa := by
      intro wa ha ca hsa
      rw [hsa] at he6
      unfold f226_k4
      refine ⟨fun hc => (by cases hc), fun _ => ⟨fun hb => ?_, fun hb => ?_⟩⟩
      · have hlt : i7 > j9 := by simp at hb; omega
        rw [if_pos hlt] at he6
        rw [← he6] at k
        exact k _ ha ca
      · have hge : ¬ i7 > j9 := by simp at hb; omega
        rw [if_neg hge] at he6
        refine s_swp i7 j9 ha rfl (by omega) rfl (by omega) fun wb hb cb => ?_
        rw [show IntKind.i64.wrap ((i7 : Int) + 1) = ((i7 + 1 : Nat) : Int) by rw [wrap_i64e]; omega, show IntKind.i64.wrap ((j9 : Int) - 1) = ((j9 - 1 : Nat) : Int) by rw [wrap_i64e]; omega]
        exact hag3 _ _ ⟨i7 + 1, j9 - 1, _, rfl, hb, ca.trans cb, by omega, by omega, by omega, he6⟩ (by dsimp only; omega)
    refine ⟨fun hb => ?_, fun hb => ?_⟩
    · have hle : i7 ≤ j9 := by simp at hb; omega
      refine s_cmp (lt := ltInt) x j9 less_int h9 rfl (by omega) rfl (by omega) ?_
      cases hc : ltInt d6[x]! d6[j9]! with
      | false => exact next4 _ h9.drew (chd c9) (scanDown_stop fun _ => hc)
      | true =>
        unfold f226_k4
        refine ⟨fun _ => ?_, fun hc => (by cases hc)⟩
        rw [show IntKind.i64.wrap ((j9 : Int) - 1) = ((j9 - 1 : Nat) : Int) by rw [wrap_i64e]; omega]
        exact hag5 _ _ ⟨j9 - 1, rfl, h9.drew, chd c9, by omega, by omega, by rw [← he9]; exact (scanDown_go (by omega) hle hc).symm⟩ (by dsimp only; omega)
    · have hle : ¬ i7 ≤ j9 := by simp at hb; omega
      exact next4 _ h9.drew (chd c9) (scanDown_stop fun h => absurd h hle)
  refine ⟨fun hb => ?_, fun hb => ?_⟩
  · have hle : i7 ≤ j6 := by simp at hb; omega
    refine s_cmp (lt := ltInt) x i7 less_int h7 rfl (by omega) rfl (by omega) ?_
    cases hc : ltInt d6[x]! d6[i7]! with
    | true => exact next3 _ h7.drew (chd c7) (scanUp_stop fun _ => by simp [hc])
    | false =>
      unfold f226_k2
      refine ⟨fun _ => ?_, fun hc => (by cases hc)⟩
      rw [show IntKind.i64.wrap ((i7 : Int) + 1) = ((i7 + 1 : Nat) : Int) by rw [wrap_i64e]; omega]
      exact hag4 _ _ ⟨i7 + 1, rfl, h7.drew, chd c7, by omega, by omega, by rw [← he7]; exact (scanUp_go hle (by simp [hc])).symm⟩ (by dsimp only; omega)
  · have hle : ¬ i7 ≤ j6 := by simp at hb; omega
    exact next3 _ h7.drew (chd c7) (scanUp_stop fun h => absurd h hle)
end Go.Proofs

/- The sort's walks, at one type: insertion in part, the pivot. -/
set_option linter.all false
set_option maxHeartbeats 1000000
namespace Go.Proofs
open Go Go.X Go.Sort
variable {b n c : Nat} {e : TypeId} {rest : List Value} {w : World} {d : Array Int} {R : Value → World → Prop}

theorem scanSorted_stop_int {d : Array Int} {y i : Nat} (h : i < y → ltInt d[i]! d[i - 1]! = true) : scanSorted ltInt d y i = i := by
  rw [scanSorted, if_neg (by simp only [Bool.and_eq_true, decide_eq_true_eq, not_and, Bool.not_eq_true, Bool.not_eq_false']; exact h)]
theorem scanSorted_go_int {d : Array Int} {y i : Nat} (h1 : i < y) (h2 : ltInt d[i]! d[i - 1]! = false) : scanSorted ltInt d y i = scanSorted ltInt d y (i + 1) := by
  conv => lhs; rw [scanSorted, if_pos (by simp [h1, h2])]
theorem partialIns_at_int (x y s i : Nat) (d : Array Int) (h : scanSorted ltInt d y i = i) : partialIns ltInt x y (s + 1) i d =
    if i = y then (d, true) else if y - x < 50 then (d, false) else
      partialIns ltInt x y s i (fixUp ltInt y i (fixDown ltInt x i (swp d i (i - 1)))) := by
  rw [partialIns_succ, h]
theorem partialIns_go_int (x y s i : Nat) (d : Array Int) (h : scanSorted ltInt d y i = scanSorted ltInt d y (i + 1)) : partialIns ltInt x y (s + 1) i d = partialIns ltInt x y (s + 1) (i + 1) d := by
  rw [partialIns_succ, partialIns_succ, h]

theorem partialIns_int (h : SB (Value.int .i64) e b rest n w d) (hn : n < 4611686018427387904) (x y : Nat) (hxy : x < y) (hy : y ≤ n)
    (k : ∀ w', SB (Value.int .i64) e b rest n w' (partialInsertionSort ltInt d x y).1 → Ch (· = b) w w' → R (.bool (partialInsertionSort ltInt d x y).2) w') :
    CallF Try.prog 224 #[(slc b n c).v, .int .i64 x, .int .i64 y] w R := by
  refine f224_ok R _ _ _ w ?_
  unfold f224
  rw [show IntKind.i64.wrap ((x : Int) + 1) = ((x + 1 : Nat) : Int) by rw [wrap_i64e]; omega]
  refine Lp.mk (fun s w' => ∃ (i j t : Nat) (d' : Array Int), s = (slc b n c, (x : Int), (y : Int), (i : Int), (j : Int)) ∧ j + t = 5 ∧ SB (Value.int .i64) e b rest n w' d' ∧ Ch (· = b) w w' ∧ x < i ∧ i ≤ y ∧ partialIns ltInt x y t i d' = partialInsertionSort ltInt d x y) (fun s _ => 5 - s.2.2.2.2.toNat)
    ⟨x + 1, 0, 5, d, rfl, rfl, h, Ch.refl _ _, by omega, by omega, rfl⟩ ?_
  rintro _ w1 ⟨i, j, t, d1, rfl, hjt, h1, c1, hi, hiy, he⟩ ag1 hag1
  show f224_b0 R ag1 (slc b n c) x y i j w1
  unfold f224_b0
  refine ⟨fun hb => ?_, fun hb => ?_⟩
  case refine_2 =>
    have ht : t = 0 := by simp at hb; omega
    subst ht
    change (d1, false) = _ at he
    rw [← he] at k
    exact k w1 h1 c1
  obtain ⟨t, rfl⟩ : ∃ u, t = u + 1 := ⟨t - 1, by simp at hb; omega⟩
  refine Lp.mk (fun s w' => ∃ (i : Nat), s = (slc b n c, (x : Int), (y : Int), (i : Int), (j : Int)) ∧ SB (Value.int .i64) e b rest n w' d1 ∧ Ch (· = b) w w' ∧ x < i ∧ i ≤ y ∧ partialIns ltInt x y (t + 1) i d1 = partialInsertionSort ltInt d x y) (fun s _ => y - s.2.2.2.1.toNat)
    ⟨i, rfl, h1, c1, hi, hiy, he⟩ ?_
  rintro _ w2 ⟨i, rfl, h2, c2, hi, hiy, he⟩ ag4 hag4
  show f224_b2 R ag1 ag4 (slc b n c) x y i j w2
  unfold f224_b2
  have ei : IntKind.i64.wrap ((i : Int) - 1) = ((i - 1 : Nat) : Int) := by rw [wrap_i64e]; omega
  have step : ∀ w3, SB (Value.int .i64) e b rest n w3 d1 → Ch (· = b) w w3 → scanSorted ltInt d1 y i = i → f224_k3 R ag1 ag4 (slc b n c) x y i j false w3 := by
    intro w3 h3 c3 hs
    rw [partialIns_at_int x y t i d1 hs] at he
    unfold f224_k3
    refine ⟨fun hc => (by cases hc), fun _ => ⟨fun hb => ?_, fun hb => ?_⟩⟩
    · have hlt : i = y := by simp at hb; omega
      rw [if_pos hlt] at he
      rw [← he] at k
      exact k w3 h3 c3
    have hne : ¬ i = y := by simp at hb; omega
    rw [if_neg hne] at he
    rw [show IntKind.i64.wrap ((y : Int) - (x : Int)) = ((y - x : Nat) : Int) by rw [wrap_i64e]; omega]
    refine ⟨fun hb => ?_, fun hb => ?_⟩
    · have hlt : y - x < 50 := by simp at hb; omega
      rw [if_pos hlt] at he
      rw [← he] at k
      exact k w3 h3 c3
    have hge : ¬ y - x < 50 := by simp at hb; omega
    rw [if_neg hge] at he
    rw [ei]
    refine s_swp i (i - 1) h3 rfl (by omega) rfl (by omega) fun w4 h4 c4 => ?_
    have c4 := c3.trans c4
    generalize swp d1 i (i - 1) = d4 at h4 he
    have up : ∀ (w5 : World), SB (Value.int .i64) e b rest n w5 (fixDown ltInt x i d4) → Ch (· = b) w w5 → f224_k4 R ag1 ag4 (slc b n c) x y i j w5 := by
      intro w5 h5 c5
      generalize fixDown ltInt x i d4 = d5 at h5 he
      have fin : ∀ (w6 : World), SB (Value.int .i64) e b rest n w6 (fixUp ltInt y i d5) → Ch (· = b) w w6 → f224_k1 R ag1 (slc b n c) x y i j w6 := by
        intro w6 h6 c6
        unfold f224_k1
        rw [show IntKind.i64.wrap ((j : Int) + 1) = ((j + 1 : Nat) : Int) by rw [wrap_i64e]; omega]
        exact hag1 _ _ ⟨i, j + 1, t, _, rfl, by omega, h6, c6, hi, hiy, he⟩ (by dsimp only; omega)
      unfold f224_k4
      rw [show IntKind.i64.wrap ((y : Int) - (i : Int)) = ((y - i : Nat) : Int) by rw [wrap_i64e]; omega]
      refine ⟨fun hb => ?_, fun hb => ?_⟩
      · have hge2 : y - i ≥ 2 := by simp at hb; omega
        rw [show IntKind.i64.wrap ((i : Int) + 1) = ((i + 1 : Nat) : Int) by rw [wrap_i64e]; omega]
        unfold fixUp at fin
        rw [if_pos hge2] at fin
        refine Lp.mk (fun s w' => ∃ (q : Nat) (d' : Array Int), s = (slc b n c, (x : Int), (y : Int), (i : Int), (j : Int), (q : Int)) ∧ SB (Value.int .i64) e b rest n w' d' ∧ Ch (· = b) w w' ∧ 0 < q ∧ q ≤ y ∧ shiftUp ltInt y q d' = shiftUp ltInt y (i + 1) d5) (fun s _ => y - s.2.2.2.2.2.toNat)
          ⟨i + 1, d5, rfl, h5, c5, by omega, by omega, rfl⟩ ?_
        rintro _ w6 ⟨q, d6, rfl, h6, c6, hq0, hq, he6⟩ ag11 hag11
        show f224_b5 R ag1 ag4 ag11 (slc b n c) x y i j q w6
        unfold f224_b5
        have eq1 : IntKind.i64.wrap ((q : Int) - 1) = ((q - 1 : Nat) : Int) := by rw [wrap_i64e]; omega
        rw [shiftUp] at he6
        refine ⟨fun hb => ?_, fun hb => ?_⟩
        · have hlt : q < y := by simp at hb; omega
          rw [if_pos hlt] at he6
          rw [eq1]
          refine s_cmp (lt := ltInt) q (q - 1) less_int h6 rfl (by omega) rfl (by omega) ?_
          refine ⟨fun hc => ?_, fun hc => ?_⟩
          · rw [if_pos hc] at he6
            exact fin _ (by rw [← he6]; exact h6.drew) (chd c6)
          · rw [if_neg (by simpa using hc)] at he6
            refine s_swp q (q - 1) h6.drew rfl (by omega) rfl (by omega) fun w7 h7 c7 => ?_
            rw [show IntKind.i64.wrap ((q : Int) + 1) = ((q + 1 : Nat) : Int) by rw [wrap_i64e]; omega]
            exact hag11 _ _ ⟨q + 1, _, rfl, h7, (chd c6).trans c7, by omega, by omega, he6⟩ (by dsimp only; omega)
        · have hge3 : ¬ q < y := by simp at hb; omega
          rw [if_neg hge3] at he6
          exact fin _ (by rw [← he6]; exact h6) c6
      · have hlt : ¬ y - i ≥ 2 := by simp at hb; omega
        unfold fixUp at fin
        rw [if_neg hlt] at fin
        exact fin _ h5 c5
    rw [show IntKind.i64.wrap ((i : Int) - (x : Int)) = ((i - x : Nat) : Int) by rw [wrap_i64e]; omega]
    refine ⟨fun hb => ?_, fun hb => ?_⟩
    · have hge2 : i - x ≥ 2 := by simp at hb; omega
      unfold fixDown at up
      rw [if_pos hge2] at up
      refine Lp.mk (fun s w' => ∃ (q : Nat) (d' : Array Int), s = (slc b n c, (x : Int), (y : Int), (i : Int), (j : Int), (q : Int)) ∧ SB (Value.int .i64) e b rest n w' d' ∧ Ch (· = b) w w' ∧ q < y ∧ shiftDown ltInt q d' = shiftDown ltInt (i - 1) d4) (fun s _ => s.2.2.2.2.2.toNat)
        ⟨i - 1, d4, rfl, h4, c4, by omega, rfl⟩ ?_
      rintro _ w6 ⟨q, d6, rfl, h6, c6, hq, he6⟩ ag15 hag15
      show f224_b6 R ag1 ag4 ag15 (slc b n c) x y i j q w6
      unfold f224_b6
      refine ⟨fun hb => ?_, fun hb => ?_⟩
      · obtain ⟨q, rfl⟩ : ∃ u, q = u + 1 := ⟨q - 1, by simp at hb; omega⟩
        rw [show IntKind.i64.wrap (((q + 1 : Nat) : Int) - 1) = (q : Int) by rw [wrap_i64e]; omega]
        rw [shiftDown] at he6
        refine s_cmp (lt := ltInt) (q + 1) q less_int h6 rfl (by omega) rfl (by omega) ?_
        refine ⟨fun hc => ?_, fun hc => ?_⟩
        · rw [if_pos hc] at he6
          exact up _ (by rw [← he6]; exact h6.drew) (chd c6)
        · rw [if_neg (by simpa using hc)] at he6
          refine s_swp (q + 1) q h6.drew rfl (by omega) rfl (by omega) fun w7 h7 c7 => ?_
          exact hag15 _ _ ⟨q, _, rfl, h7, (chd c6).trans c7, by omega, he6⟩ (by dsimp only; omega)
      · have h0 : q = 0 := by simp at hb; omega
        subst h0
        exact up _ (by rw [← he6]; exact h6) c6
    · have hlt : ¬ i - x ≥ 2 := by simp at hb; omega
      unfold fixDown at up
      rw [if_neg hlt] at up
      exact up _ h4 c4
  refine ⟨fun hb => ?_, fun hb => ?_⟩
  · have hlt : i < y := by simp at hb; omega
    rw [ei]
    refine s_cmp (lt := ltInt) i (i - 1) less_int h2 rfl (by omega) rfl (by omega) ?_
    cases hc : ltInt d1[i]! d1[i - 1]! with
    | true => exact step _ h2.drew (chd c2) (scanSorted_stop_int fun _ => hc)
    | false =>
      unfold f224_k3
      refine ⟨fun _ => ?_, fun hc => (by cases hc)⟩
      rw [show IntKind.i64.wrap ((i : Int) + 1) = ((i + 1 : Nat) : Int) by rw [wrap_i64e]; omega]
      exact hag4 _ _ ⟨i + 1, rfl, h2.drew, chd c2, by omega, by omega, by rw [← he]; exact (partialIns_go_int x y t i d1 (scanSorted_go_int hlt hc)).symm⟩ (by dsimp only; omega)
  · have hge : ¬ i < y := by simp at hb; omega
    exact step _ h2.drew (chd c2) (scanSorted_stop_int fun h => absurd h hge)

end Go.Proofs

/- The sort's walks, at one type: insertion in part, the pivot. -/
set_option linter.all false
set_option maxHeartbeats 1000000
namespace Go.Proofs
open Go Go.X Go.Sort
variable {b n c : Nat} {e : TypeId} {rest : List Value} {w : World} {d : Array Int} {R : Value → World → Prop}

/-! ## The pivot: it lies in range -/
/-- The count of exchanges lies in a block of its own. -/
def Cnt_int (w : World) (p : Nat) : Prop := ∃ m : Int, Blk w p #[.int .i64 m] 3
theorem order2_int {p : Nat} (h : SB (Value.int .i64) e b rest n w d) (hp : Cnt_int w p) (x y : Nat) (hx : x < n) (hy : y < n)
    (k : ∀ (u v : Nat) w', (u = x ∧ v = y ∨ u = y ∧ v = x) → Cnt_int w' p → Ch (· = p) w w' → R (.tuple #[.int .i64 u, .int .i64 v]) w') :
    CallF Try.prog 257 #[(slc b n c).v, .int .i64 x, .int .i64 y, .pointer (some ⟨p, 0, none⟩)] w R := by
  refine f257_ok R _ _ _ _ w ?_
  unfold f257
  refine s_cmp (lt := ltInt) y x less_int h rfl (by omega) rfl (by omega) ?_
  obtain ⟨m, hp⟩ := hp
  have hp' := hp.ext (Ch.drew w)
  have cd : Ch (· = p) w w.drew := (Ch.drew w).mono fun _ _ h => h.elim
  refine ⟨fun _ => ⟨_, rfl, Ld.blk hp' rfl ⟨_, rfl, St.blk hp' (by simp) fun w2 h2 c2 => k y x w2 (.inr ⟨rfl, rfl⟩) ⟨_, h2⟩ (cd.trans c2)⟩⟩, fun _ => k x y _ (.inl ⟨rfl, rfl⟩) ⟨m, hp'⟩ cd⟩
theorem median_int {p : Nat} (h : SB (Value.int .i64) e b rest n w d) (hp : Cnt_int w p) (hpb : p ≠ b) (x y z : Nat) (hx : x < n) (hy : y < n) (hz : z < n)
    (k : ∀ (u : Nat) w', (u = x ∨ u = y ∨ u = z) → Cnt_int w' p → Ch (· = p) w w' → R (.int .i64 u) w') :
    CallF Try.prog 249 #[(slc b n c).v, .int .i64 x, .int .i64 y, .int .i64 z, .pointer (some ⟨p, 0, none⟩)] w R := by
  refine f249_ok R _ _ _ _ _ w ?_
  unfold f249
  refine order2_int h hp x y hx hy fun u1 v1 w1 e1 hp1 c1 => ⟨_, _, rfl, ?_⟩
  have h1 := h.ch c1 hpb.symm
  refine order2_int h1 hp1 v1 z (by omega) hz fun u2 v2 w2 e2 hp2 c2 => ⟨_, _, rfl, ?_⟩
  have h2 := h1.ch c2 hpb.symm
  refine order2_int h2 hp2 u1 u2 (by omega) (by omega) fun u3 v3 w3 e3 hp3 c3 => ⟨_, _, rfl, ?_⟩
  exact k v3 w3 (by omega) hp3 (c1.trans (c2.trans c3))
theorem medianAdjacent_int {p : Nat} (h : SB (Value.int .i64) e b rest n w d) (hn : n < 4611686018427387904) (hp : Cnt_int w p) (hpb : p ≠ b) (x : Nat) (hx : 0 < x) (hy : x + 1 < n)
    (k : ∀ (u : Nat) w', (x ≤ u + 1 ∧ u ≤ x + 1) → Cnt_int w' p → Ch (· = p) w w' → R (.int .i64 u) w') :
    CallF Try.prog 248 #[(slc b n c).v, .int .i64 x, .pointer (some ⟨p, 0, none⟩)] w R := by
  refine f248_ok R _ _ _ w ?_
  unfold f248
  rw [show IntKind.i64.wrap ((x : Int) + 1) = ((x + 1 : Nat) : Int) by rw [wrap_i64e]; omega, show IntKind.i64.wrap ((x : Int) - 1) = ((x - 1 : Nat) : Int) by rw [wrap_i64e]; omega]
  exact median_int h hp hpb (x - 1) x (x + 1) (by omega) (by omega) (by omega) fun u w' hu hp' c' => ⟨_, rfl, k u w' (by omega) hp' c'⟩
theorem choosePivot_int (h : SB (Value.int .i64) e b rest n w d) (hn : n < 4611686018427387904) (x y : Nat) (hxy : x < y) (hy : y ≤ n)
    (k : ∀ (u : Nat) (hint : Int) w', x ≤ u → u < y → Ext w w' → R (.tuple #[.int .i64 u, .int .i64 hint]) w') :
    CallF Try.prog 222 #[(slc b n c).v, .int .i64 x, .int .i64 y] w R := by
  refine f222_ok R _ _ _ w ?_
  unfold f222
  refine New.mk fun p w1 hp hs hb1 hext => ?_
  have hbl : b < w.heap.size := h.1.lt
  have h1 := h.ext hext
  have hpb : p ≠ b := by omega
  have cnt1 : Cnt_int w1 p := ⟨0, hb1⟩
  have back : ∀ w', Ch (· = p) w1 w' → Ext w w' := fun w' c' => hext.step c' (fun _ _ h => h) (fun i hi h => by omega)
  have fin : ∀ (u : Nat) w', x ≤ u → u < y → Cnt_int w' p → Ch (· = p) w1 w' → f222_k0 R (some ⟨p, 0, none⟩) u w' := by
    intro u w' hu1 hu2 hc c'
    obtain ⟨m, hc⟩ := hc
    unfold f222_k0
    refine Ld.blk (x := m) hc rfl ⟨fun _ => k u 1 w' hu1 hu2 (back w' c'), fun _ => ⟨fun _ => k u 2 w' hu1 hu2 (back w' c'), fun _ => k u 0 w' hu1 hu2 (back w' c')⟩⟩
  have med : ∀ (u v z : Nat) w', x ≤ u → u < y → x ≤ v → v < y → x ≤ z → z < y → Cnt_int w' p → Ch (· = p) w1 w' → f222_k1 R (slc b n c) (some ⟨p, 0, none⟩) u v z w' := by
    intro u v z w' hu1 hu2 hv1 hv2 hz1 hz2 hc c'
    unfold f222_k1
    exact median_int (h1.ch c' hpb.symm) hc hpb u v z (by omega) (by omega) (by omega) fun r w'' hr hc' c'' => ⟨_, rfl, fin r w'' (by omega) (by omega) hc' (c'.trans c'')⟩
  have el : IntKind.i64.wrap ((y : Int) - (x : Int)) = ((y - x : Nat) : Int) := by rw [wrap_i64e]; omega
  rw [el]
  obtain ⟨q, hq⟩ : ∃ q, q = (y - x) / 4 := ⟨_, rfl⟩
  have hq4 : 4 * q ≤ y - x := by omega
  have et : Int.tdiv ((y - x : Nat) : Int) 4 = (q : Int) := by rw [Int.tdiv_eq_ediv_of_nonneg (by omega)]; omega
  rw [et]
  have e0 : ∀ z : Int, 0 ≤ z → z ≤ 4611686018427387904 * 2 - 1 → IntKind.i64.wrap z = z := fun z h1 h2 => by rw [wrap_i64e]; omega
  have e1 : IntKind.i64.wrap ((x : Int) + IntKind.i64.wrap (IntKind.i64.wrap (q : Int) * 1)) = ((x + q * 1 : Nat) : Int) := by
    rw [e0 (q : Int) (by omega) (by omega), e0 ((q : Int) * 1) (by omega) (by omega), e0 _ (by omega) (by omega)]; omega
  have e2 : IntKind.i64.wrap ((x : Int) + IntKind.i64.wrap (IntKind.i64.wrap (q : Int) * 2)) = ((x + q * 2 : Nat) : Int) := by
    rw [e0 (q : Int) (by omega) (by omega), e0 ((q : Int) * 2) (by omega) (by omega), e0 _ (by omega) (by omega)]; omega
  have e3 : IntKind.i64.wrap ((x : Int) + IntKind.i64.wrap (IntKind.i64.wrap (q : Int) * 3)) = ((x + q * 3 : Nat) : Int) := by
    rw [e0 (q : Int) (by omega) (by omega), e0 ((q : Int) * 3) (by omega) (by omega), e0 _ (by omega) (by omega)]; omega
  rw [e1, e2, e3]
  refine ⟨fun hb => ?_, fun hb => ?_⟩
  · have h8 : 8 ≤ y - x := by simp at hb; omega
    refine ⟨fun hb => ?_, fun hb => ?_⟩
    · have h50 : 50 ≤ y - x := by simp at hb; omega
      refine medianAdjacent_int h1 hn cnt1 hpb (x + q * 1) (by omega) (by omega) fun u1 w2 hu1 hc2 c2 => ⟨_, rfl, ?_⟩
      refine medianAdjacent_int (h1.ch c2 hpb.symm) hn hc2 hpb (x + q * 2) (by omega) (by omega) fun u2 w3 hu2 hc3 c3 => ⟨_, rfl, ?_⟩
      have c3 := c2.trans c3
      refine medianAdjacent_int (h1.ch c3 hpb.symm) hn hc3 hpb (x + q * 3) (by omega) (by omega) fun u3 w4 hu3 hc4 c4 => ⟨_, rfl, ?_⟩
      exact med u1 u2 u3 w4 (by omega) (by omega) (by omega) (by omega) (by omega) (by omega) hc4 (c3.trans c4)
    · exact med _ _ _ w1 (by omega) (by omega) (by omega) (by omega) (by omega) (by omega) cnt1 (Ch.refl _ _)
  · exact fin _ w1 (by omega) (by omega) cnt1 (Ch.refl _ _)
end Go.Proofs

/- The sort's walks, at one type: broken patterns, the recursion, the sort. -/
set_option linter.all false
set_option maxHeartbeats 2000000
namespace Go.Proofs
open Go Go.X Go.Sort
variable {b n c : Nat} {e : TypeId} {rest : List Value} {w : World} {d : Array Int} {R : Value → World → Prop}

theorem breakPatterns_int (h : SB (Value.int .i64) e b rest n w d) (hn : n < 4611686018427387904) (x y : Nat) (hxy : x ≤ y) (hy : y ≤ n)
    (k : ∀ d' w', SB (Value.int .i64) e b rest n w' d' → PermIn x y d d' → Ch (· = b) w w' → R (.tuple #[]) w') :
    CallF Try.prog 221 #[(slc b n c).v, .int .i64 x, .int .i64 y] w R := by
  refine f221_ok R _ _ _ w ?_
  unfold f221
  obtain ⟨m, hm⟩ : ∃ m, m = y - x := ⟨_, rfl⟩
  have el : IntKind.i64.wrap ((y : Int) - (x : Int)) = (m : Int) := by rw [wrap_i64e]; omega
  rw [el]
  refine ⟨fun hb => ?_, fun hb => k d w h (permIn_refl d x y) (Ch.refl _ _)⟩
  have h8 : 8 ≤ m := by simp at hb; omega
  refine New.mk fun p w1 hp hs hb1 hext => ?_
  have hbl : b < w.heap.size := h.1.lt
  have hpb : p ≠ b := by omega
  refine St.blk hb1 (by simp) fun w2 hb2 c2 => ?_
  have eu : IntKind.u64.wrap (m : Int) = iv (BitVec.ofNat 64 m) := wrapN uk64 m
  rw [eu] at hb2
  have c12 : Ext w w2 := hext.step c2 (fun _ _ h => h) (fun i hi h => by omega)
  refine nextPow_ok m (by omega) ⟨_, rfl, ?_⟩
  obtain ⟨q, hq⟩ : ∃ q, q = m / 4 := ⟨_, rfl⟩
  have hq4 : 4 * q ≤ m := by omega
  have hq2 : 2 ≤ q := by omega
  have et : Int.tdiv (m : Int) 4 = (q : Int) := by rw [Int.tdiv_eq_ediv_of_nonneg (by omega)]; omega
  rw [et]
  have e0 : ∀ z : Int, 0 ≤ z → z ≤ 4611686018427387904 * 2 - 1 → IntKind.i64.wrap z = z := fun z h1 h2 => by rw [wrap_i64e]; omega
  have e1 : IntKind.i64.wrap ((x : Int) + IntKind.i64.wrap (IntKind.i64.wrap (q : Int) * 2)) = ((x + q * 2 : Nat) : Int) := by
    rw [e0 (q : Int) (by omega) (by omega), e0 ((q : Int) * 2) (by omega) (by omega), e0 _ (by omega) (by omega)]; omega
  rw [e1, show IntKind.i64.wrap (((x + q * 2 : Nat) : Int) - 1) = ((x + q * 2 - 1 : Nat) : Int) by rw [wrap_i64e]; omega]
  have hmod : 2 ^ bitsLen m ≤ 2 * m := two_pow_bitsLen_le (by omega)
  have hmod0 : 0 < 2 ^ bitsLen m := Nat.pow_pos (by omega)
  generalize 2 ^ bitsLen m = md at hmod hmod0
  refine Lp.mk (fun s w' => ∃ (i : Nat) (d' : Array Int) (r : BitVec 64), s = (slc b n c, (x : Int), (m : Int), some ⟨p, 0, none⟩, (md : Int), (i : Int)) ∧ SB (Value.int .i64) e b rest n w' d' ∧ PermIn x y d d' ∧ Ch (· = b) w w' ∧ Blk w' p #[.int .u64 (iv r)] 336 ∧ x + q * 2 - 1 ≤ i ∧ i ≤ x + q * 2 + 2) (fun s _ => x + q * 2 + 2 - s.2.2.2.2.2.toNat)
    ⟨x + q * 2 - 1, d, _, rfl, h.ext c12, permIn_refl d x y, c12.mono fun _ _ h => h.elim, hb2, by omega, by omega⟩ ?_
  rintro _ w3 ⟨i, d3, r, rfl, h3, p3, c3, hr3, hi1, hi2⟩ ag2 hag2
  show f221_b0 R ag2 (slc b n c) x m (some ⟨p, 0, none⟩) md i w3
  unfold f221_b0
  rw [et, e1, show IntKind.i64.wrap (((x + q * 2 : Nat) : Int) + 1) = ((x + q * 2 + 1 : Nat) : Int) by rw [wrap_i64e]; omega]
  refine ⟨fun hb => ?_, fun hb => k d3 w3 h3 p3 c3⟩
  have hle : i ≤ x + q * 2 + 1 := by simp at hb; omega
  refine xorNext_ok r hr3 fun r4 w4 hr4 c4 => ⟨_, rfl, ?_⟩
  have h4 := h3.ch c4 hpb.symm
  have c34 : Ch (· = b) w w4 := c3.step c4 (fun _ _ h => h) (fun i hi h => by omega)
  have eand : ∃ u : Nat, u < md ∧ IntKind.i64.wrap (andK .u64 (iv r4) (IntKind.u64.wrap ((md : Int) - 1))) = (u : Int) := by
    have em : IntKind.u64.wrap ((md : Int) - 1) = iv (BitVec.ofNat 64 (md - 1)) := by
      rw [show (md : Int) - 1 = ((md - 1 : Nat) : Int) by omega]; exact wrapN uk64 _
    rw [em, and_iv uk64]
    have hlt : (r4 &&& BitVec.ofNat 64 (md - 1)).toNat ≤ md - 1 := by
      rw [BitVec.toNat_and, BitVec.toNat_ofNat, Nat.mod_eq_of_lt (by omega)]
      exact Nat.and_le_right
    exact ⟨(r4 &&& BitVec.ofNat 64 (md - 1)).toNat, by omega, by unfold iv; rw [wrap_i64e]; omega⟩
  obtain ⟨u, hu, eand⟩ := eand
  dsimp only
  rw [eand]
  have fin : ∀ (o : Nat), o < m → f221_k1 R ag2 (slc b n c) x m (some ⟨p, 0, none⟩) md i o w4 := by
    intro o ho
    unfold f221_k1
    rw [show IntKind.i64.wrap ((x : Int) + (o : Int)) = ((x + o : Nat) : Int) by rw [wrap_i64e]; omega, show IntKind.i64.wrap ((i : Int) + 1) = ((i + 1 : Nat) : Int) by rw [wrap_i64e]; omega]
    refine s_swp i (x + o) h4 rfl (by omega) rfl (by omega) fun w5 h5 c5 => ?_
    exact hag2 _ _ ⟨i + 1, _, r4, rfl, h5, permIn_trans _ _ _ x y p3 (swp_permIn d3 x y i (x + o) (by omega) (by omega) (by omega) (by omega) (by rw [h4.size]; omega)), c34.trans c5, hr4.ch c5 hpb, by omega, by omega⟩ (by dsimp only; omega)
  refine ⟨fun hb => ?_, fun hb => ?_⟩
  · have hge : m ≤ u := by simp at hb; omega
    rw [show IntKind.i64.wrap ((u : Int) - (m : Int)) = ((u - m : Nat) : Int) by rw [wrap_i64e]; omega]
    exact fin _ (by omega)
  · exact fin u (by simp at hb; omega)

theorem pdq_int : ∀ (t x y : Nat) (d : Array Int) (w : World) (limit : Int) (R : Value → World → Prop), y - x ≤ t → n < 4611686018427387904 → x ≤ y → y ≤ n → SB (Value.int .i64) e b rest n w d → Sort.Below ltInt x y d →
    (∀ d' w', SB (Value.int .i64) e b rest n w' d' → PermIn x y d d' → SortedIn ltInt x y d' → Ch (· = b) w w' → R (.tuple #[]) w') →
    CallF Try.prog 196 #[(slc b n c).v, .int .i64 x, .int .i64 y, .int .i64 limit] w R := by
  intro t
  induction t using Nat.strongRecOn with
  | _ t ih =>
  intro x y d w limit R ht hn hxy hy h hbel k
  refine f196_ok R _ _ _ _ w ?_
  unfold f196
  have hsw : SWO ltInt := swo_ltInt
  refine Lp.mk (fun s w' => ∃ (x' y' : Nat) (d' : Array Int) (lim : Int) (wb wp : Bool), s = (slc b n c, (x' : Int), (y' : Int), lim, wb, wp) ∧ SB (Value.int .i64) e b rest n w' d' ∧ Ch (· = b) w w' ∧ x ≤ x' ∧ x' ≤ y' ∧ y' ≤ y ∧ Sort.Below ltInt x' y' d' ∧
      ∀ r, PermIn x' y' d' r → SortedIn ltInt x' y' r → PermIn x y d r ∧ SortedIn ltInt x y r) (fun s _ => (s.2.2.1 - s.2.1).toNat)
    ⟨x, y, d, limit, true, true, rfl, h, Ch.refl _ _, Nat.le_refl _, hxy, Nat.le_refl _, hbel, fun r h1 h2 => ⟨h1, h2⟩⟩ ?_
  rintro _ w1 ⟨x1, y1, d1, lim, wb, wp, rfl, h1, c1, hx1, hxy1, hy1, hb1, hr1⟩ ag1 hag1
  show f196_b0 R ag1 (slc b n c) x1 y1 lim wb wp w1
  unfold f196_b0
  have el : IntKind.i64.wrap ((y1 : Int) - (x1 : Int)) = ((y1 - x1 : Nat) : Int) := by rw [wrap_i64e]; omega
  rw [el]
  have sz : ∀ {d' w'}, SB (Value.int .i64) e b rest n w' d' → y1 ≤ d'.size := fun h => by rw [h.size]; omega
  refine ⟨fun hb => ?_, fun hb => ?_⟩
  · refine insertion_int h1 hn x1 y1 hxy1 (by omega) fun w2 h2 c2 => ?_
    obtain ⟨p1, p2⟩ := insertionSort_holds hsw d1 x1 y1 hxy1 (sz h1)
    obtain ⟨q1, q2⟩ := hr1 _ p1 p2
    exact k _ w2 h2 q1 q2 (c1.trans c2)
  have h12 : 12 < y1 - x1 := by simp at hb; omega
  refine ⟨fun hb => ?_, fun hb => ?_⟩
  · refine heap_int h1 hn x1 y1 hxy1 (by omega) fun w2 h2 c2 => ?_
    obtain ⟨p1, p2⟩ := heapSort_holds hsw d1 x1 y1 hxy1 (sz h1)
    obtain ⟨q1, q2⟩ := hr1 _ p1 p2
    exact k _ w2 h2 q1 q2 (c1.trans c2)
  -- the state of a round: a permutation of what it began with
  have k3 : ∀ (lim : Int) (wb wp : Bool) (u : Nat) (d3 : Array Int) (w3 : World), x1 ≤ u → u < y1 → SB (Value.int .i64) e b rest n w3 d3 → Ch (· = b) w w3 → PermIn x1 y1 d1 d3 →
      f196_k3 R ag1 (slc b n c) x1 y1 lim wb wp (y1 - x1 : Nat) u w3 := by
    intro lim wb wp u d3 w3 hu1 hu2 h3 c3 p3
    have hb3 : Sort.Below ltInt x1 y1 d3 := hb1.perm (sz h1) p3
    have hr3 : ∀ r, PermIn x1 y1 d3 r → SortedIn ltInt x1 y1 r → PermIn x y d r ∧ SortedIn ltInt x y r := fun r a b => hr1 r (permIn_trans _ _ _ _ _ p3 a) b
    have part : ∀ w4, SB (Value.int .i64) e b rest n w4 d3 → Ch (· = b) w w4 → f196_k4 R ag1 (slc b n c) x1 y1 lim wb wp (y1 - x1 : Nat) u false w4 := by
      intro w4 h4 c4
      unfold f196_k4
      refine ⟨fun hc => (by cases hc), fun _ => ?_⟩
      obtain ⟨⟨mid, ap, d4⟩, hx⟩ : ∃ r, partition ltInt d3 x1 y1 u = r := ⟨_, rfl⟩
      obtain ⟨g1, g2, g3, gB1, gB2, gL, gR⟩ := round_part hsw (partition_holds ltInt) hu1 hu2 (sz h3) hb3 hx
      refine partition_int h4 hn x1 y1 u hu1 hu2 (by omega) fun w5 h5 c5 => ⟨_, _, rfl, ?_⟩
      rw [hx] at h5 ⊢
      dsimp only at h5 ⊢
      have c5 := c4.trans c5
      rw [show IntKind.i64.wrap ((mid : Int) + 1) = ((mid + 1 : Nat) : Int) by rw [wrap_i64e]; omega]
      refine ⟨fun _ => ?_, fun _ => ?_⟩
      · refine ih (mid - x1) (by omega) x1 mid d4 w5 lim _ (Nat.le_refl _) hn g1 (by omega) h5 gB1 fun d6 w6 h6 p6 s6 c6 => ?_
        obtain ⟨f1, f2⟩ := gL d6 p6 s6
        exact hag1 _ _ ⟨mid + 1, y1, d6, lim, _, _, rfl, h6, c5.trans c6, by omega, by omega, hy1, f1, fun r a b => hr3 r (f2 r a b).1 (f2 r a b).2⟩ (by dsimp only; omega)
      · refine ih (y1 - (mid + 1)) (by omega) (mid + 1) y1 d4 w5 lim _ (Nat.le_refl _) hn (by omega) (by omega) h5 gB2 fun d6 w6 h6 p6 s6 c6 => ?_
        obtain ⟨f1, f2⟩ := gR d6 p6 s6
        exact hag1 _ _ ⟨x1, mid, d6, lim, _, _, rfl, h6, c5.trans c6, hx1, g1, by omega, f1, fun r a b => hr3 r (f2 r a b).1 (f2 r a b).2⟩ (by dsimp only; omega)
    unfold f196_k3
    refine ⟨fun hb => ?_, fun hb => ?_⟩
    · have hx0 : 0 < x1 := by simp at hb; omega
      refine s_cmp (lt := ltInt) (x1 - 1) u less_int h3 (by rw [wrap_i64e]; omega) (by omega) rfl (by omega) ?_
      cases hc : ltInt d3[x1 - 1]! d3[u]! with
      | true => exact part _ h3.drew (chd c3)
      | false =>
        unfold f196_k4
        refine ⟨fun _ => ?_, fun hc => (by cases hc)⟩
        obtain ⟨⟨mid, d4⟩, hx⟩ : ∃ r, partitionEqual ltInt d3 x1 y1 u = r := ⟨_, rfl⟩
        obtain ⟨g1, g2, g3, gB, gR⟩ := round_eq hsw (partitionEqual_holds ltInt) hx0 hu1 hu2 (sz h3) hb3 hc hx
        refine partitionEqual_int h3.drew hn x1 y1 u hu1 hu2 (by omega) fun w5 h5 c5 => ⟨_, rfl, ?_⟩
        rw [hx] at h5 ⊢
        dsimp only at h5 ⊢
        exact hag1 _ _ ⟨mid, y1, d4, lim, wb, wp, rfl, h5, (chd c3).trans c5, by omega, g2, hy1, gB, fun r a b => hr3 r (gR r a b).1 (gR r a b).2⟩ (by dsimp only; omega)
    · exact part _ h3.drew (chd c3)
  have k5 : ∀ (lim : Int) (wb wp : Bool) (u : Nat) (d3 : Array Int) (w3 : World) (t : Bool), x1 ≤ u → u < y1 → SB (Value.int .i64) e b rest n w3 d3 → Ch (· = b) w w3 → PermIn x1 y1 d1 d3 →
      f196_k5 R ag1 (slc b n c) x1 y1 lim wb wp (y1 - x1 : Nat) u t w3 := by
    intro lim wb wp u d3 w3 t hu1 hu2 h3 c3 p3
    unfold f196_k5
    refine ⟨fun _ => ?_, fun _ => k3 lim wb wp u d3 w3 hu1 hu2 h3 c3 p3⟩
    have hp := partialInsertionSort_holds hsw d3 x1 y1 (by omega) (sz h3) (hb1.perm (sz h1) p3)
    refine partialIns_int h3 hn x1 y1 (by omega) (by omega) fun w4 h4 c4 => ⟨_, rfl, ?_⟩
    refine ⟨fun hc => ?_, fun _ => k3 lim wb wp u _ w4 hu1 hu2 h4 (c3.trans c4) (permIn_trans _ _ _ _ _ p3 hp.1)⟩
    obtain ⟨q1, q2⟩ := hr1 _ (permIn_trans _ _ _ _ _ p3 hp.1) (hp.2 hc)
    exact k _ w4 h4 q1 q2 (c3.trans c4)
  have k2 : ∀ (lim : Int) (wb wp : Bool) (u : Nat) (d3 : Array Int) (w3 : World) (hint : Int), x1 ≤ u → u < y1 → SB (Value.int .i64) e b rest n w3 d3 → Ch (· = b) w w3 → PermIn x1 y1 d1 d3 →
      f196_k2 R ag1 (slc b n c) x1 y1 lim wb wp (y1 - x1 : Nat) u hint w3 := by
    intro lim wb wp u d3 w3 hint hu1 hu2 h3 c3 p3
    unfold f196_k2
    exact ⟨fun _ => ⟨fun _ => k5 _ _ _ _ _ _ _ hu1 hu2 h3 c3 p3, fun _ => k5 _ _ _ _ _ _ _ hu1 hu2 h3 c3 p3⟩, fun _ => k5 _ _ _ _ _ _ _ hu1 hu2 h3 c3 p3⟩
  have k1 : ∀ (lim : Int) (wb wp : Bool) (d3 : Array Int) (w3 : World), SB (Value.int .i64) e b rest n w3 d3 → Ch (· = b) w w3 → PermIn x1 y1 d1 d3 →
      f196_k1 R ag1 (slc b n c) x1 y1 lim wb wp (y1 - x1 : Nat) w3 := by
    intro lim wb wp d3 w3 h3 c3 p3
    unfold f196_k1
    refine choosePivot_int h3 hn x1 y1 (by omega) (by omega) fun u hint w4 hu1 hu2 c4 => ⟨_, _, rfl, ?_⟩
    have h4 := h3.ext c4
    have c4 : Ch (· = b) w w4 := c3.trans (c4.mono fun _ _ h => h.elim)
    refine ⟨fun _ => ?_, fun _ => k2 _ _ _ _ _ _ _ hu1 hu2 h4 c4 p3⟩
    refine reverse_int h4 hn x1 y1 (by omega) (by omega) fun w5 h5 c5 => ?_
    rw [show IntKind.i64.wrap (IntKind.i64.wrap ((y1 : Int) - 1) - IntKind.i64.wrap ((u : Int) - (x1 : Int))) = ((y1 - 1 - (u - x1) : Nat) : Int) by
      rw [show IntKind.i64.wrap ((y1 : Int) - 1) = ((y1 - 1 : Nat) : Int) by rw [wrap_i64e]; omega, show IntKind.i64.wrap ((u : Int) - (x1 : Int)) = ((u - x1 : Nat) : Int) by rw [wrap_i64e]; omega, wrap_i64e]; omega]
    exact k2 _ _ _ _ _ _ _ (by omega) (by omega) h5 (c4.trans c5) (permIn_trans _ _ _ _ _ p3 (reverseRange_holds d3 x1 y1 (by omega) (sz h3)))
  refine ⟨fun _ => ?_, fun _ => k1 _ _ _ _ _ h1 c1 (permIn_refl _ _ _)⟩
  exact breakPatterns_int h1 hn x1 y1 (by omega) (by omega) fun d2 w2 h2 p2 c2 => k1 _ _ _ _ _ h2 (c1.trans c2) p2

/-- slices.Sort. -/
theorem sort_int (h : SB (Value.int .i64) e b rest n w d) (hn : n < 4611686018427387904) (k : ∀ d' w', SB (Value.int .i64) e b rest n w' d' → d'.toList.Perm d.toList → (∀ i j, i < j → j < n → ltInt d'[j]! d'[i]! = false) → Ch (· = b) w w' → R (.tuple #[]) w') :
    CallF Try.prog 158 #[(slc b n c).v] w R := by
  refine f158_ok R _ w ?_
  unfold f158
  show CallF _ _ #[.int .u64 (IntKind.u64.wrap ((n : Nat) : Int))] _ _
  rw [show IntKind.u64.wrap (n : Int) = (n : Int) by rw [wrap_u64e]; omega]
  refine bitsLen_ok n (by omega) ⟨_, rfl, ?_⟩
  refine pdq_int n 0 n d w _ _ (by omega) hn (by omega) (Nat.le_refl _) h (.inl rfl) fun d' w' h' p' s' c' => ?_
  refine k d' w' h' ?_ (fun i j hi hj => s' i j (by omega) hi hj) c'
  have := p'.2.2
  have e1 : d'.extract 0 n = d' := by rw [← h'.size]; simp
  have e2 : d.extract 0 n = d := by rw [← h.size]; simp
  rwa [e1, e2] at this
end Go.Proofs

/- Collected sequences, and sorted ones (int). -/
set_option linter.all false
set_option maxHeartbeats 1000000
namespace Go.Proofs
open Go Go.X Go.Sort
/-- What lies in the memory between two rounds of a collecting loop. -/
structure ColJ_int (w : World) (a l r : Nat) (lr : Loop) (priv : Nat → Prop) (xs : List Int) (u : World) : Prop where
  s : ∃ s : Sl, Blk u a #[s.v] 184 ∧ Own u s 3 1 (xs.map (Value.int .i64)) ∧ ∀ b, s.blk b → w.heap.size ≤ b ∧ ¬ priv b ∧ b ≠ a ∧ b ≠ l ∧ b ≠ r
  loop : u.heap[l]? = some (LRof lr .ready none)
  mark : u.heap[r]? = some (.deferred (some []))
  ext : Ext w u
  pr : ∀ k, priv k → w.heap.size ≤ k ∧ k ≠ a ∧ k ≠ l ∧ k ≠ r
theorem collect_int {w : World} {fv : Value} {N : Nat} {G : List Int → Prop} (h : SeqOK Try.prog fv (fun x : Int => #[(Value.int .i64) x]) N G w) (hN : N < 4398046511104) (R : Value → World → Prop)
    (k : ∀ (s : Sl) (xs : List Int) w', G xs → Own w' s 3 1 (xs.map (Value.int .i64)) → Ext w w' → (∀ b, s.blk b → w.heap.size ≤ b) → R s.v w') : CallF Try.prog 157 #[fv] w R := by
  refine f157_ok R _ w ?_
  unfold f157
  refine f195_ok _ Sl.nil fv w ?_
  unfold f195
  refine New.mk fun a w1 ha hs1 hb1 c1 => ?_
  intro lr y hy
  obtain ⟨hd, hl, c2, hs2⟩ := loop_start w1 lr
  generalize (w1.alloc (.deferred (some []))).alloc (LRof lr .ready none) = w2 at hd hl c2 hs2
  generalize el : w1.heap.size + 1 = l at *
  generalize er : w1.heap.size = r at *
  refine h y (ColJ_int w a l r lr) (fun _ => False) w2 _ (c1.trans c2) ?_ ?_ ?_ ?_ (fun _ h => h.elim)
  · intro priv w3 c3 hp
    refine ⟨⟨Sl.nil, (hb1.ext c2).ext c3, Own.nil _ _ _, fun b hb => (by obtain ⟨_, e, _⟩ := hb; cases e)⟩, obj_ch hl c3 id, obj_ch hd c3 id, c1.trans (c2.trans c3), fun k hk => ?_⟩
    have := hp k hk
    omega
  · rintro priv xs u u' ⟨⟨s, i1, i2, i3⟩, j1, j2, j3, j4⟩ cu
    exact ⟨⟨s, i1.ch cu fun hp => (j4 _ hp).2.1 rfl, i2.ch cu fun b hb => (i3 b hb).2.1, i3⟩, obj_ch j1 cu fun hp => (j4 _ hp).2.2.1 rfl, obj_ch j2 cu fun hp => (j4 _ hp).2.2.2 rfl,
      j3.step cu (fun _ _ h => h) (fun i hi hp => by have := (j4 i hp).1; omega), j4⟩
  · rintro priv xs x u ⟨⟨s, i1, i2, i3⟩, j1, j2, j3, j4⟩ hlen hp
    refine hy _ u _ j1 ⟨x, rfl, ?_⟩
    unfold slices_AppendSeq_int_int_r0
    refine ⟨j1, ?_⟩
    have cb := putObj_ch u l (LRof lr .busy none)
    have hb0 := putObj_get (o' := LRof lr .busy none) j1
    generalize u.putObj l (LRof lr .busy none) = u1 at cb hb0
    have hal : a ≠ l := by omega
    have i1' := i1.ch cb (fun e => hal e)
    have i2' := i2.ch cb (fun b hb e => (i3 b hb).2.2.2.1 e)
    have hsl : s.len = xs.length := by have := i2.len; simpa using this.symm
    refine Ld.blk i1' rfl ?_
    refine Ef.append1 Try.underlying184 Try.ti3 rfl (by decide) i2' rfl (by simp [Value.oneCell']) (by omega) (by omega) fun s' u2 o2 cu2 hl2 hbl2 => ?_
    have i1'' := i1'.ch cu2 (fun hb => (i3 a hb).2.2.1 rfl)
    refine St.blk i1'' (by simp) fun u3 i13 cu3 => ?_
    have hal' : l ≠ a := fun e => hal e.symm
    have hl3 : u3.heap[l]? = some (LRof lr .busy none) := obj_ch (obj_ch hb0 cu2 (fun hb => (i3 l hb).2.2.2.1 rfl)) cu3 hal'
    refine ⟨hl3, .inl ⟨rfl, ?_, ?_⟩⟩
    · have c4 := putObj_ch u3 l (LRof lr .ready none)
      have hfin := putObj_get (o' := LRof lr .ready none) hl3
      have lt1 := i1.lt
      have lt2 := obj_lt j1
      have lt3 := obj_lt j2
      have n2 : ∀ b, s'.blk b → w.heap.size ≤ b ∧ ¬ priv b ∧ b ≠ a ∧ b ≠ l ∧ b ≠ r := fun b hb => by
        rcases hbl2 b hb with h | h
        · exact i3 b h
        · have := cb.size
          have := j3.size
          exact ⟨by omega, fun hp' => by have := (hp b hp').2; omega, by omega, by omega, by omega⟩
      refine ⟨⟨s', i13.ch c4 (fun e => hal e), ?_, n2⟩, hfin, ?_, ?_, j4⟩
      · have := (o2.ch cu3 (fun b hb e => (n2 b hb).2.2.1 e)).ch c4 (fun b hb e => (n2 b hb).2.2.2.1 e)
        simpa using this
      · refine obj_ch (obj_ch (obj_ch (obj_ch j2 cb ?_) cu2 fun hb => (i3 r hb).2.2.2.2 rfl) cu3 ?_) c4 ?_ <;> omega
      · refine (((j3.step cb (fun _ _ h => h) ?_).step cu2 (fun _ _ h => h) ?_).step cu3 (fun _ _ h => h) ?_).step c4 (fun _ _ h => h) ?_
        · intro i hi e; omega
        · intro i hi hb; have := (i3 i hb).1; omega
        · intro i hi e; omega
        · intro i hi e; omega
    · have c4 := putObj_ch u3 l (LRof lr .ready none)
      have hpl : ¬ priv l := fun hp' => (j4 l hp').2.2.1 rfl
      have hpa : ¬ priv a := fun hp' => (j4 a hp').2.1 rfl
      refine (((cb.step cu2 (U := fun k => ¬ priv k ∧ w.heap.size ≤ k) ?_ ?_).step cu3 (fun _ _ h => h) ?_).step c4 (fun _ _ h => h) ?_)
      · rintro i hi rfl; exact ⟨hpl, by omega⟩
      · intro i hi hb; exact ⟨(i3 i hb).2.1, (i3 i hb).1⟩
      · rintro i hi rfl; exact ⟨hpa, by omega⟩
      · rintro i hi rfl; exact ⟨hpl, by omega⟩
  · rintro priv xs u hG ⟨⟨s, i1, i2, i3⟩, j1, j2, j3, j4⟩
    refine ⟨.ready, none, by decide, j1, rfl, ?_⟩
    have c1' := putObj_ch u l (LRof lr .exhausted none)
    have hal : a ≠ l := by omega
    refine Ld.blk (i1.ch c1' (fun e => hal e)) rfl ?_
    refine ⟨obj_ch j2 c1' (by omega), ?_⟩
    have c2' := putObj_ch (u.putObj l (LRof lr .exhausted none)) r (.deferred none)
    refine ⟨s, rfl, k s xs _ hG ((i2.ch c1' fun b hb e => (i3 b hb).2.2.2.1 e).ch c2' fun b hb e => (i3 b hb).2.2.2.2 e) ?_ fun b hb => (i3 b hb).1⟩
    refine (j3.step c1' (fun _ _ h => h) ?_).step c2' (fun _ _ h => h) ?_
    · intro i hi e; omega
    · intro i hi e; omega

/-- slices.Sort of no slice. -/
theorem sort_nil_int {w : World} {R : Value → World → Prop} (k : R (.tuple #[]) w) : CallF Try.prog 158 #[Sl.nil.v] w R := by
  refine f158_ok R Sl.nil w ?_
  unfold f158
  show CallF _ _ #[.int .u64 (IntKind.u64.wrap ((0 : Nat) : Int))] _ _
  rw [show IntKind.u64.wrap ((0 : Nat) : Int) = ((0 : Nat) : Int) by rfl]
  refine bitsLen_ok 0 (by omega) ⟨_, rfl, ?_⟩
  refine f196_ok _ Sl.nil 0 0 _ w ?_
  unfold f196
  refine Lp.mk (fun s u => s = (Sl.nil, (0 : Int), (0 : Int), ((Go.Sort.bitsLen 0 : Nat) : Int), true, true) ∧ R (.tuple #[]) u) (fun _ _ => 0) ⟨rfl, k⟩ ?_
  rintro _ u ⟨rfl, k⟩ ag hag
  show f196_b0 _ ag Sl.nil 0 0 _ true true _
  unfold f196_b0
  refine ⟨fun _ => ?_, fun h => absurd h (by decide)⟩
  refine f219_ok _ Sl.nil 0 0 _ ?_
  unfold f219
  refine Lp.mk (fun s v => s = (Sl.nil, (0 : Int), (0 : Int), IntKind.i64.wrap (0 + 1)) ∧ R (.tuple #[]) v) (fun _ _ => 0) ⟨rfl, k⟩ ?_
  rintro _ v ⟨rfl, k⟩ ag2 hag2
  show f219_b0 _ ag2 Sl.nil 0 0 _ _
  unfold f219_b0
  exact ⟨fun h => absurd h (by decide), fun _ => k⟩
/-- slices.Sorted. -/
theorem sorted_int {w : World} {fv : Value} {N : Nat} {G : List Int → Prop} (h : SeqOK Try.prog fv (fun x : Int => #[(Value.int .i64) x]) N G w) (hN : N < 4398046511104) (hG : ∀ xs, G xs → xs.length ≤ N) (R : Value → World → Prop)
    (k : ∀ (s : Sl) (xs ys : List Int) w', G xs → ys.Perm xs → ys.Pairwise (fun a b => ltInt b a = false) → Own w' s 3 1 (ys.map (Value.int .i64)) → Ext w w' → (∀ b, s.blk b → w.heap.size ≤ b) → R s.v w') : CallF Try.prog 98 #[fv] w R := by
  refine f98_ok R _ w ?_
  unfold f98
  refine collect_int h hN _ fun s xs w1 hg ho c1 hf => ⟨s, rfl, ?_⟩
  rcases own_sb ho with ⟨rfl, rfl⟩ | ⟨g, c, rest, hs, hsb, hback⟩
  · exact sort_nil_int (k Sl.nil [] [] w1 hg (.refl _) .nil ho c1 hf)
  · have hl := hG xs hg
    have hs' : s.v = (slc g xs.length c).v := by rw [hs]
    have hblk : s.blk g := by rw [hs]; exact ⟨_, rfl, rfl⟩
    rw [hs']
    refine sort_int hsb (by omega) fun d' w2 h2 hp hsrt c2 => ?_
    rw [← hs']
    refine k s xs d'.toList w2 hg (by simpa using hp) (sorted_at h2.size hsrt) (hback w2 d' h2) (c1.step c2 (fun _ _ h => h) fun i hi e => ?_) hf
    have := hf g hblk
    omega
end Go.Proofs
