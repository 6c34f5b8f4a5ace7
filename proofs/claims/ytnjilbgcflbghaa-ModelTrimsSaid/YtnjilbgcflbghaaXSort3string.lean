/- The sort's walks, at one type: the partitions. -/
import Derived.Test.YtnjilbgcflbghaaXF3
import Derived.Test.YtnjilbgcflbghaaXSort2string
set_option linter.all false
set_option maxHeartbeats 1000000
namespace Go.Proofs
open Go Go.X Go.Sort
variable {b n c : Nat} {e : TypeId} {rest : List Value} {w : World} {d : Array ByteArray} {R : Value → World → Prop}

theorem partition_string (h : SB Value.string e b rest n w d) (hn : n < 4611686018427387904) (x y v : Nat) (hxv : x ≤ v) (hvy : v < y) (hy : y ≤ n)
    (k : ∀ w', SB Value.string e b rest n w' (partition slt d x y v).2.2 → Ch (· = b) w w' → R (.tuple #[.int .i64 (partition slt d x y v).1, .bool (partition slt d x y v).2.1]) w') :
    CallF Try.prog 216 #[(slc b n c).v, .int .i64 x, .int .i64 y, .int .i64 v] w R := by
  refine slices_partitionOrdered_string_ok R _ _ _ _ w ?_
  unfold slices_partitionOrdered_string
  refine s_swp x v h rfl (by omega) rfl (by omega) fun w0 h0 c0 => ?_
  unfold partition at k
  dsimp only at k
  generalize swp d x v = d0 at h0 k
  have ea : IntKind.i64.wrap ((x : Int) + 1) = ((x + 1 : Nat) : Int) := by rw [wrap_i64e]; omega
  have eb : IntKind.i64.wrap ((y : Int) - 1) = ((y - 1 : Nat) : Int) := by rw [wrap_i64e]; omega
  rw [ea, eb]
  -- the first scan upwards
  refine Lp.mk (fun s w' => ∃ (i : Nat), s = (slc b n c, (x : Int), (i : Int), ((y - 1 : Nat) : Int)) ∧ SB Value.string e b rest n w' d0 ∧ Ch (· = b) w w' ∧ x < i ∧ i ≤ y ∧ scanUp (fun u => slt u d0[x]!) d0 (y - 1) i = scanUp (fun u => slt u d0[x]!) d0 (y - 1) (x + 1)) (fun s _ => y - s.2.2.1.toNat)
    ⟨x + 1, rfl, h0, c0, by omega, by omega, rfl⟩ ?_
  rintro _ w1 ⟨i, rfl, h1, c1, hi, hi2, he⟩ ag1 hag1
  show slices_partitionOrdered_string_b0 R ag1 (slc b n c) x i (y - 1 : Nat) w1
  unfold slices_partitionOrdered_string_b0
  rw [← he] at k
  have next : ∀ (w2 : World), SB Value.string e b rest n w2 d0 → Ch (· = b) w w2 → scanUp (fun u => slt u d0[x]!) d0 (y - 1) i = i → slices_partitionOrdered_string_k1 R ag1 (slc b n c) x i (y - 1 : Nat) false w2 := by
    intro w2 h2 c2 hs
    rw [hs] at k
    unfold slices_partitionOrdered_string_k1
    refine ⟨fun hc => (by cases hc), fun _ => ?_⟩
    -- the first scan downwards
    refine Lp.mk (fun s w' => ∃ (j : Nat), s = (slc b n c, (x : Int), (i : Int), (j : Int)) ∧ SB Value.string e b rest n w' d0 ∧ Ch (· = b) w w' ∧ j < y ∧ i ≤ j + 1 ∧ scanDown (fun u => !slt u d0[x]!) d0 i j = scanDown (fun u => !slt u d0[x]!) d0 i (y - 1)) (fun s _ => s.2.2.2.toNat)
      ⟨y - 1, rfl, h2, c2, by omega, by omega, rfl⟩ ?_
    rintro _ w3 ⟨j, rfl, h3, c3, hj, hij, he3⟩ ag2 hag2
    show slices_partitionOrdered_string_b2 R ag1 ag2 (slc b n c) x i j w3
    unfold slices_partitionOrdered_string_b2
    rw [← he3] at k
    have next2 : ∀ (w4 : World), SB Value.string e b rest n w4 d0 → Ch (· = b) w w4 → scanDown (fun u => !slt u d0[x]!) d0 i j = j → slices_partitionOrdered_string_k3 R ag1 ag2 (slc b n c) x i j false w4 := by
      intro w4 h4 c4 hs4
      rw [hs4] at k
      unfold slices_partitionOrdered_string_k3
      refine ⟨fun hc => (by cases hc), fun _ => ⟨fun hb => ?_, fun hb => ?_⟩⟩
      · have hlt : i > j := by simp at hb; omega
        rw [if_pos hlt] at k
        exact s_swp j x h4 rfl (by omega) rfl (by omega) fun w5 h5 c5 => k _ h5 (c4.trans c5)
      · have hge : ¬ i > j := by simp at hb; omega
        rw [if_neg hge] at k
        refine s_swp i j h4 rfl (by omega) rfl (by omega) fun w5 h5 c5 => ?_
        have e1 : IntKind.i64.wrap ((i : Int) + 1) = ((i + 1 : Nat) : Int) := by rw [wrap_i64e]; omega
        have e2 : IntKind.i64.wrap ((j : Int) - 1) = ((j - 1 : Nat) : Int) := by rw [wrap_i64e]; omega
        rw [e1, e2]
        generalize swp d0 i j = d1 at h5 k
        -- the rounds
        refine Lp.mk (fun s w' => ∃ (i' j' : Nat) (d' : Array ByteArray), s = (slc b n c, (x : Int), (i' : Int), (j' : Int)) ∧ SB Value.string e b rest n w' d' ∧ Ch (· = b) w w' ∧ x < i' ∧ j' < y ∧ i' ≤ j' + 2 ∧ partLoop slt x i' j' d' = partLoop slt x (i + 1) (j - 1) d1) (fun s _ => (s.2.2.2 + 1 - s.2.2.1).toNat)
          ⟨i + 1, j - 1, d1, rfl, h5, c4.trans c5, by omega, by omega, by omega, rfl⟩ ?_
        rintro _ w6 ⟨i6, j6, d6, rfl, h6, c6, hi6, hj6, hij6, he6⟩ ag3 hag3
        show slices_partitionOrdered_string_b4 R ag1 ag2 ag3 (slc b n c) x i6 j6 w6
        unfold slices_partitionOrdered_string_b4
        rw [partLoop_eq] at he6
        refine Lp.mk (fun s w' => ∃ (i : Nat), s = (slc b n c, (x : Int), (i : Int), (j6 : Int)) ∧ SB Value.string e b rest n w' d6 ∧ Ch (· = b) w w' ∧ i6 ≤ i ∧ i ≤ j6 + 2 ∧ scanUp (fun u => slt u d6[x]!) d6 j6 i = scanUp (fun u => slt u d6[x]!) d6 j6 i6) (fun s _ => (j6 + 2 - s.2.2.1).toNat)
          ⟨i6, rfl, h6, c6, by omega, by omega, rfl⟩ ?_
        rintro _ w7 ⟨i7, rfl, h7, c7, hi67, hi72, he7⟩ ag4 hag4
        show slices_partitionOrdered_string_b5 R ag1 ag2 ag3 ag4 (slc b n c) x i7 j6 w7
        unfold slices_partitionOrdered_string_b5
        rw [← he7] at he6
        have next3 : ∀ (w8 : World), SB Value.string e b rest n w8 d6 → Ch (· = b) w w8 → scanUp (fun u => slt u d6[x]!) d6 j6 i7 = i7 → slices_partitionOrdered_string_k6 R ag1 ag2 ag3 ag4 (slc b n c) x i7 j6 false w8 := by
          intro w8 h8 c8 hs8
          rw [hs8] at he6
          unfold slices_partitionOrdered_string_k6
          refine ⟨fun hc => (by cases hc), fun _ => ?_⟩
          refine Lp.mk (fun s w' => ∃ (j : Nat), s = (slc b n c, (x : Int), (i7 : Int), (j : Int)) ∧ SB Value.string e b rest n w' d6 ∧ Ch (· = b) w w' ∧ j ≤ j6 ∧ i7 ≤ j + 2 ∧ scanDown (fun u => !slt u d6[x]!) d6 i7 j = scanDown (fun u => !slt u d6[x]!) d6 i7 j6) (fun s _ => s.2.2.2.toNat)
            ⟨j6, rfl, h8, c8, by omega, by omega, rfl⟩ ?_
          rintro _ w9 ⟨j9, rfl, h9, c9, hj9, hij9, he9⟩ ag5 hag5
          show slices_partitionOrdered_string_b7 R ag1 ag2 ag3 ag4 ag5 (slc b n c) x i7 j9 w9
          unfold slices_partitionOrdered_string_b7
          rw [← he9] at he6
          have next4 : ∀ (wa : World), SB Value.string e b rest n wa d6 → Ch (· = b) w wa → scanDown (fun u => !slt u d6[x]!) d6 i7 j9 = j9 → slices_partitionOrdered_string_k8 R ag1 ag2 ag3 ag4 ag5 (slc b n c) x i7 j9 false wa := by
            intro wa ha ca hsa
            rw [hsa] at he6
            unfold slices_partitionOrdered_string_k8
            refine ⟨fun hc => (by cases hc), fun _ => ⟨fun hb => ?_, fun hb => ?_⟩⟩
            · have hlt : i7 > j9 := by simp at hb; omega
              rw [if_pos hlt] at he6
              rw [← he6] at k
              exact s_swp j9 x ha rfl (by omega) rfl (by omega) fun wb hb cb => k _ hb (ca.trans cb)
            · have hge : ¬ i7 > j9 := by simp at hb; omega
              rw [if_neg hge] at he6
              refine s_swp i7 j9 ha rfl (by omega) rfl (by omega) fun wb hb cb => ?_
              rw [show IntKind.i64.wrap ((i7 : Int) + 1) = ((i7 + 1 : Nat) : Int) by rw [wrap_i64e]; omega, show IntKind.i64.wrap ((j9 : Int) - 1) = ((j9 - 1 : Nat) : Int) by rw [wrap_i64e]; omega]
              exact hag3 _ _ ⟨i7 + 1, j9 - 1, _, rfl, hb, ca.trans cb, by omega, by omega, by omega, he6⟩ (by dsimp only; omega)
          refine ⟨fun hb => ?_, fun hb => ?_⟩
          · have hle : i7 ≤ j9 := by simp at hb; omega
            refine s_cmp (lt := slt) j9 x less_string h9 rfl (by omega) rfl (by omega) ?_
            cases hc : slt d6[j9]! d6[x]! with
            | true => exact next4 _ h9.drew (chd c9) (scanDown_stop fun _ => by simp [hc])
            | false =>
              unfold slices_partitionOrdered_string_k8
              refine ⟨fun _ => ?_, fun hc => (by cases hc)⟩
              rw [show IntKind.i64.wrap ((j9 : Int) - 1) = ((j9 - 1 : Nat) : Int) by rw [wrap_i64e]; omega]
              exact hag5 _ _ ⟨j9 - 1, rfl, h9.drew, chd c9, by omega, by omega, by rw [← he9]; exact (scanDown_go (by omega) hle (by simp [hc])).symm⟩ (by dsimp only; omega)
          · have hle : ¬ i7 ≤ j9 := by simp at hb; omega
            exact next4 _ h9.drew (chd c9) (scanDown_stop fun h => absurd h hle)
        refine ⟨fun hb => ?_, fun hb => ?_⟩
        · have hle : i7 ≤ j6 := by simp at hb; omega
          refine s_cmp (lt := slt) i7 x less_string h7 rfl (by omega) rfl (by omega) ?_
          cases hc : slt d6[i7]! d6[x]! with
          | false => exact next3 _ h7.drew (chd c7) (scanUp_stop fun _ => hc)
          | true =>
            unfold slices_partitionOrdered_string_k6
            refine ⟨fun _ => ?_, fun hc => (by cases hc)⟩
            rw [show IntKind.i64.wrap ((i7 : Int) + 1) = ((i7 + 1 : Nat) : Int) by rw [wrap_i64e]; omega]
            exact hag4 _ _ ⟨i7 + 1, rfl, h7.drew, chd c7, by omega, by omega, by rw [← he7]; exact (scanUp_go hle hc).symm⟩ (by dsimp only; omega)
        · have hle : ¬ i7 ≤ j6 := by simp at hb; omega
          exact next3 _ h7.drew (chd c7) (scanUp_stop fun h => absurd h hle)
    refine ⟨fun hb => ?_, fun hb => ?_⟩
    · have hle : i ≤ j := by simp at hb; omega
      refine s_cmp (lt := slt) j x less_string h3 rfl (by omega) rfl (by omega) ?_
      cases hc : slt d0[j]! d0[x]! with
      | true => exact next2 _ h3.drew (chd c3) (scanDown_stop fun _ => by simp [hc])
      | false =>
        unfold slices_partitionOrdered_string_k3
        refine ⟨fun _ => ?_, fun hc => (by cases hc)⟩
        rw [show IntKind.i64.wrap ((j : Int) - 1) = ((j - 1 : Nat) : Int) by rw [wrap_i64e]; omega]
        exact hag2 _ _ ⟨j - 1, rfl, h3.drew, chd c3, by omega, by omega, by rw [← he3]; exact (scanDown_go (by omega) hle (by simp [hc])).symm⟩ (by dsimp only; omega)
    · have hle : ¬ i ≤ j := by simp at hb; omega
      exact next2 _ h3.drew (chd c3) (scanDown_stop fun h => absurd h hle)
  refine ⟨fun hb => ?_, fun hb => ?_⟩
  · have hle : i ≤ y - 1 := by simp at hb; omega
    refine s_cmp (lt := slt) i x less_string h1 rfl (by omega) rfl (by omega) ?_
    cases hc : slt d0[i]! d0[x]! with
    | false => exact next _ h1.drew (chd c1) (scanUp_stop fun _ => hc)
    | true =>
      unfold slices_partitionOrdered_string_k1
      refine ⟨fun _ => ?_, fun hc => (by cases hc)⟩
      rw [show IntKind.i64.wrap ((i : Int) + 1) = ((i + 1 : Nat) : Int) by rw [wrap_i64e]; omega]
      exact hag1 _ _ ⟨i + 1, rfl, h1.drew, chd c1, by omega, by omega, by rw [← he]; exact (scanUp_go hle hc).symm⟩ (by dsimp only; omega)
  · have hle : ¬ i ≤ y - 1 := by simp at hb; omega
    exact next _ h1.drew (chd c1) (scanUp_stop fun h => absurd h hle)

theorem partitionEqual_string (h : SB Value.string e b rest n w d) (hn : n < 4611686018427387904) (x y v : Nat) (hxv : x ≤ v) (hvy : v < y) (hy : y ≤ n)
    (k : ∀ w', SB Value.string e b rest n w' (partitionEqual slt d x y v).2 → Ch (· = b) w w' → R (.int .i64 (partitionEqual slt d x y v).1) w') :
    CallF Try.prog 215 #[(slc b n c).v, .int .i64 x, .int .i64 y, .int .i64 v] w R := by
  refine slices_partitionEqualOrdered_string_ok R _ _ _ _ w ?_
  unfold slices_partitionEqualOrdered_string
  refine s_swp x v h rfl (by omega) rfl (by omega) fun w0 h0 c0 => ?_
  unfold partitionEqual at k
  generalize swp d x v = d0 at h0 k
  have ea : IntKind.i64.wrap ((x : Int) + 1) = ((x + 1 : Nat) : Int) := by rw [wrap_i64e]; omega
  have eb : IntKind.i64.wrap ((y : Int) - 1) = ((y - 1 : Nat) : Int) := by rw [wrap_i64e]; omega
  rw [ea, eb]
  refine Lp.mk (fun s w' => ∃ (i' j' : Nat) (d' : Array ByteArray), s = (slc b n c, (x : Int), (i' : Int), (j' : Int)) ∧ SB Value.string e b rest n w' d' ∧ Ch (· = b) w w' ∧ x < i' ∧ j' < y ∧ i' ≤ j' + 2 ∧ partEqLoop slt x i' j' d' = partEqLoop slt x (x + 1) (y - 1) d0) (fun s _ => (s.2.2.2 + 1 - s.2.2.1).toNat)
    ⟨x + 1, y - 1, d0, rfl, h0, c0, by omega, by omega, by omega, rfl⟩ ?_
  rintro _ w6 ⟨i6, j6, d6, rfl, h6, c6, hi6, hj6, hij6, he6⟩ ag3 hag3
  show slices_partitionEqualOrdered_string_b0 R ag3 (slc b n c) x i6 j6 w6
  unfold slices_partitionEqualOrdered_string_b0
  rw [partEqLoop_eq] at he6
  refine Lp.mk (fun s w' => ∃ (i : Nat), s = (slc b n c, (x : Int), (i : Int), (j6 : Int)) ∧ SB Value.string e b rest n w' d6 ∧ Ch (· = b) w w' ∧ i6 ≤ i ∧ i ≤ j6 + 2 ∧ scanUp (fun u => !slt d6[x]! u) d6 j6 i = scanUp (fun u => !slt d6[x]! u) d6 j6 i6) (fun s _ => (j6 + 2 - s.2.2.1).toNat)
    ⟨i6, rfl, h6, c6, by omega, by omega, rfl⟩ ?_
  rintro _ w7 ⟨i7, rfl, h7, c7, hi67, hi72, he7⟩ ag4 hag4
  show slices_partitionEqualOrdered_string_b1 R ag3 ag4 (slc b n c) x i7 j6 w7
  unfold slices_partitionEqualOrdered_string_b1
  rw [← he7] at he6
  have next3 : ∀ (w8 : World), SB Value.string e b rest n w8 d6 → Ch (· = b) w w8 → scanUp (fun u => !slt d6[x]! u) d6 j6 i7 = i7 → slices_partitionEqualOrdered_string_k2 R ag3 ag4 (slc b n c) x i7 j6 false w8 := by
    intro w8 h8 c8 hs8
    rw [hs8] at he6
    unfold slices_partitionEqualOrdered_string_k2
    refine ⟨fun hc => (by cases hc), fun _ => ?_⟩
    refine Lp.mk (fun s w' => ∃ (j : Nat), s = (slc b n c, (x : Int), (i7 : Int), (j : Int)) ∧ SB Value.string e b rest n w' d6 ∧ Ch (· = b) w w' ∧ j ≤ j6 ∧ i7 ≤ j + 2 ∧ scanDown (fun u => slt d6[x]! u) d6 i7 j = scanDown (fun u => slt d6[x]! u) d6 i7 j6) (fun s _ => s.2.2.2.toNat)
      ⟨j6, rfl, h8, c8, by omega, by omega, rfl⟩ ?_
    rintro _ w9 ⟨j9, rfl, h9, c9, hj9, hij9, he9⟩ ag5 hag5
    show slices_partitionEqualOrdered_string_b3 R ag3 ag4 ag5 (slc b n c) x i7 j9 w9
    unfold slices_partitionEqualOrdered_string_b3
    rw [← he9] at he6
    have next4 : ∀ (wa : World), SB Value.string e b rest n wa d6 → Ch (· = b) w wa → scanDown (fun u => slt d6[x]! u) d6 i7 j9 = j9 → slices_partitionEqualOrdered_string_k4 R ag3 ag4 ag5 (slc b n c) x i7 j9 false wa := by
      intro wa ha ca hsa
      rw [hsa] at he6
      unfold slices_partitionEqualOrdered_string_k4
      refine ⟨fun hc => (by cases hc), fun _ => ⟨fun hb => ?_, fun hb => ?_⟩⟩
      · have hlt : i7 > j9 := by simp at hb; omega
        rw [if_pos hlt] at he6
        rw [← he6] at k
        exact k _ ha ca
      · have hge : ¬ i7 > j9 := by simp at hb; omega
        rw [if_neg hge] at he6
        refine s_swp i7 j9 ha rfl (by omega) rfl (by omega) fun wb hb cb => ?_
        rw [show IntKind.i64.wrap ((i7 : Int) + 1) = ((i7 + 1 : Nat) : Int) by rw [wrap_i64e]; omega, show IntKind.i64.wrap ((j9 : Int) - 1) = ((j9 - 1 : Nat) : Int) by rw [wrap_i64e]; omega]
        exact hag3 _ _ ⟨i7 + 1, j9 - 1, _, rfl, hb, ca.trans cb, by omega, by omega, by omega, he6⟩ (by dsimp only; omega)
    refine ⟨fun hb => ?_, fun hb => ?_⟩
    · have hle : i7 ≤ j9 := by simp at hb; omega
      refine s_cmp (lt := slt) x j9 less_string h9 rfl (by omega) rfl (by omega) ?_
      cases hc : slt d6[x]! d6[j9]! with
      | false => exact next4 _ h9.drew (chd c9) (scanDown_stop fun _ => hc)
      | true =>
        unfold slices_partitionEqualOrdered_string_k4
        refine ⟨fun _ => ?_, fun hc => (by cases hc)⟩
        rw [show IntKind.i64.wrap ((j9 : Int) - 1) = ((j9 - 1 : Nat) : Int) by rw [wrap_i64e]; omega]
        exact hag5 _ _ ⟨j9 - 1, rfl, h9.drew, chd c9, by omega, by omega, by rw [← he9]; exact (scanDown_go (by omega) hle hc).symm⟩ (by dsimp only; omega)
    · have hle : ¬ i7 ≤ j9 := by simp at hb; omega
      exact next4 _ h9.drew (chd c9) (scanDown_stop fun h => absurd h hle)
  refine ⟨fun hb => ?_, fun hb => ?_⟩
  · have hle : i7 ≤ j6 := by simp at hb; omega
    refine s_cmp (lt := slt) x i7 less_string h7 rfl (by omega) rfl (by omega) ?_
    cases hc : slt d6[x]! d6[i7]! with
    | true => exact next3 _ h7.drew (chd c7) (scanUp_stop fun _ => by simp [hc])
    | false =>
      unfold slices_partitionEqualOrdered_string_k2
      refine ⟨fun _ => ?_, fun hc => (by cases hc)⟩
      rw [show IntKind.i64.wrap ((i7 : Int) + 1) = ((i7 + 1 : Nat) : Int) by rw [wrap_i64e]; omega]
      exact hag4 _ _ ⟨i7 + 1, rfl, h7.drew, chd c7, by omega, by omega, by rw [← he7]; exact (scanUp_go hle (by simp [hc])).symm⟩ (by dsimp only; omega)
  · have hle : ¬ i7 ≤ j6 := by simp at hb; omega
    exact next3 _ h7.drew (chd c7) (scanUp_stop fun h => absurd h hle)
end Go.Proofs
