/- The sort's walks, at one type: broken patterns, the recursion, the sort. -/
import Derived.Test.YtnjilbgcflbghaaXF1
import Derived.Test.YtnjilbgcflbghaaXF2
import Derived.Test.YtnjilbgcflbghaaXSort4bstring
import Derived.Test.YtnjilbgcflbghaaXBits
set_option linter.all false
set_option maxHeartbeats 2000000
namespace Go.Proofs
open Go Go.X Go.Sort
variable {b n c : Nat} {e : TypeId} {rest : List Value} {w : World} {d : Array ByteArray} {R : Value → World → Prop}

theorem breakPatterns_string (h : SB Value.string e b rest n w d) (hn : n < 4611686018427387904) (x y : Nat) (hxy : x ≤ y) (hy : y ≤ n)
    (k : ∀ d' w', SB Value.string e b rest n w' d' → PermIn x y d d' → Ch (· = b) w w' → R (.tuple #[]) w') :
    CallF Try.prog 210 #[(slc b n c).v, .int .i64 x, .int .i64 y] w R := by
  refine slices_breakPatternsOrdered_string_ok R _ _ _ w ?_
  unfold slices_breakPatternsOrdered_string
  obtain ⟨m, hm⟩ : ∃ m, m = y - x := ⟨_, rfl⟩
  have el : IntKind.i64.wrap ((y : Int) - (x : Int)) = (m : Int) := by rw [wrap_i64e]; omega
  rw [el]
  refine ⟨fun hb => ?_, fun hb => k d w h (permIn_refl d x y) (Ch.refl _ _)⟩
  have h8 : 8 ≤ m := by simp at hb; omega
  refine New.mk fun p w1 hp hs hb1 hext => ?_
  have hbl : b < w.heap.size := h.1.lt
  have hpb : p ≠ b := by omega
  refine St.blk hb1 (by simp) fun w2 hb2 c2 => ?_
  have eu : IntKind.u64.wrap (m : Int) = iv (BitVec.ofNat 64 m) := wrapN uk64 m
  rw [eu] at hb2
  have c12 : Ext w w2 := hext.step c2 (fun _ _ h => h) (fun i hi h => by omega)
  refine nextPow_ok m (by omega) ⟨_, rfl, ?_⟩
  obtain ⟨q, hq⟩ : ∃ q, q = m / 4 := ⟨_, rfl⟩
  have hq4 : 4 * q ≤ m := by omega
  have hq2 : 2 ≤ q := by omega
  have et : Int.tdiv (m : Int) 4 = (q : Int) := by rw [Int.tdiv_eq_ediv_of_nonneg (by omega)]; omega
  rw [et]
  have e0 : ∀ z : Int, 0 ≤ z → z ≤ 4611686018427387904 * 2 - 1 → IntKind.i64.wrap z = z := fun z h1 h2 => by rw [wrap_i64e]; omega
  have e1 : IntKind.i64.wrap ((x : Int) + IntKind.i64.wrap (IntKind.i64.wrap (q : Int) * 2)) = ((x + q * 2 : Nat) : Int) := by
    rw [e0 (q : Int) (by omega) (by omega), e0 ((q : Int) * 2) (by omega) (by omega), e0 _ (by omega) (by omega)]; omega
  rw [e1, show IntKind.i64.wrap (((x + q * 2 : Nat) : Int) - 1) = ((x + q * 2 - 1 : Nat) : Int) by rw [wrap_i64e]; omega]
  have hmod : 2 ^ bitsLen m ≤ 2 * m := two_pow_bitsLen_le (by omega)
  have hmod0 : 0 < 2 ^ bitsLen m := Nat.pow_pos (by omega)
  generalize 2 ^ bitsLen m = md at hmod hmod0
  refine Lp.mk (fun s w' => ∃ (i : Nat) (d' : Array ByteArray) (r : BitVec 64), s = (slc b n c, (x : Int), (m : Int), some ⟨p, 0, none⟩, (md : Int), (i : Int)) ∧ SB Value.string e b rest n w' d' ∧ PermIn x y d d' ∧ Ch (· = b) w w' ∧ Blk w' p #[.int .u64 (iv r)] 336 ∧ x + q * 2 - 1 ≤ i ∧ i ≤ x + q * 2 + 2) (fun s _ => x + q * 2 + 2 - s.2.2.2.2.2.toNat)
    ⟨x + q * 2 - 1, d, _, rfl, h.ext c12, permIn_refl d x y, c12.mono fun _ _ h => h.elim, hb2, by omega, by omega⟩ ?_
  rintro _ w3 ⟨i, d3, r, rfl, h3, p3, c3, hr3, hi1, hi2⟩ ag2 hag2
  show slices_breakPatternsOrdered_string_b0 R ag2 (slc b n c) x m (some ⟨p, 0, none⟩) md i w3
  unfold slices_breakPatternsOrdered_string_b0
  rw [et, e1, show IntKind.i64.wrap (((x + q * 2 : Nat) : Int) + 1) = ((x + q * 2 + 1 : Nat) : Int) by rw [wrap_i64e]; omega]
  refine ⟨fun hb => ?_, fun hb => k d3 w3 h3 p3 c3⟩
  have hle : i ≤ x + q * 2 + 1 := by simp at hb; omega
  refine xorNext_ok r hr3 fun r4 w4 hr4 c4 => ⟨_, rfl, ?_⟩
  have h4 := h3.ch c4 hpb.symm
  have c34 : Ch (· = b) w w4 := c3.step c4 (fun _ _ h => h) (fun i hi h => by omega)
  have eand : ∃ u : Nat, u < md ∧ IntKind.i64.wrap (andK .u64 (iv r4) (IntKind.u64.wrap ((md : Int) - 1))) = (u : Int) := by
    have em : IntKind.u64.wrap ((md : Int) - 1) = iv (BitVec.ofNat 64 (md - 1)) := by
      rw [show (md : Int) - 1 = ((md - 1 : Nat) : Int) by omega]; exact wrapN uk64 _
    rw [em, and_iv uk64]
    have hlt : (r4 &&& BitVec.ofNat 64 (md - 1)).toNat ≤ md - 1 := by
      rw [BitVec.toNat_and, BitVec.toNat_ofNat, Nat.mod_eq_of_lt (by omega)]
      exact Nat.and_le_right
    exact ⟨(r4 &&& BitVec.ofNat 64 (md - 1)).toNat, by omega, by unfold iv; rw [wrap_i64e]; omega⟩
  obtain ⟨u, hu, eand⟩ := eand
  dsimp only
  rw [eand]
  have fin : ∀ (o : Nat), o < m → slices_breakPatternsOrdered_string_k1 R ag2 (slc b n c) x m (some ⟨p, 0, none⟩) md i o w4 := by
    intro o ho
    unfold slices_breakPatternsOrdered_string_k1
    rw [show IntKind.i64.wrap ((x : Int) + (o : Int)) = ((x + o : Nat) : Int) by rw [wrap_i64e]; omega, show IntKind.i64.wrap ((i : Int) + 1) = ((i + 1 : Nat) : Int) by rw [wrap_i64e]; omega]
    refine s_swp i (x + o) h4 rfl (by omega) rfl (by omega) fun w5 h5 c5 => ?_
    exact hag2 _ _ ⟨i + 1, _, r4, rfl, h5, permIn_trans _ _ _ x y p3 (swp_permIn d3 x y i (x + o) (by omega) (by omega) (by omega) (by omega) (by rw [h4.size]; omega)), c34.trans c5, hr4.ch c5 hpb, by omega, by omega⟩ (by dsimp only; omega)
  refine ⟨fun hb => ?_, fun hb => ?_⟩
  · have hge : m ≤ u := by simp at hb; omega
    rw [show IntKind.i64.wrap ((u : Int) - (m : Int)) = ((u - m : Nat) : Int) by rw [wrap_i64e]; omega]
    exact fin _ (by omega)
  · exact fin u (by simp at hb; omega)

theorem pdq_string : ∀ (t x y : Nat) (d : Array ByteArray) (w : World) (limit : Int) (R : Value → World → Prop), y - x ≤ t → n < 4611686018427387904 → x ≤ y → y ≤ n → SB Value.string e b rest n w d → Sort.Below slt x y d →
    (∀ d' w', SB Value.string e b rest n w' d' → PermIn x y d d' → SortedIn slt x y d' → Ch (· = b) w w' → R (.tuple #[]) w') →
    CallF Try.prog 193 #[(slc b n c).v, .int .i64 x, .int .i64 y, .int .i64 limit] w R := by
  intro t
  induction t using Nat.strongRecOn with
  | _ t ih =>
  intro x y d w limit R ht hn hxy hy h hbel k
  refine slices_pdqsortOrdered_string_ok R _ _ _ _ w ?_
  unfold slices_pdqsortOrdered_string
  have hsw : SWO slt := swo_slt
  refine Lp.mk (fun s w' => ∃ (x' y' : Nat) (d' : Array ByteArray) (lim : Int) (wb wp : Bool), s = (slc b n c, (x' : Int), (y' : Int), lim, wb, wp) ∧ SB Value.string e b rest n w' d' ∧ Ch (· = b) w w' ∧ x ≤ x' ∧ x' ≤ y' ∧ y' ≤ y ∧ Sort.Below slt x' y' d' ∧
      ∀ r, PermIn x' y' d' r → SortedIn slt x' y' r → PermIn x y d r ∧ SortedIn slt x y r) (fun s _ => (s.2.2.1 - s.2.1).toNat)
    ⟨x, y, d, limit, true, true, rfl, h, Ch.refl _ _, Nat.le_refl _, hxy, Nat.le_refl _, hbel, fun r h1 h2 => ⟨h1, h2⟩⟩ ?_
  rintro _ w1 ⟨x1, y1, d1, lim, wb, wp, rfl, h1, c1, hx1, hxy1, hy1, hb1, hr1⟩ ag1 hag1
  show slices_pdqsortOrdered_string_b0 R ag1 (slc b n c) x1 y1 lim wb wp w1
  unfold slices_pdqsortOrdered_string_b0
  have el : IntKind.i64.wrap ((y1 : Int) - (x1 : Int)) = ((y1 - x1 : Nat) : Int) := by rw [wrap_i64e]; omega
  rw [el]
  have sz : ∀ {d' w'}, SB Value.string e b rest n w' d' → y1 ≤ d'.size := fun h => by rw [h.size]; omega
  refine ⟨fun hb => ?_, fun hb => ?_⟩
  · refine insertion_string h1 hn x1 y1 hxy1 (by omega) fun w2 h2 c2 => ?_
    obtain ⟨p1, p2⟩ := insertionSort_holds hsw d1 x1 y1 hxy1 (sz h1)
    obtain ⟨q1, q2⟩ := hr1 _ p1 p2
    exact k _ w2 h2 q1 q2 (c1.trans c2)
  have h12 : 12 < y1 - x1 := by simp at hb; omega
  refine ⟨fun hb => ?_, fun hb => ?_⟩
  · refine heap_string h1 hn x1 y1 hxy1 (by omega) fun w2 h2 c2 => ?_
    obtain ⟨p1, p2⟩ := heapSort_holds hsw d1 x1 y1 hxy1 (sz h1)
    obtain ⟨q1, q2⟩ := hr1 _ p1 p2
    exact k _ w2 h2 q1 q2 (c1.trans c2)
  -- the state of a round: a permutation of what it began with
  have k3 : ∀ (lim : Int) (wb wp : Bool) (u : Nat) (d3 : Array ByteArray) (w3 : World), x1 ≤ u → u < y1 → SB Value.string e b rest n w3 d3 → Ch (· = b) w w3 → PermIn x1 y1 d1 d3 →
      slices_pdqsortOrdered_string_k3 R ag1 (slc b n c) x1 y1 lim wb wp (y1 - x1 : Nat) u w3 := by
    intro lim wb wp u d3 w3 hu1 hu2 h3 c3 p3
    have hb3 : Sort.Below slt x1 y1 d3 := hb1.perm (sz h1) p3
    have hr3 : ∀ r, PermIn x1 y1 d3 r → SortedIn slt x1 y1 r → PermIn x y d r ∧ SortedIn slt x y r := fun r a b => hr1 r (permIn_trans _ _ _ _ _ p3 a) b
    have part : ∀ w4, SB Value.string e b rest n w4 d3 → Ch (· = b) w w4 → slices_pdqsortOrdered_string_k4 R ag1 (slc b n c) x1 y1 lim wb wp (y1 - x1 : Nat) u false w4 := by
      intro w4 h4 c4
      unfold slices_pdqsortOrdered_string_k4
      refine ⟨fun hc => (by cases hc), fun _ => ?_⟩
      obtain ⟨⟨mid, ap, d4⟩, hx⟩ : ∃ r, partition slt d3 x1 y1 u = r := ⟨_, rfl⟩
      obtain ⟨g1, g2, g3, gB1, gB2, gL, gR⟩ := round_part hsw (partition_holds slt) hu1 hu2 (sz h3) hb3 hx
      refine partition_string h4 hn x1 y1 u hu1 hu2 (by omega) fun w5 h5 c5 => ⟨_, _, rfl, ?_⟩
      rw [hx] at h5 ⊢
      dsimp only at h5 ⊢
      have c5 := c4.trans c5
      rw [show IntKind.i64.wrap ((mid : Int) + 1) = ((mid + 1 : Nat) : Int) by rw [wrap_i64e]; omega]
      refine ⟨fun _ => ?_, fun _ => ?_⟩
      · refine ih (mid - x1) (by omega) x1 mid d4 w5 lim _ (Nat.le_refl _) hn g1 (by omega) h5 gB1 fun d6 w6 h6 p6 s6 c6 => ?_
        obtain ⟨f1, f2⟩ := gL d6 p6 s6
        exact hag1 _ _ ⟨mid + 1, y1, d6, lim, _, _, rfl, h6, c5.trans c6, by omega, by omega, hy1, f1, fun r a b => hr3 r (f2 r a b).1 (f2 r a b).2⟩ (by dsimp only; omega)
      · refine ih (y1 - (mid + 1)) (by omega) (mid + 1) y1 d4 w5 lim _ (Nat.le_refl _) hn (by omega) (by omega) h5 gB2 fun d6 w6 h6 p6 s6 c6 => ?_
        obtain ⟨f1, f2⟩ := gR d6 p6 s6
        exact hag1 _ _ ⟨x1, mid, d6, lim, _, _, rfl, h6, c5.trans c6, hx1, g1, by omega, f1, fun r a b => hr3 r (f2 r a b).1 (f2 r a b).2⟩ (by dsimp only; omega)
    unfold slices_pdqsortOrdered_string_k3
    refine ⟨fun hb => ?_, fun hb => ?_⟩
    · have hx0 : 0 < x1 := by simp at hb; omega
      refine s_cmp (lt := slt) (x1 - 1) u less_string h3 (by rw [wrap_i64e]; omega) (by omega) rfl (by omega) ?_
      cases hc : slt d3[x1 - 1]! d3[u]! with
      | true => exact part _ h3.drew (chd c3)
      | false =>
        unfold slices_pdqsortOrdered_string_k4
        refine ⟨fun _ => ?_, fun hc => (by cases hc)⟩
        obtain ⟨⟨mid, d4⟩, hx⟩ : ∃ r, partitionEqual slt d3 x1 y1 u = r := ⟨_, rfl⟩
        obtain ⟨g1, g2, g3, gB, gR⟩ := round_eq hsw (partitionEqual_holds slt) hx0 hu1 hu2 (sz h3) hb3 hc hx
        refine partitionEqual_string h3.drew hn x1 y1 u hu1 hu2 (by omega) fun w5 h5 c5 => ⟨_, rfl, ?_⟩
        rw [hx] at h5 ⊢
        dsimp only at h5 ⊢
        exact hag1 _ _ ⟨mid, y1, d4, lim, wb, wp, rfl, h5, (chd c3).trans c5, by omega, g2, hy1, gB, fun r a b => hr3 r (gR r a b).1 (gR r a b).2⟩ (by dsimp only; omega)
    · exact part _ h3.drew (chd c3)
  have k5 : ∀ (lim : Int) (wb wp : Bool) (u : Nat) (d3 : Array ByteArray) (w3 : World) (t : Bool), x1 ≤ u → u < y1 → SB Value.string e b rest n w3 d3 → Ch (· = b) w w3 → PermIn x1 y1 d1 d3 →
      slices_pdqsortOrdered_string_k5 R ag1 (slc b n c) x1 y1 lim wb wp (y1 - x1 : Nat) u t w3 := by
    intro lim wb wp u d3 w3 t hu1 hu2 h3 c3 p3
    unfold slices_pdqsortOrdered_string_k5
    refine ⟨fun _ => ?_, fun _ => k3 lim wb wp u d3 w3 hu1 hu2 h3 c3 p3⟩
    have hp := partialInsertionSort_holds hsw d3 x1 y1 (by omega) (sz h3) (hb1.perm (sz h1) p3)
    refine partialIns_string h3 hn x1 y1 (by omega) (by omega) fun w4 h4 c4 => ⟨_, rfl, ?_⟩
    refine ⟨fun hc => ?_, fun _ => k3 lim wb wp u _ w4 hu1 hu2 h4 (c3.trans c4) (permIn_trans _ _ _ _ _ p3 hp.1)⟩
    obtain ⟨q1, q2⟩ := hr1 _ (permIn_trans _ _ _ _ _ p3 hp.1) (hp.2 hc)
    exact k _ w4 h4 q1 q2 (c3.trans c4)
  have k2 : ∀ (lim : Int) (wb wp : Bool) (u : Nat) (d3 : Array ByteArray) (w3 : World) (hint : Int), x1 ≤ u → u < y1 → SB Value.string e b rest n w3 d3 → Ch (· = b) w w3 → PermIn x1 y1 d1 d3 →
      slices_pdqsortOrdered_string_k2 R ag1 (slc b n c) x1 y1 lim wb wp (y1 - x1 : Nat) u hint w3 := by
    intro lim wb wp u d3 w3 hint hu1 hu2 h3 c3 p3
    unfold slices_pdqsortOrdered_string_k2
    exact ⟨fun _ => ⟨fun _ => k5 _ _ _ _ _ _ _ hu1 hu2 h3 c3 p3, fun _ => k5 _ _ _ _ _ _ _ hu1 hu2 h3 c3 p3⟩, fun _ => k5 _ _ _ _ _ _ _ hu1 hu2 h3 c3 p3⟩
  have k1 : ∀ (lim : Int) (wb wp : Bool) (d3 : Array ByteArray) (w3 : World), SB Value.string e b rest n w3 d3 → Ch (· = b) w w3 → PermIn x1 y1 d1 d3 →
      slices_pdqsortOrdered_string_k1 R ag1 (slc b n c) x1 y1 lim wb wp (y1 - x1 : Nat) w3 := by
    intro lim wb wp d3 w3 h3 c3 p3
    unfold slices_pdqsortOrdered_string_k1
    refine choosePivot_string h3 hn x1 y1 (by omega) (by omega) fun u hint w4 hu1 hu2 c4 => ⟨_, _, rfl, ?_⟩
    have h4 := h3.ext c4
    have c4 : Ch (· = b) w w4 := c3.trans (c4.mono fun _ _ h => h.elim)
    refine ⟨fun _ => ?_, fun _ => k2 _ _ _ _ _ _ _ hu1 hu2 h4 c4 p3⟩
    refine reverse_string h4 hn x1 y1 (by omega) (by omega) fun w5 h5 c5 => ?_
    rw [show IntKind.i64.wrap (IntKind.i64.wrap ((y1 : Int) - 1) - IntKind.i64.wrap ((u : Int) - (x1 : Int))) = ((y1 - 1 - (u - x1) : Nat) : Int) by
      rw [show IntKind.i64.wrap ((y1 : Int) - 1) = ((y1 - 1 : Nat) : Int) by rw [wrap_i64e]; omega, show IntKind.i64.wrap ((u : Int) - (x1 : Int)) = ((u - x1 : Nat) : Int) by rw [wrap_i64e]; omega, wrap_i64e]; omega]
    exact k2 _ _ _ _ _ _ _ (by omega) (by omega) h5 (c4.trans c5) (permIn_trans _ _ _ _ _ p3 (reverseRange_holds d3 x1 y1 (by omega) (sz h3)))
  refine ⟨fun _ => ?_, fun _ => k1 _ _ _ _ _ h1 c1 (permIn_refl _ _ _)⟩
  exact breakPatterns_string h1 hn x1 y1 (by omega) (by omega) fun d2 w2 h2 p2 c2 => k1 _ _ _ _ _ h2 (c1.trans c2) p2

/-- slices.Sort. -/
theorem sort_string (h : SB Value.string e b rest n w d) (hn : n < 4611686018427387904) (k : ∀ d' w', SB Value.string e b rest n w' d' → d'.toList.Perm d.toList → (∀ i j, i < j → j < n → slt d'[j]! d'[i]! = false) → Ch (· = b) w w' → R (.tuple #[]) w') :
    CallF Try.prog 154 #[(slc b n c).v] w R := by
  refine slices_Sort_string_string_ok R _ w ?_
  unfold slices_Sort_string_string
  show CallF _ _ #[.int .u64 (IntKind.u64.wrap ((n : Nat) : Int))] _ _
  rw [show IntKind.u64.wrap (n : Int) = (n : Int) by rw [wrap_u64e]; omega]
  refine bitsLen_ok n (by omega) ⟨_, rfl, ?_⟩
  refine pdq_string n 0 n d w _ _ (by omega) hn (by omega) (Nat.le_refl _) h (.inl rfl) fun d' w' h' p' s' c' => ?_
  refine k d' w' h' ?_ (fun i j hi hj => s' i j (by omega) hi hj) c'
  have := p'.2.2
  have e1 : d'.extract 0 n = d' := by rw [← h'.size]; simp
  have e2 : d.extract 0 n = d := by rw [← h.size]; simp
  rwa [e1, e2] at this
end Go.Proofs
