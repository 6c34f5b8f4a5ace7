/- The sort's walks, at one type: insertion in part, the pivot. -/
import Derived.Test.YtnjilbgcflbghaaXF2
import Derived.Test.YtnjilbgcflbghaaXF3
import Derived.Test.YtnjilbgcflbghaaXF4
import Derived.Test.YtnjilbgcflbghaaXSort4astring
set_option linter.all false
set_option maxHeartbeats 1000000
namespace Go.Proofs
open Go Go.X Go.Sort
variable {b n c : Nat} {e : TypeId} {rest : List Value} {w : World} {d : Array ByteArray} {R : Value → World → Prop}

/-! ## The pivot: it lies in range -/
/-- The count of exchanges lies in a block of its own. -/
def Cnt_string (w : World) (p : Nat) : Prop := ∃ m : Int, Blk w p #[.int .i64 m] 3
theorem order2_string {p : Nat} (h : SB Value.string e b rest n w d) (hp : Cnt_string w p) (x y : Nat) (hx : x < n) (hy : y < n)
    (k : ∀ (u v : Nat) w', (u = x ∧ v = y ∨ u = y ∧ v = x) → Cnt_string w' p → Ch (· = p) w w' → R (.tuple #[.int .i64 u, .int .i64 v]) w') :
    CallF Try.prog 256 #[(slc b n c).v, .int .i64 x, .int .i64 y, .pointer (some ⟨p, 0, none⟩)] w R := by
  refine slices_order2Ordered_string_ok R _ _ _ _ w ?_
  unfold slices_order2Ordered_string
  refine s_cmp (lt := slt) y x less_string h rfl (by omega) rfl (by omega) ?_
  obtain ⟨m, hp⟩ := hp
  have hp' := hp.ext (Ch.drew w)
  have cd : Ch (· = p) w w.drew := (Ch.drew w).mono fun _ _ h => h.elim
  refine ⟨fun _ => ⟨_, rfl, Ld.blk hp' rfl ⟨_, rfl, St.blk hp' (by simp) fun w2 h2 c2 => k y x w2 (.inr ⟨rfl, rfl⟩) ⟨_, h2⟩ (cd.trans c2)⟩⟩, fun _ => k x y _ (.inl ⟨rfl, rfl⟩) ⟨m, hp'⟩ cd⟩
theorem median_string {p : Nat} (h : SB Value.string e b rest n w d) (hp : Cnt_string w p) (hpb : p ≠ b) (x y z : Nat) (hx : x < n) (hy : y < n) (hz : z < n)
    (k : ∀ (u : Nat) w', (u = x ∨ u = y ∨ u = z) → Cnt_string w' p → Ch (· = p) w w' → R (.int .i64 u) w') :
    CallF Try.prog 245 #[(slc b n c).v, .int .i64 x, .int .i64 y, .int .i64 z, .pointer (some ⟨p, 0, none⟩)] w R := by
  refine slices_medianOrdered_string_ok R _ _ _ _ _ w ?_
  unfold slices_medianOrdered_string
  refine order2_string h hp x y hx hy fun u1 v1 w1 e1 hp1 c1 => ⟨_, _, rfl, ?_⟩
  have h1 := h.ch c1 hpb.symm
  refine order2_string h1 hp1 v1 z (by omega) hz fun u2 v2 w2 e2 hp2 c2 => ⟨_, _, rfl, ?_⟩
  have h2 := h1.ch c2 hpb.symm
  refine order2_string h2 hp2 u1 u2 (by omega) (by omega) fun u3 v3 w3 e3 hp3 c3 => ⟨_, _, rfl, ?_⟩
  exact k v3 w3 (by omega) hp3 (c1.trans (c2.trans c3))
theorem medianAdjacent_string {p : Nat} (h : SB Value.string e b rest n w d) (hn : n < 4611686018427387904) (hp : Cnt_string w p) (hpb : p ≠ b) (x : Nat) (hx : 0 < x) (hy : x + 1 < n)
    (k : ∀ (u : Nat) w', (x ≤ u + 1 ∧ u ≤ x + 1) → Cnt_string w' p → Ch (· = p) w w' → R (.int .i64 u) w') :
    CallF Try.prog 244 #[(slc b n c).v, .int .i64 x, .pointer (some ⟨p, 0, none⟩)] w R := by
  refine slices_medianAdjacentOrdered_string_ok R _ _ _ w ?_
  unfold slices_medianAdjacentOrdered_string
  rw [show IntKind.i64.wrap ((x : Int) + 1) = ((x + 1 : Nat) : Int) by rw [wrap_i64e]; omega, show IntKind.i64.wrap ((x : Int) - 1) = ((x - 1 : Nat) : Int) by rw [wrap_i64e]; omega]
  exact median_string h hp hpb (x - 1) x (x + 1) (by omega) (by omega) (by omega) fun u w' hu hp' c' => ⟨_, rfl, k u w' (by omega) hp' c'⟩
theorem choosePivot_string (h : SB Value.string e b rest n w d) (hn : n < 4611686018427387904) (x y : Nat) (hxy : x < y) (hy : y ≤ n)
    (k : ∀ (u : Nat) (hint : Int) w', x ≤ u → u < y → Ext w w' → R (.tuple #[.int .i64 u, .int .i64 hint]) w') :
    CallF Try.prog 211 #[(slc b n c).v, .int .i64 x, .int .i64 y] w R := by
  refine slices_choosePivotOrdered_string_ok R _ _ _ w ?_
  unfold slices_choosePivotOrdered_string
  refine New.mk fun p w1 hp hs hb1 hext => ?_
  have hbl : b < w.heap.size := h.1.lt
  have h1 := h.ext hext
  have hpb : p ≠ b := by omega
  have cnt1 : Cnt_string w1 p := ⟨0, hb1⟩
  have back : ∀ w', Ch (· = p) w1 w' → Ext w w' := fun w' c' => hext.step c' (fun _ _ h => h) (fun i hi h => by omega)
  have fin : ∀ (u : Nat) w', x ≤ u → u < y → Cnt_string w' p → Ch (· = p) w1 w' → slices_choosePivotOrdered_string_k0 R (some ⟨p, 0, none⟩) u w' := by
    intro u w' hu1 hu2 hc c'
    obtain ⟨m, hc⟩ := hc
    unfold slices_choosePivotOrdered_string_k0
    refine Ld.blk (x := m) hc rfl ⟨fun _ => k u 1 w' hu1 hu2 (back w' c'), fun _ => ⟨fun _ => k u 2 w' hu1 hu2 (back w' c'), fun _ => k u 0 w' hu1 hu2 (back w' c')⟩⟩
  have med : ∀ (u v z : Nat) w', x ≤ u → u < y → x ≤ v → v < y → x ≤ z → z < y → Cnt_string w' p → Ch (· = p) w1 w' → slices_choosePivotOrdered_string_k1 R (slc b n c) (some ⟨p, 0, none⟩) u v z w' := by
    intro u v z w' hu1 hu2 hv1 hv2 hz1 hz2 hc c'
    unfold slices_choosePivotOrdered_string_k1
    exact median_string (h1.ch c' hpb.symm) hc hpb u v z (by omega) (by omega) (by omega) fun r w'' hr hc' c'' => ⟨_, rfl, fin r w'' (by omega) (by omega) hc' (c'.trans c'')⟩
  have el : IntKind.i64.wrap ((y : Int) - (x : Int)) = ((y - x : Nat) : Int) := by rw [wrap_i64e]; omega
  rw [el]
  obtain ⟨q, hq⟩ : ∃ q, q = (y - x) / 4 := ⟨_, rfl⟩
  have hq4 : 4 * q ≤ y - x := by omega
  have et : Int.tdiv ((y - x : Nat) : Int) 4 = (q : Int) := by rw [Int.tdiv_eq_ediv_of_nonneg (by omega)]; omega
  rw [et]
  have e0 : ∀ z : Int, 0 ≤ z → z ≤ 4611686018427387904 * 2 - 1 → IntKind.i64.wrap z = z := fun z h1 h2 => by rw [wrap_i64e]; omega
  have e1 : IntKind.i64.wrap ((x : Int) + IntKind.i64.wrap (IntKind.i64.wrap (q : Int) * 1)) = ((x + q * 1 : Nat) : Int) := by
    rw [e0 (q : Int) (by omega) (by omega), e0 ((q : Int) * 1) (by omega) (by omega), e0 _ (by omega) (by omega)]; omega
  have e2 : IntKind.i64.wrap ((x : Int) + IntKind.i64.wrap (IntKind.i64.wrap (q : Int) * 2)) = ((x + q * 2 : Nat) : Int) := by
    rw [e0 (q : Int) (by omega) (by omega), e0 ((q : Int) * 2) (by omega) (by omega), e0 _ (by omega) (by omega)]; omega
  have e3 : IntKind.i64.wrap ((x : Int) + IntKind.i64.wrap (IntKind.i64.wrap (q : Int) * 3)) = ((x + q * 3 : Nat) : Int) := by
    rw [e0 (q : Int) (by omega) (by omega), e0 ((q : Int) * 3) (by omega) (by omega), e0 _ (by omega) (by omega)]; omega
  rw [e1, e2, e3]
  refine ⟨fun hb => ?_, fun hb => ?_⟩
  · have h8 : 8 ≤ y - x := by simp at hb; omega
    refine ⟨fun hb => ?_, fun hb => ?_⟩
    · have h50 : 50 ≤ y - x := by simp at hb; omega
      refine medianAdjacent_string h1 hn cnt1 hpb (x + q * 1) (by omega) (by omega) fun u1 w2 hu1 hc2 c2 => ⟨_, rfl, ?_⟩
      refine medianAdjacent_string (h1.ch c2 hpb.symm) hn hc2 hpb (x + q * 2) (by omega) (by omega) fun u2 w3 hu2 hc3 c3 => ⟨_, rfl, ?_⟩
      have c3 := c2.trans c3
      refine medianAdjacent_string (h1.ch c3 hpb.symm) hn hc3 hpb (x + q * 3) (by omega) (by omega) fun u3 w4 hu3 hc4 c4 => ⟨_, rfl, ?_⟩
      exact med u1 u2 u3 w4 (by omega) (by omega) (by omega) (by omega) (by omega) (by omega) hc4 (c3.trans c4)
    · exact med _ _ _ w1 (by omega) (by omega) (by omega) (by omega) (by omega) (by omega) cnt1 (Ch.refl _ _)
  · exact fin _ w1 (by omega) (by omega) cnt1 (Ch.refl _ _)
end Go.Proofs
