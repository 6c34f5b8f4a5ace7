/- The sort's walks: lengths in bits, the drawn numbers. -/
import Derived.Test.YtnjilbgcflbghaaXF1
import Derived.Test.YtnjilbgcflbghaaXF2
import Derived.Test.YtnjilbgcflbghaaXF4
import Derived.Test.YtnjilbgcflbghaaXE3
set_option linter.all false
set_option maxHeartbeats 1000000
set_option maxRecDepth 20000
namespace Go.Proofs
open Go Go.X Go.Sort
variable {w : World} {R : Value → World → Prop}
theorem len64 (x : Nat) (hx : x < 18446744073709551616) (k : R (.int .i64 (bitsLen x)) w) : CallF Try.prog 218 #[.int .u64 x] w R := by
  refine f218_ok R _ w ?_
  have fin : ∀ (m s : Nat), m < 256 → s ≤ 56 → bitsLen m + s = bitsLen x → f218_k2 R m s w := by
    intro m s hm hs he
    unfold f218_k2
    have e8 : IntKind.u8.wrap (m : Int) = (m : Int) := by rw [wrap8_nat, Nat.mod_eq_of_lt hm]
    rw [e8]
    refine ⟨by omega, Int.lt_of_lt_of_le (show (m : Int) < (256 : Nat) by omega) (Int.ofNat_le.2 (by decide)), ?_⟩
    have e : ∀ t : ByteArray, t.data.toList = len8 → IntKind.i64.wrap ((s : Int) + IntKind.i64.wrap ((t.data.toList.getD ((m : Int)).toNat 0).toNat : Int)) = (bitsLen x : Int) := by
      intro t ht
      have h8 := len8_tab ⟨m, hm⟩
      have hb : bitsLen m ≤ 8 := (bitsLen_le_iff m 8).2 (by omega)
      rw [ht, Int.toNat_natCast, h8, show IntKind.i64.wrap (bitsLen m : Int) = (bitsLen m : Int) by rw [wrap_i64e]; omega, wrap_i64e]
      omega
    rw [e _ (by decide +kernel)]
    exact k
  have k1 : ∀ (m s : Nat), m < 65536 → s ≤ 48 → bitsLen m + s = bitsLen x → f218_k1 R m s w := by
    intro m s hm hs he
    unfold f218_k1
    refine ⟨fun hb => ?_, fun hb => ?_⟩
    · have hge : 2 ^ 8 ≤ m := by simp at hb; omega
      have := bitsLen_shift hge
      rw [show shrK .u64 (m : Int) 8 = ((m / 2 ^ 8 : Nat) : Int) from shrK_nat m 8 (by decide), show IntKind.i64.wrap ((s : Int) + 8) = ((s + 8 : Nat) : Int) by rw [wrap_i64e]; omega]
      exact fin _ _ (by omega) (by omega) (by omega)
    · exact fin m s (by simp at hb; omega) (by omega) he
  have k0 : ∀ (m s : Nat), m < 4294967296 → s ≤ 32 → bitsLen m + s = bitsLen x → f218_k0 R m s w := by
    intro m s hm hs he
    unfold f218_k0
    refine ⟨fun hb => ?_, fun hb => ?_⟩
    · have hge : 2 ^ 16 ≤ m := by simp at hb; omega
      have := bitsLen_shift hge
      rw [show shrK .u64 (m : Int) 16 = ((m / 2 ^ 16 : Nat) : Int) from shrK_nat m 16 (by decide), show IntKind.i64.wrap ((s : Int) + 16) = ((s + 16 : Nat) : Int) by rw [wrap_i64e]; omega]
      exact k1 _ _ (by omega) (by omega) (by omega)
    · exact k1 m s (by simp at hb; omega) (by omega) he
  unfold f218
  refine ⟨fun hb => ?_, fun hb => ?_⟩
  · have hge : 2 ^ 32 ≤ x := by simp at hb; omega
    have := bitsLen_shift hge
    rw [show shrK .u64 (x : Int) 32 = ((x / 2 ^ 32 : Nat) : Int) from shrK_nat x 32 (by decide)]
    exact k0 _ 32 (by omega) (by omega) (by omega)
  · exact k0 x 0 (by simp at hb; omega) (by omega) rfl
theorem bitsLen_ok (x : Nat) (hx : x < 18446744073709551616) (k : R (.int .i64 (bitsLen x)) w) : CallF Try.prog 194 #[.int .u64 x] w R := by
  refine f194_ok R _ w ?_
  unfold f194
  exact len64 x hx ⟨_, rfl, k⟩
theorem nextPow_ok (x : Nat) (hx : x < 4611686018427387904) (k : R (.int .u64 (2 ^ bitsLen x : Nat)) w) : CallF Try.prog 242 #[.int .i64 x] w R := by
  refine f242_ok R _ w ?_
  unfold f242
  rw [show IntKind.u64.wrap (x : Int) = (x : Int) by rw [wrap_u64e]; omega]
  refine bitsLen_ok x (by omega) ⟨_, rfl, by omega, ?_⟩
  have hl : bitsLen x ≤ 62 := (bitsLen_le_iff x 62).2 (by omega)
  have e : shlK .u64 1 (bitsLen x : Int) = ((2 ^ bitsLen x : Nat) : Int) := by
    unfold shlK
    rw [show min ((bitsLen x : Int)).toNat IntKind.u64.bits = bitsLen x by simp [IntKind.bits]; omega, wrap_u64e]
    have : 2 ^ bitsLen x ≤ 2 ^ 62 := Nat.pow_le_pow_right (by omega) hl
    have e2 : (2 : Int) ^ bitsLen x = ((2 ^ bitsLen x : Nat) : Int) := by norm_cast
    rw [Int.one_mul, e2]
    generalize 2 ^ bitsLen x = q at this ⊢
    exact Int.emod_eq_of_lt (by omega) (by omega)
  rw [e]
  exact k
theorem xorNext_ok {p : Nat} (x : BitVec 64) (h : Blk w p #[.int .u64 (iv x)] 336) (k : ∀ (y : BitVec 64) w', Blk w' p #[.int .u64 (iv y)] 336 → Ch (· = p) w w' → R (.int .u64 (iv y)) w') : CallF Try.prog 243 #[.pointer (some ⟨p, 0, none⟩)] w R := by
  refine f243_ok R _ w ?_
  unfold f243
  have cd : ∀ w, Ch (· = p) w w.drew := fun w => (Ch.drew w).mono fun _ _ h => h.elim
  have h1 := h.ext (Ch.drew w)
  refine ⟨_, rfl, Ld.blk h1 rfl ⟨_, rfl, Ld.blk h1 rfl ⟨_, rfl, ?_⟩⟩⟩
  rw [show (13 : Int) = ((13 : Nat) : Int) from rfl, shl_iv uk64, xor_iv uk64]
  refine St.blk h1 (by simp) fun w2 h2 c2 => ⟨_, rfl, ?_⟩
  have h3 := h2.ext (Ch.drew w2)
  refine Ld.blk h3 rfl ⟨_, rfl, Ld.blk h3 rfl ⟨_, rfl, ?_⟩⟩
  rw [show (7 : Int) = ((7 : Nat) : Int) from rfl, shr_iv uk64, xor_iv uk64]
  refine St.blk h3 (by simp) fun w4 h4 c4 => ⟨_, rfl, ?_⟩
  have h5 := h4.ext (Ch.drew w4)
  refine Ld.blk h5 rfl ⟨_, rfl, Ld.blk h5 rfl ⟨_, rfl, ?_⟩⟩
  rw [show (17 : Int) = ((17 : Nat) : Int) from rfl, shl_iv uk64, xor_iv uk64]
  refine St.blk h5 (by simp) fun w6 h6 c6 => ⟨_, rfl, Ld.blk h6 rfl ?_⟩
  exact k _ w6 h6 ((cd w).trans (c2.trans ((cd w2).trans (c4.trans ((cd w4).trans c6)))))
end Go.Proofs
