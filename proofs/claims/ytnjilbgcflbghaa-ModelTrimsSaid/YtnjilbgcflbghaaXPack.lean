/- pack: numbers and bytes, put behind others. -/
import Derived.Test.YtnjilbgcflbghaaXF1
import Derived.Test.YtnjilbgcflbghaaXNum
set_option linter.all false
namespace Go.Proofs
open Go Go.X

theorem pack_Number_spec {w : World} {s : Sl} {xs : List Value} {v : Int} (n : Nat) (hv : v = n) (hn : n < 18446744073709551616) (ho : Own w s 5 1 xs) (hl : s.len + 10 ≤ 140737488355328) :
    CallF Try.prog 125 #[s.v, .int .u64 v] w fun r w' => ∃ s', r = s'.v ∧ Own w' s' 5 1 (xs ++ u8s (vint n)) ∧ Ch s.blk w w' ∧ s'.len = s.len + (vint n).length ∧ (∀ b, s'.blk b → s.blk b ∨ w.heap.size ≤ b) := by
  subst hv
  refine pack_Number_ok _ s n w ?_
  unfold pack_Number
  refine ⟨fun q wr => ∃ (m : Nat) (ys : List Nat), q.2 = (m : Int) ∧ m < 18446744073709551616 ∧ Own wr q.1 5 1 (xs ++ u8s ys) ∧ Ch s.blk w wr ∧ ys ++ vint m = vint n ∧ q.1.len = s.len + ys.length ∧ (∀ b, q.1.blk b → s.blk b ∨ w.heap.size ≤ b),
    fun q _ => q.2.toNat, ⟨n, [], rfl, hn, by simpa using ho, Ch.refl _ _, rfl, by simp, fun b hb => .inl hb⟩, ?_⟩
  rintro ⟨q, v⟩ wr ⟨m, ys, rfl, hm, ho', hc, he, hql, hqb⟩
  have hlen := vint_len10 hn
  have hys : ys.length + (vint m).length = (vint n).length := by rw [← he]; simp
  have hpos := vint_pos m
  simp only at hql hqb ho'
  refine ⟨fun hb => ?_, fun hb => ?_⟩
  · have h128 : ¬ m < 128 := by simp at hb; omega
    refine Ef.append1 (s := q) Try.underlying39 Try.ti5 rfl (by decide) ho' (n := 1) rfl (by simp [Value.oneCell']) (by omega) (by omega) ?_
    intro s' w' ho2 hc2 hl2 hb2
    rw [show shrK .u64 (m : Int) 7 = ((m / 128 : Nat) : Int) from shrK_nat m 7 (by decide)]
    refine ⟨⟨m / 128, ys ++ [m % 128 + 128], rfl, by omega, ?_, ?_, ?_, ?_, ?_⟩, ?_⟩
    · rw [orK_128] at ho2
      simpa using ho2
    · exact hc.step hc2 (fun _ _ h => h) (fun i hi h => (hqb i h).resolve_right (by omega))
    · rw [← he, vint_big h128]; simp
    · rw [hl2, hql]; simp; omega
    · intro b hb3
      rcases hb2 b hb3 with h | h
      · exact hqb b h
      · right; have := hc.size; omega
    · simp; omega
  · have h128 : m < 128 := by simp at hb; omega
    refine Ef.append1 (s := q) Try.underlying39 Try.ti5 rfl (by decide) ho' (n := 1) rfl (by simp [Value.oneCell']) (by omega) (by omega) ?_
    intro s' w' ho2 hc2 hl2 hb2
    refine ⟨s', rfl, ?_, hc.step hc2 (fun _ _ h => h) (fun i hi h => (hqb i h).resolve_right (by omega)), ?_, ?_⟩
    · rw [wrap8_nat, Nat.mod_eq_of_lt (by omega)] at ho2
      rw [← he, vint_small h128]
      simpa using ho2
    · rw [hl2, hql, ← he, vint_small h128]; simp; omega
    · intro b hb3
      rcases hb2 b hb3 with h | h
      · exact hqb b h
      · right; have := hc.size; omega

theorem pack_Bytes_spec {w : World} {s x : Sl} {xs : List Value} {ys : List Nat} (ho : Own w s 5 1 xs) (hx : Sees w x 1 (u8s ys)) (hd : ∀ k, x.blk k → ¬ s.blk k) (hl : s.len + x.len + 10 ≤ 140737488355328) :
    CallF Try.prog 126 #[s.v, x.v] w fun r w' => ∃ s', r = s'.v ∧ Own w' s' 5 1 (xs ++ u8s (vint ys.length ++ ys)) ∧ Ch s.blk w w' ∧ s'.len = s.len + (vint ys.length ++ ys).length ∧ (∀ b, s'.blk b → s.blk b ∨ w.heap.size ≤ b) := by
  have hxl : ys.length = x.len := by simpa using hx.1
  refine pack_Bytes_ok _ s x w ?_
  unfold pack_Bytes
  rw [wrap_u64 (by omega) (by omega)]
  refine (pack_Number_spec x.len rfl (by omega) ho (by omega)).mono ?_
  rintro _ w1 ⟨s1, rfl, ho1, hc1, hl1, hb1⟩
  refine ⟨s1, rfl, ?_⟩
  have hn := vint_len10 (show x.len < 18446744073709551616 by omega)
  refine Ef.append Try.underlying39 Try.ti5 rfl (by decide) ho1 (hx.ch hc1 hd) (u8s_one ys) (by omega) (by omega) ?_
  intro s2 w2 ho2 hc2 hl2 hb2
  refine ⟨s2, rfl, ?_, hc1.step hc2 (fun _ _ h => h) (fun i hi h => (hb1 i h).resolve_right (by omega)), ?_, ?_⟩
  · rw [hxl]; simpa using ho2
  · rw [hl2, hl1, hxl]; simp; omega
  · intro b hb
    rcases hb2 b hb with h | h
    · exact hb1 b h
    · right; have := hc1.size; omega
end Go.Proofs
