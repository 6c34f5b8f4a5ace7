/- The keys of a map, as a sequence (Digest). -/
import Derived.Test.YtnjilbgcflbghaaXF0
import Derived.Test.YtnjilbgcflbghaaXF1
import Derived.Test.YtnjilbgcflbghaaXE3
set_option linter.all false
set_option maxHeartbeats 1000000
namespace Go.Proofs
open Go Go.X
theorem keys_Digest {w : World} {r : Nat} {l : List (Int × Value)} (hm : MapB w r (Value.int .i64) l) (hv : ∀ p ∈ l, ∃ x, p.2 = Value.agg x) (R : Value → World → Prop)
    (k : ∀ fv w', SeqOK Try.prog fv (fun x : Int => #[(Value.int .i64) x]) l.length (fun xs => xs.Perm (l.map (·.1))) w' → Ext w w' → R fv w') : CallF Try.prog 99 #[.map (some r)] w R := by
  refine f99_ok R _ w ?_
  unfold f99
  refine New.mk fun a w1 ha hs1 hb1 c1 => k _ w1 ?_ c1
  intro y J Jx w2 K c2 hJ0 hJs hJr hKe hKx
  refine CallC.mk (fn := Try.f159) Try.func159 rfl rfl ?_
  refine f159_ok K y _ w2 ?_
  unfold f159
  refine Ld.blk (hb1.ext c2) rfl ?_
  obtain ⟨w3, f1, f2, f3, f4⟩ := range_run (P := Try.prog) Try.underlying181 ((hm.ext c1).ext c2)
  refine ⟨_, w3, f1, ?_⟩
  generalize hra : w2.heap.size = ra at *
  have hp0 : ∀ k, k = ra → w2.heap.size ≤ k ∧ k < w3.heap.size := fun k hk => by omega
  refine Lp.mk (fun s u => ∃ (xs : List Int) (left : List (Int × Value)), s = (y, .pointer (some ⟨ra, 0, none⟩)) ∧ RangeB u ra r (Value.int .i64) l left ∧ (∀ p ∈ left, p ∈ l) ∧ J (· = ra) xs u ∧ (xs ++ left.map (·.1)).Perm (l.map (·.1)) ∧ w3.heap.size ≤ u.heap.size)
    (fun _ u => l.length - iterN u ra) ⟨[], l, rfl, f2, fun _ h => h, hJ0 (· = ra) w3 f3 (fun k hk => ⟨by omega, by omega⟩), .refl _, Nat.le_refl _⟩ ?_
  rintro _ u ⟨xs, left, rfl, hR, hsub, hJ, hperm, hsz⟩ ag hag
  show f159_b0 K ag y (.pointer (some ⟨ra, 0, none⟩)) u
  unfold f159_b0
  rcases next_run (P := Try.prog) (ty := 0) hR with ⟨h0, hr⟩ | ⟨i, hi, u1, hr, he, hR1, cu1, hsu1⟩
  · refine ⟨_, u, hr, _, false, rfl, rfl, fun h => (by cases h), fun _ => ?_⟩
    subst h0
    exact hKe (· = ra) xs u (by simpa using hperm) hJ
  · refine ⟨_, u1, hr, _, true, rfl, rfl, fun _ => ?_, fun h => (by cases h)⟩
    obtain ⟨v, hv'⟩ := hv _ (hsub _ (List.getElem_mem hi))
    refine ⟨_, u1, he, _, v, by rw [hv'], ?_⟩
    have hJ1 := hJs (· = ra) xs u u1 hJ cu1
    have hlen : xs.length + left.length = l.length := by have := hperm.length_eq; simpa using this
    refine (hJr (· = ra) xs left[i].1 u1 hJ1 (by omega) (fun k hk => ⟨by omega, by omega⟩)).mono fun v u2 h => ?_
    rcases h with ⟨rfl, hJ2, cu2⟩ | ⟨rfl, hx⟩
    · refine ⟨true, rfl, fun h => (by cases h), fun _ => ?_⟩
      have hR2 : RangeB u2 ra r (Value.int .i64) l (left.eraseIdx i) := hR1.ch cu2 (fun h => h.1 rfl) (fun h => by have := hm.lt; have := c1.size; omega)
      refine hag _ _ ⟨xs ++ [left[i].1], left.eraseIdx i, rfl, hR2, fun p hp => hsub p (List.mem_of_mem_eraseIdx hp), hJ2, ?_, by have := cu2.size; omega⟩ ?_
      · refine List.Perm.trans ?_ hperm
        rw [List.append_assoc]
        refine List.Perm.append_left _ ?_
        have h1 : left.Perm (left[i] :: left.eraseIdx i) := perm_erase hi
        simpa using (h1.map (·.1)).symm
      · have h1 := hR.count
        have h2 := hR2.count
        rw [List.length_eraseIdx_of_lt hi] at h2
        omega
    · exact ⟨false, rfl, fun _ => hKx u2 hx, fun h => (by cases h)⟩
end Go.Proofs
