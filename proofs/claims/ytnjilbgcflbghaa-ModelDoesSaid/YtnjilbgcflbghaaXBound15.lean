/- Plain laws on what operations do to volumes. -/
import Derived.Test.YtnjilbgcflbghaaXSame15
set_option linter.all false
set_option maxHeartbeats 4000000
set_option maxRecDepth 100000
namespace Go.Proofs
open Go Go.X Go.Sort
/-- All volumes hold at most n blocks. -/
def BL (M : St) (n : Nat) : Prop := ∀ p ∈ M, p.2.blocks.length ≤ n
theorem mdel_le {κ β : Type} [DecidableEq κ] (l : List (κ × β)) (k : κ) : (mdel l k).length ≤ l.length := List.length_filter_le _ _
theorem mset_le {κ β : Type} [DecidableEq κ] (l : List (κ × β)) (k : κ) (v : β) : (mset l k v).length ≤ l.length + 1 := by
  unfold mset
  split
  · simp
  · simp
theorem BL.mono {M : St} {n m : Nat} (h : BL M n) (hm : n ≤ m) : BL M m := fun p hp => Nat.le_trans (h p hp) hm
theorem BL.get {M : St} {n : Nat} (h : BL M n) {k : ByteArray} {v : VolV} (hg : mget M k = some v) : v.blocks.length ≤ n := h _ (mget_mem hg)
theorem BL.set {M : St} {n : Nat} (h : BL M n) {k : ByteArray} {v : VolV} (hv : v.blocks.length ≤ n + 1) : BL (setS M k v) (n + 1) := by
  intro p hp
  unfold setS at hp
  obtain ⟨q, hq, rfl⟩ := List.mem_map.1 hp
  split
  · exact hv
  · exact Nat.le_succ_of_le (h q hq)
theorem BL.add {M : St} {n : Nat} (h : BL M n) {k : ByteArray} {v : VolV} {c : Int} (hv : v.blocks.length ≤ n) : BL (addM M k v c).1 (n + 1) := by
  unfold addM
  dsimp only
  split
  · intro p hp
    rcases List.mem_append.1 hp with hp | hp
    · exact Nat.le_succ_of_le (h p hp)
    · simp only [List.mem_singleton] at hp; subst hp; exact Nat.le_succ_of_le hv
  · exact h.mono (Nat.le_succ n)
theorem doS_bl {M : St} {n : Nat} (h : BL M n) (o : OpV) : BL (doS M o).1 (n + 1) := by
  have h1 := h.mono (Nat.le_succ n)
  unfold doS
  split
  · exact h.add (Nat.zero_le _)
  split
  · split
    · intro p hp; exact h1 p (List.mem_filter.1 hp).1
    · exact h1
  split
  · unfold blkS
    split
    · exact h1
    split
    · exact h1
    · rename_i v hg
      have hv := h.get hg
      split
      · exact h1
      split
      · exact h.set (by have := mdel_le v.blocks o.number; show (mdel v.blocks o.number).length ≤ _; omega)
      split
      · exact h1
      · exact h.set (by have := mset_le v.blocks o.number o.block; show (mset v.blocks o.number o.block).length ≤ _; omega)
  split
  · refine h.add ?_
    unfold copyV
    split
    · exact Nat.zero_le _
    · rename_i v hg; show v.blocks.length ≤ n; exact h.get hg
  split
  · exact h1
  · exact h1
theorem addM_quiet {M : St} {k : ByteArray} {v : VolV} {c : Int} (h : (addM M k v c).2.1 ≠ 0) : (addM M k v c).1 = M := by
  have h : addS M k v c ≠ 0 := h
  unfold addM
  rw [if_neg h]
/-- What is answered with an error, or isn't of a changing kind, leaves all volumes. -/
theorem doS_quiet {M : St} {o : OpV} (h : (doS M o).2.1 ≠ 0 ∨ ¬(1 ≤ o.kind ∧ o.kind ≤ 7 ∧ o.kind ≠ 5)) : (doS M o).1 = M := by
  unfold doS at *
  split
  · rename_i h1
    rw [if_pos h1] at h
    exact addM_quiet (h.resolve_right fun h' => h' ⟨by omega, by omega, by omega⟩)
  rename_i h1
  rw [if_neg h1] at h
  split
  · rename_i h2
    rw [if_pos h2] at h
    have := h.resolve_right fun h' => h' ⟨by omega, by omega, by omega⟩
    split
    · rename_i h3; rw [if_pos h3] at this; exact absurd rfl this
    · rfl
  rename_i h2
  rw [if_neg h2] at h
  split
  · rename_i h3
    rw [if_pos h3] at h
    unfold blkS at *
    split
    · rfl
    rename_i h4
    rw [if_neg h4] at h
    split
    · rfl
    · rename_i v hg
      simp only [hg] at h
      split
      · rfl
      · rename_i h5
        rw [if_neg h5] at h
        split
        · rename_i h6
          rw [if_pos h6] at h
          rcases h with h | h
          · exact absurd rfl h
          · exact absurd ⟨by omega, by omega, by omega⟩ h
        · rename_i h6
          rw [if_neg h6] at h
          split
          · rfl
          · rename_i h7
            rw [if_neg h7] at h
            rcases h with h | h
            · exact absurd rfl h
            · exact absurd ⟨by omega, by omega, by omega⟩ h
  rename_i h3
  rw [if_neg h3] at h
  split
  · rename_i h4
    rw [if_pos h4] at h
    exact addM_quiet (h.resolve_right fun h' => h' ⟨by omega, by omega, by omega⟩)
  split <;> rfl
theorem doS_err {M : St} {o : OpV} (h : (doS M o).2.1 ≠ 0) : (doS M o).2.2 = (false, zeros48) ∧ o.kind ≠ 8 := by
  unfold doS at *
  split at h
  · rename_i h1; rw [if_pos h1]; exact ⟨rfl, by omega⟩
  rename_i h1; rw [if_neg h1]
  split at h
  · rename_i h2; rw [if_pos h2]
    split at h
    · exact absurd rfl h
    · rename_i h3; rw [if_neg h3]; exact ⟨rfl, by omega⟩
  rename_i h2; rw [if_neg h2]
  split at h
  · rename_i h3; rw [if_pos h3]
    refine ⟨?_, by omega⟩
    unfold blkS at *
    split at h
    · rename_i h4; rw [if_pos h4]
    rename_i h4; rw [if_neg h4]
    split at h
    · exact absurd rfl h
    · rename_i v hg
      split at h
      · exact absurd rfl h
      rename_i h5; rw [if_neg h5]
      split at h
      · exact absurd rfl h
      rename_i h6; rw [if_neg h6]
      split at h
      · rename_i h7; rw [if_pos h7]
      · exact absurd rfl h
  rename_i h3; rw [if_neg h3]
  split at h
  · rename_i h4; rw [if_pos h4]; exact ⟨rfl, by omega⟩
  rename_i h4; rw [if_neg h4]
  split at h
  · exact absurd rfl h
  · rename_i h5; rw [if_neg h5]; exact ⟨rfl, h5⟩

/-- What makes operations small. -/
theorem great_small {l : List OpV} (hg : great l = false) : l.length ≤ 80 ∧ ∀ q ∈ l, q.name.size ≤ 100 ∧ q.other.size ≤ 100 := by
  simp only [great, Bool.or_eq_false_iff] at hg
  refine ⟨by simpa using hg.1, fun q hq => ?_⟩
  have := List.any_eq_false.1 hg.2 q hq
  simpa using this
theorem st_len (M : Vols) : M.st.length = M.length := by simp [Vols.st]
end Go.Proofs
