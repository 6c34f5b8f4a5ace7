/- Plain laws on lists of pairs. -/
import Derived.Test.YtnjilbgcflbghaaXFT
import Derived.Test.YtnjilbgcflbghaaXE2
set_option linter.all false
set_option maxHeartbeats 2000000
set_option maxRecDepth 100000
namespace Go.Proofs
open Go Go.X
theorem mget_mem {κ β : Type} [DecidableEq κ] {l : List (κ × β)} {k : κ} {v : β} (h : mget l k = some v) : (k, v) ∈ l := by
  unfold mget at h
  obtain ⟨p, hp, rfl⟩ := Option.map_eq_some_iff.1 h
  have h1 := List.find?_some hp
  have h2 := List.mem_of_find?_eq_some hp
  simp only [decide_eq_true_eq] at h1
  rw [← h1]
  exact h2
section
variable {κ β : Type} [DecidableEq κ]
theorem mget_mdel_same (l : List (κ × β)) (k : κ) : mget (mdel l k) k = none := by
  unfold mget mdel
  rw [Option.map_eq_none_iff, List.find?_eq_none]
  intro p hp
  have := (List.mem_filter.1 hp).2
  simpa using this
theorem mget_map_same (l : List (κ × β)) (k : κ) (v : β) (h : (mget l k).isSome = true) : mget (l.map fun p => if p.1 = k then (k, v) else p) k = some v := by
  unfold mget at *
  induction l with
  | nil => cases h
  | cons p l ih =>
    rw [List.map_cons, List.find?_cons]
    by_cases hp : p.1 = k
    · simp [hp]
    · rw [if_neg hp]
      simp only [hp, decide_false]
      rw [List.find?_cons] at h
      simp only [hp, decide_false] at h
      exact ih h
theorem mget_map_other (l : List (κ × β)) (k j : κ) (v : β) (hj : j ≠ k) : mget (l.map fun p => if p.1 = k then (k, v) else p) j = mget l j := by
  unfold mget
  induction l with
  | nil => rfl
  | cons p l ih =>
    rw [List.map_cons, List.find?_cons, List.find?_cons]
    by_cases hp : p.1 = k
    · rw [if_pos hp]
      have h1 : ¬ k = j := fun h => hj h.symm
      have h2 : ¬ p.1 = j := fun h => hj (h ▸ hp)
      simp only [h1, h2, decide_false]
      exact ih
    · rw [if_neg hp]
      by_cases hpj : p.1 = j
      · simp [hpj]
      · simp only [hpj, decide_false]; exact ih
theorem mget_some_iff (l : List (κ × β)) (k : κ) : (mget l k).isSome = true ↔ k ∈ l.map (·.1) := by
  unfold mget
  rw [Option.isSome_map, List.find?_isSome]
  simp [eq_comm]
theorem mget_mset_same (l : List (κ × β)) (k : κ) (v : β) : mget (mset l k v) k = some v := by
  unfold mset
  split
  · rename_i h
    exact mget_map_same l k v ((mget_some_iff l k).2 (by simpa using h))
  · rename_i h
    unfold mget
    rw [List.find?_append]
    have : l.find? (fun p => decide (p.1 = k)) = none := by
      rw [List.find?_eq_none]
      intro p hp
      have : k ∉ l.map (·.1) := by simpa using h
      simp only [decide_eq_true_eq]
      exact fun e => this (List.mem_map.2 ⟨p, hp, e⟩)
    simp [this]
end
theorem mget_append {κ β : Type} [DecidableEq κ] {l l' : List (κ × β)} {k : κ} {v : β} (h : mget l k = some v) : mget (l ++ l') k = some v := by
  unfold mget at *
  rw [List.find?_append]
  cases hf : l.find? (fun p => decide (p.1 = k)) with
  | none => rw [hf] at h; cases h
  | some p => rw [hf] at h; simpa using h
theorem mget_append_new {κ β : Type} [DecidableEq κ] {l : List (κ × β)} {k : κ} {v : β} (h : (mget l k).isSome = false) : mget (l ++ [(k, v)]) k = some v := by
  unfold mget at *
  rw [List.find?_append]
  cases hf : l.find? (fun p => decide (p.1 = k)) with
  | none => simp
  | some p => rw [hf] at h; cases h
theorem mget_mdel_other {κ β : Type} [DecidableEq κ] (l : List (κ × β)) (k j : κ) (hj : k ≠ j) : mget (mdel l j) k = mget l k := by
  unfold mget mdel
  rw [List.find?_filter]
  congr 2
  funext p
  by_cases hk : p.1 = k
  · subst hk; simp [hj]
  · simp [hk]
theorem mdel_le {κ β : Type} [DecidableEq κ] (l : List (κ × β)) (k : κ) : (mdel l k).length ≤ l.length := List.length_filter_le _ _
theorem mset_le {κ β : Type} [DecidableEq κ] (l : List (κ × β)) (k : κ) (v : β) : (mset l k v).length ≤ l.length + 1 := by
  unfold mset
  split
  · simp
  · simp
theorem mset_keys {κ β : Type} [DecidableEq κ] (l : List (κ × β)) (k : κ) (v : β) (x : κ) : x ∈ (mset l k v).map (·.1) ↔ x ∈ l.map (·.1) ∨ x = k := by
  unfold mset
  split
  · rename_i h
    have : (l.map fun p => if p.1 = k then (k, v) else p).map (·.1) = l.map (·.1) := by
      rw [List.map_map]
      apply List.map_congr_left
      intro p _
      simp only [Function.comp]
      split
      · rename_i e; simp [e]
      · rfl
    rw [this]
    constructor
    · exact .inl
    · rintro (h' | rfl)
      · exact h'
      · simpa using h
  · simp
theorem mdel_keys {κ β : Type} [DecidableEq κ] (l : List (κ × β)) (k : κ) : (mdel l k).map (·.1) = (l.map (·.1)).filter (fun x => !decide (x = k)) := by
  unfold mdel
  rw [List.filter_map]
  rfl
theorem mset_nodup {κ β : Type} [DecidableEq κ] {l : List (κ × β)} (h : (l.map (·.1)).Nodup) (k : κ) (v : β) : ((mset l k v).map (·.1)).Nodup := by
  unfold mset
  split
  · have : (l.map fun p => if p.1 = k then (k, v) else p).map (·.1) = l.map (·.1) := by
      rw [List.map_map]
      apply List.map_congr_left
      intro p _
      simp only [Function.comp]
      split
      · rename_i e; simp [e]
      · rfl
    rw [this]; exact h
  · rename_i hn
    have hn : k ∉ l.map (·.1) := by simpa using hn
    rw [List.map_append, List.nodup_append]
    refine ⟨h, by simp, ?_⟩
    intro a ha b hb e
    simp only [List.map_cons, List.map_nil, List.mem_singleton] at hb
    subst hb; subst e; exact hn ha
theorem mget_mset_other {κ β : Type} [DecidableEq κ] (l : List (κ × β)) (k j : κ) (v : β) (hj : j ≠ k) : mget (mset l k v) j = mget l j := by
  unfold mset
  split
  · exact mget_map_other l k j v hj
  · unfold mget
    rw [List.find?_append]
    have : ¬ k = j := fun h => hj h.symm
    simp [this]
theorem mget_of_mem {κ β : Type} [DecidableEq κ] {l : List (κ × β)} (h : (l.map (·.1)).Nodup) {p : κ × β} (hp : p ∈ l) : mget l p.1 = some p.2 := by
  induction l with
  | nil => cases hp
  | cons q l ih =>
    rw [List.map_cons, List.nodup_cons] at h
    unfold mget
    rw [List.find?_cons]
    by_cases hq : q.1 = p.1
    · rcases List.mem_cons.1 hp with rfl | hp
      · simp
      · exact absurd (List.mem_map.2 ⟨p, hp, hq.symm⟩) h.1
    · simp only [hq, decide_false]
      rcases List.mem_cons.1 hp with rfl | hp
      · exact absurd rfl hq
      · exact ih h.2 hp
theorem same_count {α : Type} [DecidableEq α] {a b : List α} (ha : a.Nodup) (hb : b.Nodup) (h : ∀ x, x ∈ a ↔ x ∈ b) : a.length = b.length := ((List.perm_ext_iff_of_nodup ha hb).2 h).length_eq
theorem KeyLaw.names : KeyLaw Try.prog 9 Value.string := KeyLaw.string Try.underlying9
theorem KeyLaw.ints : KeyLaw Try.prog 3 (Value.int .i64) := KeyLaw.int Try.underlying3
end Go.Proofs
