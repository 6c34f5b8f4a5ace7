/- A slice at the head of its own block, as an array of things. -/
import Derived.Test.YtnjilbgcflbghaaXSrtP
set_option linter.all false
set_option linter.all false
namespace Go.X
open Go Go.Sort
theorem own_sb {α : Type} [Inhabited α] {enc : α → Value} {w : World} {s : Sl} {e : TypeId} {xs : List α} (h : Own w s e 1 (xs.map enc)) :
    (s = Sl.nil ∧ xs = []) ∨ ∃ g c rest, s = slc g xs.length c ∧ SB enc e g rest xs.length w xs.toArray ∧ ∀ w' d', SB enc e g rest xs.length w' d' → Own w' s e 1 (d'.toList.map enc) := by
  obtain ⟨a, l, c⟩ := s
  have hl := h.1
  simp only [List.length_map, Nat.mul_one] at hl
  rcases h.2 with ⟨hv, hn⟩ | ⟨g, cap, cur, hv, hb, hg, hnc, hcm, hsz, ht⟩
  · left
    simp only [Sl.v, Value.slice.injEq] at hv
    obtain ⟨rfl, rfl, rfl⟩ := hv
    exact ⟨rfl, List.eq_nil_of_length_eq_zero hl⟩
  · right
    simp only [Sl.v, Value.slice.injEq] at hv
    obtain ⟨rfl, _, rfl⟩ := hv
    subst hl
    have hsp : cur = ((xs.map enc) ++ cur.toList.drop xs.length).toArray := by
      apply Array.ext'
      simp only [List.length_map, Nat.mul_one] at ht
      simp only [← ht]
      exact (List.take_append_drop _ _).symm
    refine ⟨g, c, cur.toList.drop xs.length, rfl, ⟨?_, by simp⟩, ?_⟩
    · unfold Blk
      simp only [List.toList_toArray]
      rw [← hsp]; exact hg
    · intro w' d' hd'
      refine ⟨by simp [hd'.2], .inr ⟨g, c, _, rfl, hb, hd'.1, hnc, hcm, ?_, ?_⟩⟩
      · have := congrArg Array.size hsp
        simp only [List.size_toArray, List.length_append, List.length_map] at this ⊢
        rw [← hsz, this, Array.length_toList, hd'.2]
      · have : (d'.toList.map enc).length = xs.length := by simp [hd'.2]
        simp only [List.toList_toArray, Nat.mul_one, this]
        rw [← this, List.take_left]
/-- A list of which each is no less than those ahead: of the things of another one: it is that one, sorted. -/
theorem sorted_at {α : Type} [Inhabited α] {lt : α → α → Bool} {d : Array α} {n : Nat} (hn : d.size = n) (h : ∀ i j, i < j → j < n → lt d[j]! d[i]! = false) : d.toList.Pairwise (fun a b => lt b a = false) := by
  rw [List.pairwise_iff_getElem]
  intro i j hi hj hij
  simp only [Array.length_toList] at hi hj
  have := h i j hij (by omega)
  rw [getElem!_pos d j hj, getElem!_pos d i hi] at this
  simpa using this
end Go.X
