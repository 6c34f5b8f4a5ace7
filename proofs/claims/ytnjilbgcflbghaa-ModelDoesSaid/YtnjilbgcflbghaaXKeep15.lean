/- A frozen volume stays; rows cut out. -/
import Derived.Test.YtnjilbgcflbghaaXBound15
set_option linter.all false
set_option maxHeartbeats 4000000
set_option maxRecDepth 100000
namespace Go.Proofs
open Go Go.X Go.Sort
theorem mget_append {κ β : Type} [DecidableEq κ] {l l' : List (κ × β)} {k : κ} {v : β} (h : mget l k = some v) : mget (l ++ l') k = some v := by
  unfold mget at *
  rw [List.find?_append]
  cases hf : l.find? (fun p => decide (p.1 = k)) with
  | none => rw [hf] at h; cases h
  | some p => rw [hf] at h; simpa using h
theorem mget_append_new {κ β : Type} [DecidableEq κ] {l : List (κ × β)} {k : κ} {v : β} (h : (mget l k).isSome = false) : mget (l ++ [(k, v)]) k = some v := by
  unfold mget at *
  rw [List.find?_append]
  cases hf : l.find? (fun p => decide (p.1 = k)) with
  | none => simp
  | some p => rw [hf] at h; cases h
theorem mget_mdel_other {κ β : Type} [DecidableEq κ] (l : List (κ × β)) (k j : κ) (hj : k ≠ j) : mget (mdel l j) k = mget l k := by
  unfold mget mdel
  rw [List.find?_filter]
  congr 2
  funext p
  by_cases hk : p.1 = k
  · subst hk; simp [hj]
  · simp [hk]
theorem addM_keeps {M : St} {k name : ByteArray} {v x : VolV} {c : Int} (h : mget M k = some v) : mget (addM M name x c).1 k = some v := by
  unfold addM
  dsimp only
  split
  · exact mget_append h
  · exact h
/-- A frozen volume stays until it is deleted. -/
theorem doS_keeps {M : St} {o : OpV} {k : ByteArray} {v : VolV} (h : mget M k = some v) (hf : v.frozen = true) (hno : ¬(o.kind = 2 ∧ o.name = k)) : mget (doS M o).1 k = some v := by
  unfold doS
  split
  · exact addM_keeps h
  split
  · rename_i h2
    split
    · show mget (mdel M o.name) k = some v
      rw [mget_mdel_other _ _ _ (fun e => hno ⟨h2, e.symm⟩)]; exact h
    · exact h
  split
  · by_cases hn : o.name = k
    · subst hn
      have : (blkS M o).1 = M := by
        unfold blkS
        split
        · rfl
        · rename_i hz
          rw [h]
          dsimp only
          split
          · rfl
          · rename_i h5
            exfalso
            apply hz
            unfold findS
            rw [h]
            dsimp only
            split
            · decide
            · rw [if_pos ⟨hf, h5⟩]; decide
      rw [this]; exact h
    · unfold blkS
      split
      · exact h
      split
      · exact h
      · split
        · exact h
        split
        · show mget (setS M o.name _) k = some v
          rw [setS_eq, mget_map_other _ _ _ _ (fun e => hn e.symm)]; exact h
        split
        · exact h
        · show mget (setS M o.name _) k = some v
          rw [setS_eq, mget_map_other _ _ _ _ (fun e => hn e.symm)]; exact h
  split
  · exact addM_keeps h
  split
  · exact h
  · exact h
theorem snap_there {M : St} {o : OpV} (hk : o.kind = 6) (h : (doS M o).2.1 = 0) : ∃ v, mget (doS M o).1 o.other = some v ∧ v.frozen = true := by
  have e : doS M o = addM M o.other (copyV M o).1 (copyV M o).2 := by
    unfold doS
    rw [if_neg (by omega), if_neg (by omega), if_neg (by omega), if_pos (.inl hk)]
  rw [e] at h ⊢
  have h0 : addS M o.other (copyV M o).1 (copyV M o).2 = 0 := h
  have hn : (mget M o.other).isSome = false := by
    unfold addS at h0
    split at h0
    · cases h0
    split at h0
    · rename_i hc; exact absurd h0 hc
    split at h0
    · cases h0
    · rename_i hs; simpa using hs
  refine ⟨(copyV M o).1, ?_, ?_⟩
  · unfold addM
    rw [if_pos h0]
    exact mget_append_new hn
  · unfold copyV
    split <;> simp [hk]
/-- Where an image is found. -/
theorem find_img {L : List (ImgV × Sl)} {M : St} {k : ByteArray} {v : VolV} (hL : L.map (·.1) = imgsOf M) (hg : mget M k = some v) :
    ∃ i, ∃ hi : i < L.length, L.findIdx? (fun p => decide (p.1.name = k)) = some i ∧ L[i].1 = imgOf k v := by
  have hk : k ∈ sortN (M.map (·.1)) := (sortN_perm _).mem_iff.2 ((mget_some_iff M k).1 (by rw [hg]; rfl))
  have hm : imgOf k ((mget M k).getD default) ∈ L.map (·.1) := by rw [hL]; exact List.mem_map.2 ⟨k, hk, rfl⟩
  obtain ⟨p, hp, he⟩ := List.mem_map.1 hm
  cases hfi : L.findIdx? (fun p => decide (p.1.name = k)) with
  | none =>
    rw [List.findIdx?_eq_none_iff] at hfi
    have := hfi p hp
    rw [he] at this
    simp [imgOf] at this
  | some i =>
    obtain ⟨hi, h1, _⟩ := List.findIdx?_eq_some_iff_getElem.1 hfi
    refine ⟨i, hi, rfl, ?_⟩
    have h1 : L[i].1.name = k := by simpa using h1
    have h2 : L[i].1 ∈ imgsOf M := hL ▸ List.mem_map.2 ⟨L[i], List.getElem_mem hi, rfl⟩
    obtain ⟨n, _, hn⟩ := List.mem_map.1 h2
    have : n = k := by rw [← h1, ← hn]; rfl
    subst this
    rw [← hn, hg]; rfl
/-- One row is cut out. -/
theorem Cut.row {α : Type} {enc : α → List Value} {w : World} {s : Sl} {size : Nat} {l : List α} {i : Nat} (h : Sees w s size (l.flatMap enc)) (hlen : ∀ r ∈ l, (enc r).length = size) (h0 : 0 < size) (hi : i < l.length) {K : Sl → Prop}
    (k : ∀ s', Sees w s' size (enc l[i]) → K s') : Cut s size (some (i : Int)) (some ((i + 1 : Nat) : Int)) none K := by
  have hc := h.count hlen h0
  have hcap := h.2.1
  obtain ⟨a, ha, hsp, hrow, hsz⟩ := h.at hlen h0 i hi
  refine ⟨i, i + 1, s.cap, rfl, Nat.le_refl _, ⟨rfl, by omega⟩, rfl, by omega, k _ ?_⟩
  rw [if_neg (by omega), ha]
  refine ⟨?_, by show i + 1 - i ≤ s.cap - i; omega, fun h => (by cases h), fun b hb => ?_⟩
  · have := hlen _ (List.getElem_mem hi); rw [this]; simp
  · obtain rfl : a.add (i * size) = b := by simpa using hb
    refine ⟨?_, fun j v hj => hrow j v (by simpa using hj)⟩
    unfold Addr.add; split
    · exact hsp
    · rfl
theorem rowI_one (p : ImgV × Sl) : ∀ v ∈ (rowI p), v.oneCell' = true := by
  intro v hv
  simp only [rowI, List.mem_cons, List.not_mem_nil, or_false] at hv
  rcases hv with rfl | rfl | rfl | rfl <;> rfl
theorem imgs_len {L : List (ImgV × Sl)} {M : Vols} (h : L.map (·.1) = imgsOf M.st) : L.length = M.length := by
  have := congrArg List.length h
  rw [List.length_map] at this
  rw [this]
  simp [imgsOf, (sortN_perm _).length_eq, Vols.st]

end Go.Proofs
