/- model: plain laws on what operations do. -/
import Derived.Test.YtnjilbgcflbghaaXModel7
set_option linter.all false
namespace Go.Proofs
open Go Go.X
section
variable {κ β : Type} [DecidableEq κ]
theorem mget_mdel_same (l : List (κ × β)) (k : κ) : mget (mdel l k) k = none := by
  unfold mget mdel
  rw [Option.map_eq_none_iff, List.find?_eq_none]
  intro p hp
  have := (List.mem_filter.1 hp).2
  simpa using this
theorem mget_map_same (l : List (κ × β)) (k : κ) (v : β) (h : (mget l k).isSome = true) : mget (l.map fun p => if p.1 = k then (k, v) else p) k = some v := by
  unfold mget at *
  induction l with
  | nil => cases h
  | cons p l ih =>
    rw [List.map_cons, List.find?_cons]
    by_cases hp : p.1 = k
    · simp [hp]
    · rw [if_neg hp]
      simp only [hp, decide_false]
      rw [List.find?_cons] at h
      simp only [hp, decide_false] at h
      exact ih h
theorem mget_map_other (l : List (κ × β)) (k j : κ) (v : β) (hj : j ≠ k) : mget (l.map fun p => if p.1 = k then (k, v) else p) j = mget l j := by
  unfold mget
  induction l with
  | nil => rfl
  | cons p l ih =>
    rw [List.map_cons, List.find?_cons, List.find?_cons]
    by_cases hp : p.1 = k
    · rw [if_pos hp]
      have h1 : ¬ k = j := fun h => hj h.symm
      have h2 : ¬ p.1 = j := fun h => hj (h ▸ hp)
      simp only [h1, h2, decide_false]
      exact ih
    · rw [if_neg hp]
      by_cases hpj : p.1 = j
      · simp [hpj]
      · simp only [hpj, decide_false]; exact ih
theorem mget_some_iff (l : List (κ × β)) (k : κ) : (mget l k).isSome = true ↔ k ∈ l.map (·.1) := by
  unfold mget
  rw [Option.isSome_map, List.find?_isSome]
  simp [eq_comm]
theorem mget_mset_same (l : List (κ × β)) (k : κ) (v : β) : mget (mset l k v) k = some v := by
  unfold mset
  split
  · rename_i h
    exact mget_map_same l k v ((mget_some_iff l k).2 (by simpa using h))
  · rename_i h
    unfold mget
    rw [List.find?_append]
    have : l.find? (fun p => decide (p.1 = k)) = none := by
      rw [List.find?_eq_none]
      intro p hp
      have : k ∉ l.map (·.1) := by simpa using h
      simp only [decide_eq_true_eq]
      exact fun e => this (List.mem_map.2 ⟨p, hp, e⟩)
    simp [this]
end
theorem setS_eq (M : St) (name : ByteArray) (v : VolV) : setS M name v = M.map fun p => if p.1 = name then (name, v) else p := by
  unfold setS
  apply List.map_congr_left
  intro p _
  split
  · rename_i h; rw [h]
  · rfl
theorem mget_setS (M : St) (name : ByteArray) (v : VolV) (h : (mget M name).isSome = true) : mget (setS M name v) name = some v := by rw [setS_eq]; exact mget_map_same M name v h
theorem setS_keys (M : St) (name : ByteArray) (v : VolV) : (setS M name v).map (·.1) = M.map (·.1) := by
  unfold setS
  rw [List.map_map]
  apply List.map_congr_left
  intro p _
  simp only [Function.comp]
  split <;> rfl
theorem setS_len (M : St) (name : ByteArray) (v : VolV) : (setS M name v).length = M.length := by simp [setS]
theorem addM_len (M : St) (name : ByteArray) (v : VolV) (code : Int) : (addM M name v code).1.length ≤ M.length + 1 := by
  unfold addM; dsimp only; split <;> simp
theorem blkS_len (M : St) (o : OpV) : (blkS M o).1.length = M.length := by
  unfold blkS
  split
  · rfl
  · split
    · rfl
    · split
      · rfl
      · split
        · exact setS_len _ _ _
        · split
          · rfl
          · exact setS_len _ _ _
theorem doS_len (M : St) (o : OpV) : (doS M o).1.length ≤ M.length + 1 := by
  unfold doS
  split
  · exact addM_len _ _ _ _
  · split
    · split
      · have : (mdel M o.name).length ≤ M.length := List.length_filter_le _ _
        show (mdel M o.name).length ≤ _
        omega
      · show M.length ≤ _; omega
    · split
      · rw [blkS_len]; omega
      · split
        · exact addM_len _ _ _ _
        · split <;> (show M.length ≤ _; omega)

/-- An operation of another kind. -/
def OpV.as (o : OpV) (k : Int) : OpV := { o with kind := k }
/-- Behind a trim the block isn't there. -/
theorem trim_read {M : St} {o : OpV} (h : (doS M (o.as 4)).2.1 = 0) : doS (doS M (o.as 4)).1 (o.as 5) = ((doS M (o.as 4)).1, 0, false, zeros48) ∧
    (((doS (doS M (o.as 4)).1 (o.as 3)).2.1 = 8 ∧ (doS (doS (doS M (o.as 4)).1 (o.as 3)).1 (o.as 5)).2.2.1 = false) ∨
     ((doS (doS M (o.as 4)).1 (o.as 3)).2.1 = 0 ∧ (doS (doS (doS M (o.as 4)).1 (o.as 3)).1 (o.as 5)).2.2 = (true, o.block))) := by
  have hd : ∀ (M : St) (k : Int), (k = 3 ∨ k = 4 ∨ k = 5) → doS M (o.as k) = blkS M (o.as k) := fun M k hk => by
    unfold doS OpV.as; dsimp only
    rw [if_neg (by omega), if_neg (by omega), if_pos hk]
  have h4 := hd M 4 (by simp)
  rw [h4] at h
  rw [h4]
  have hf : findS M (o.as 4) = 0 := by
    unfold blkS at h
    split at h
    · rename_i hne; exact absurd h hne
    · rename_i hz; simpa using hz
  obtain ⟨v, hg, hr, hfr⟩ : ∃ v, mget M o.name = some v ∧ ¬ (o.number < 0 ∨ 1048576 ≤ o.number) ∧ v.frozen = false := by
    unfold findS OpV.as at hf
    dsimp only at hf
    cases hg : mget M o.name with
    | none => rw [hg] at hf; cases hf
    | some v =>
      rw [hg] at hf
      dsimp only at hf
      split at hf
      · cases hf
      · rename_i hr
        split at hf
        · cases hf
        · rename_i hfr
          refine ⟨v, rfl, hr, ?_⟩
          cases hv : v.frozen with
          | false => rfl
          | true => exact absurd ⟨hv, by decide⟩ hfr
  have e4 : blkS M (o.as 4) = (setS M o.name { v with blocks := mdel v.blocks o.number }, 0, false, zeros48) := by
    unfold blkS
    rw [if_neg (by simpa using hf)]
    show (match mget M o.name with | none => _ | some v => _) = _
    rw [hg]
    simp [OpV.as]
  rw [e4]
  dsimp only
  generalize hM1 : setS M o.name { v with blocks := mdel v.blocks o.number } = M1
  have hg1 : mget M1 o.name = some { v with blocks := mdel v.blocks o.number } := by rw [← hM1]; exact mget_setS _ _ _ (by rw [hg]; rfl)
  have f1 : ∀ (N : St) (u : VolV) (k : Int), mget N o.name = some u → u.frozen = false → findS N (o.as k) = 0 := by
    intro N u k hN hu
    unfold findS OpV.as
    dsimp only
    rw [hN]
    dsimp only
    rw [if_neg hr, if_neg (by simp [hu])]
  have rd : ∀ (N : St) (u : VolV), mget N o.name = some u → u.frozen = false → doS N (o.as 5) = (N, 0, (mget u.blocks o.number).isSome, (mget u.blocks o.number).getD zeros48) := by
    intro N u hN hu
    rw [hd N 5 (by simp)]
    unfold blkS
    rw [if_neg (by rw [f1 N u 5 hN hu]; simp)]
    show (match mget N o.name with | none => _ | some v => _) = _
    rw [hN]
    simp [OpV.as]
  refine ⟨?_, ?_⟩
  · rw [rd M1 _ hg1 hfr]
    simp [mget_mdel_same]
  · have e3 : doS M1 (o.as 3) = (if (mdel v.blocks o.number).length < v.quota.toNat ∨ False then doS M1 (o.as 3) else doS M1 (o.as 3)) := by simp
    rw [hd M1 3 (by simp)]
    have hw : blkS M1 (o.as 3) = if v.quota ≤ (mdel v.blocks o.number).length then (M1, 8, false, zeros48) else (setS M1 o.name { v with blocks := mset (mdel v.blocks o.number) o.number o.block }, 0, false, zeros48) := by
      unfold blkS
      rw [if_neg (by rw [f1 M1 _ 3 hg1 hfr]; simp)]
      show (match mget M1 o.name with | none => _ | some v => _) = _
      rw [hg1]
      simp [OpV.as, mget_mdel_same]
    rw [hw]
    split
    · left
      refine ⟨rfl, ?_⟩
      rw [rd M1 _ hg1 hfr]
      simp [mget_mdel_same]
    · right
      refine ⟨rfl, ?_⟩
      rw [rd _ { v with blocks := mset (mdel v.blocks o.number) o.number o.block } (mget_setS _ _ _ (by rw [hg1]; rfl)) hfr]
      simp [mget_mset_same]
end Go.Proofs
