/- The document's answer for layer 15, on lists of images: it is what operations do. -/
import Derived.Test.YtnjilbgcflbghaaXKeep15
set_option linter.all false
set_option maxHeartbeats 1000000
namespace Go.Proofs
open Go Go.X Go.Sort

def getI (l : List ImgV) (n : ByteArray) : Option ImgV := l.find? fun x => decide (x.name = n)
def insI (l : List ImgV) (x : ImgV) : List ImgV := l.filter (fun y => slt y.name x.name) ++ x :: l.filter (fun y => !slt y.name x.name)
def delI (l : List ImgV) (n : ByteArray) : List ImgV := l.filter fun y => !decide (y.name = n)
def setI (l : List ImgV) (n : ByteArray) (b : List (Int × List Nat)) : List ImgV := l.map fun y => if y.name = n then { y with blocks := b } else y
def insB (l : List (Int × List Nat)) (n : Int) (b : List Nat) : List (Int × List Nat) := l.filter (fun y => decide (y.1 < n)) ++ (n, b) :: l.filter (fun y => decide (n < y.1))
def delB (l : List (Int × List Nat)) (n : Int) : List (Int × List Nat) := l.filter fun y => !decide (y.1 = n)
def getB (l : List (Int × List Nat)) (n : Int) : Option (Int × List Nat) := l.find? fun y => decide (y.1 = n)
def mayB (n : ByteArray) (q : Int) : Bool := namedB n && decide (0 ≤ q) && decide (q ≤ 1048576)
/-- What the document says of an operation. -/
def refDo (l : List ImgV) (o : OpV) : List ImgV × Int × Bool × List Nat :=
  if o.kind = 1 then
    if mayB o.name o.quota = false then (l, 1, false, zeros48) else if (getI l o.name).isSome then (l, 6, false, zeros48) else (insI l ⟨o.name, o.quota, false, []⟩, 0, false, zeros48)
  else if o.kind = 8 then (l, 0, false, zeros48)
  else if o.kind = 6 ∨ o.kind = 7 then
    if mayB o.other (if o.kind = 6 then ((getI l o.name).map (·.quota)).getD 0 else o.quota) = false then (l, 1, false, zeros48) else
      match getI l o.name with
      | none => (l, 5, false, zeros48)
      | some x =>
        if (getI l o.other).isSome then (l, 6, false, zeros48)
        else if (if o.kind = 6 then x.quota else o.quota) < x.blocks.length then (l, 8, false, zeros48)
        else (insI l ⟨o.other, if o.kind = 6 then x.quota else o.quota, decide (o.kind = 6), x.blocks⟩, 0, false, zeros48)
  else if o.kind < 1 ∨ 8 < o.kind then (l, 1, false, zeros48)
  else match getI l o.name with
    | none => (l, 5, false, zeros48)
    | some x =>
      if o.kind = 2 then (delI l o.name, 0, false, zeros48)
      else if o.number < 0 ∨ 1048576 ≤ o.number then (l, 2, false, zeros48)
      else if o.kind = 5 then (l, 0, (getB x.blocks o.number).isSome, ((getB x.blocks o.number).map (·.2)).getD zeros48)
      else if x.frozen = true then (l, 10, false, zeros48)
      else if o.kind = 3 ∧ (getB x.blocks o.number).isSome = false ∧ x.quota ≤ x.blocks.length then (l, 8, false, zeros48)
      else (setI l o.name (if o.kind = 4 then delB x.blocks o.number else insB x.blocks o.number o.block), 0, false, zeros48)

theorem sortN_pairwise (l : List ByteArray) : (sortN l).Pairwise (fun a b => slt b a = false) := mergeSort_pairwise swo_slt l
theorem sortI_pairwise (l : List Int) : (sortI l).Pairwise (fun a b => ltInt b a = false) := mergeSort_pairwise swo_ltInt l
theorem filter_split {α : Type} (p : α → Bool) (l : List α) : (l.filter p ++ l.filter (fun x => !p x)).Perm l := List.filter_append_perm p l
/-- One name more, in its place. -/
theorem sortN_ins (ks : List ByteArray) (n : ByteArray) : sortN (ks ++ [n]) = (sortN ks).filter (fun k => slt k n) ++ n :: (sortN ks).filter (fun k => !slt k n) := by
  symm
  apply sortN_eq
  · refine (List.perm_middle).trans ?_
    refine (List.Perm.cons n ((filter_split _ _).trans (sortN_perm ks))).trans ?_
    exact (List.perm_append_singleton n ks).symm
  · rw [List.pairwise_append]
    refine ⟨(sortN_pairwise ks).filter _, ?_, ?_⟩
    · rw [List.pairwise_cons]
      exact ⟨fun b hb => by simpa using (List.mem_filter.1 hb).2, (sortN_pairwise ks).filter _⟩
    · intro a ha b hb
      have ha' := (List.mem_filter.1 ha).2
      rcases List.mem_cons.1 hb with rfl | hb
      · cases h : slt b a with
        | false => rfl
        | true => have := swo_slt.trans _ _ _ ha' h; rw [swo_slt.irrefl] at this; cases this
      · have hb' : slt b n = false := by simpa using (List.mem_filter.1 hb).2
        cases h : slt b a with
        | false => rfl
        | true => have := swo_slt.trans _ _ _ h ha'; rw [this] at hb'; cases hb'
theorem sortN_filter (ks : List ByteArray) (p : ByteArray → Bool) : sortN (ks.filter p) = (sortN ks).filter p :=
  (sortN_eq ((sortN_perm ks).filter p) ((sortN_pairwise ks).filter _)).symm
theorem sortI_filter (ks : List Int) (p : Int → Bool) : sortI (ks.filter p) = (sortI ks).filter p :=
  (sortI_eq ((sortI_perm ks).filter p) ((sortI_pairwise ks).filter _)).symm
/-- A number, there already or not, in its place. -/
theorem sortI_put {ks ks' : List Int} {n : Int} (h : ks.Nodup) (h' : ks'.Nodup) (hm : ∀ x, x ∈ ks' ↔ x ∈ ks ∨ x = n) : sortI ks' = (sortI ks).filter (fun k => decide (k < n)) ++ n :: (sortI ks).filter (fun k => decide (n < k)) := by
  symm
  have hs : (sortI ks).Nodup := (sortI_perm ks).nodup_iff.2 h
  have hms : ∀ x, x ∈ sortI ks ↔ x ∈ ks := fun x => (sortI_perm ks).mem_iff
  apply sortI_eq
  · refine (List.perm_ext_iff_of_nodup ?_ h').2 fun x => ?_
    · rw [List.nodup_append]
      refine ⟨hs.filter _, ?_, ?_⟩
      · rw [List.nodup_cons]
        exact ⟨fun hh => by have := (List.mem_filter.1 hh).2; simp at this, hs.filter _⟩
      · intro a ha b hb e
        subst e
        have h1 : a < n := by simpa using (List.mem_filter.1 ha).2
        rcases List.mem_cons.1 hb with rfl | hb
        · omega
        · have : n < a := by simpa using (List.mem_filter.1 hb).2
          omega
    · simp only [List.mem_append, List.mem_filter, List.mem_cons, hms, hm, decide_eq_true_eq]
      constructor
      · rintro (h | h | h)
        · exact .inl h.1
        · exact .inr h
        · exact .inl h.1
      · rintro (h | h)
        · rcases Int.lt_trichotomy x n with h2 | h2 | h2
          · exact .inl ⟨h, h2⟩
          · exact .inr (.inl h2)
          · exact .inr (.inr ⟨h, h2⟩)
        · exact .inr (.inl h)
  · rw [List.pairwise_append]
    refine ⟨(sortI_pairwise ks).filter _, ?_, ?_⟩
    · rw [List.pairwise_cons]
      refine ⟨fun b hb => ?_, (sortI_pairwise ks).filter _⟩
      have : n < b := by simpa using (List.mem_filter.1 hb).2
      unfold ltInt; simp; omega
    · intro a ha b hb
      have h1 : a < n := by simpa using (List.mem_filter.1 ha).2
      have h2 : n ≤ b := by
        rcases List.mem_cons.1 hb with rfl | hb
        · exact Int.le_refl _
        · have : n < b := by simpa using (List.mem_filter.1 hb).2
          omega
      unfold ltInt; simp; omega
theorem imgOf_name (n : ByteArray) (v : VolV) : (imgOf n v).name = n := rfl
theorem imgsOf_names (M : St) : (imgsOf M).map (·.name) = sortN (M.map (·.1)) := by
  unfold imgsOf
  rw [List.map_map]
  conv => rhs; rw [← List.map_id (sortN _)]
  rfl
theorem getI_imgs (M : St) (n : ByteArray) : getI (imgsOf M) n = (mget M n).map (imgOf n) := by
  cases hg : mget M n with
  | none =>
    unfold getI
    rw [Option.map_none, List.find?_eq_none]
    intro x hx
    obtain ⟨k, hk, rfl⟩ := List.mem_map.1 hx
    have hk' : k ∈ M.map (·.1) := (sortN_perm _).mem_iff.1 hk
    have := (mget_some_iff M k).2 hk'
    intro e
    have e : k = n := of_decide_eq_true e
    subst e
    rw [hg] at this; cases this
  | some v =>
    have hk : n ∈ sortN (M.map (·.1)) := (sortN_perm _).mem_iff.2 ((mget_some_iff M n).1 (by rw [hg]; rfl))
    unfold getI imgsOf
    rw [List.find?_map]
    have : ((fun x => decide (x.name = n)) ∘ fun n => imgOf n ((mget M n).getD default)) = fun k => decide (k = n) := by funext k; rfl
    rw [this]
    have hf : (sortN (M.map (·.1))).find? (fun k => decide (k = n)) = some n := by
      cases hff : (sortN (M.map (·.1))).find? (fun k => decide (k = n)) with
      | none => rw [List.find?_eq_none] at hff; have := hff n hk; simp at this
      | some k => have := List.find?_some hff; simp at this; rw [this]
    rw [hf, Option.map_some, hg]; rfl
theorem imgsOf_add {M : St} {n : ByteArray} {v : VolV} (h : (mget M n).isSome = false) : imgsOf (M ++ [(n, v)]) = insI (imgsOf M) (imgOf n v) := by
  have hnew : mget (M ++ [(n, v)]) n = some v := mget_append_new h
  have hold : ∀ k ∈ sortN (M.map (·.1)), mget (M ++ [(n, v)]) k = mget M k := fun k hk => by
    have := (mget_some_iff M k).2 ((sortN_perm _).mem_iff.1 hk)
    obtain ⟨x, hx⟩ := Option.isSome_iff_exists.1 this
    rw [hx, mget_append hx]
  have hmap : ∀ p : ByteArray → Bool, ((sortN (M.map (·.1))).filter p).map (fun k => imgOf k ((mget (M ++ [(n, v)]) k).getD default)) = (imgsOf M).filter (fun y => p y.name) := fun p => by
    unfold imgsOf
    rw [List.filter_map]
    apply List.map_congr_left
    intro k hk
    rw [hold k (List.mem_filter.1 hk).1]
  unfold imgsOf insI
  rw [List.map_append, List.map_cons, List.map_nil, sortN_ins, List.map_append, List.map_cons, hmap, hmap, hnew]
  rfl
theorem imgsOf_del (M : St) (n : ByteArray) : imgsOf (mdel M n) = delI (imgsOf M) n := by
  unfold delI imgsOf
  rw [List.filter_map]
  have hk : (mdel M n).map (·.1) = (M.map (·.1)).filter (fun k => !decide (k = n)) := by
    unfold mdel
    rw [List.filter_map]
    rfl
  rw [hk, sortN_filter]
  apply List.map_congr_left
  intro k hk
  have : k ≠ n := by simpa using (List.mem_filter.1 hk).2
  rw [mget_mdel_other _ _ _ this]
theorem imgsOf_set {M : St} {n : ByteArray} {v v' : VolV} (hg : mget M n = some v) (hq : v'.quota = v.quota) (hf : v'.frozen = v.frozen) : imgsOf (setS M n v') = setI (imgsOf M) n (imgOf n v').blocks := by
  unfold setI imgsOf
  rw [setS_keys, List.map_map]
  apply List.map_congr_left
  intro k hk
  show imgOf k _ = if (imgOf k ((mget M k).getD default)).name = n then _ else _
  by_cases h : k = n
  · subst h
    rw [if_pos (show (imgOf k ((mget M k).getD default)).name = k from rfl), mget_setS _ _ _ (by rw [hg]; rfl)]
    show imgOf k v' = ⟨k, ((mget M k).getD default).quota, ((mget M k).getD default).frozen, (imgOf k v').blocks⟩
    rw [hg]
    simp only [Option.getD_some, imgOf, hq, hf]
  · rw [if_neg (show ¬ (imgOf k ((mget M k).getD default)).name = n from h), setS_eq, mget_map_other _ _ _ _ h]
theorem mdel_keys {κ β : Type} [DecidableEq κ] (l : List (κ × β)) (k : κ) : (mdel l k).map (·.1) = (l.map (·.1)).filter (fun x => !decide (x = k)) := by
  unfold mdel
  rw [List.filter_map]
  rfl
theorem imgOf_del (n : ByteArray) (v : VolV) (k : Int) : (imgOf n { v with blocks := mdel v.blocks k }).blocks = delB (imgOf n v).blocks k := by
  unfold imgOf delB
  simp only
  rw [mdel_keys, sortI_filter, List.filter_map]
  apply List.map_congr_left
  intro j hj
  have : j ≠ k := by simpa using (List.mem_filter.1 hj).2
  rw [mget_mdel_other _ _ _ this]
theorem mset_nodup {κ β : Type} [DecidableEq κ] {l : List (κ × β)} (h : (l.map (·.1)).Nodup) (k : κ) (v : β) : ((mset l k v).map (·.1)).Nodup := by
  unfold mset
  split
  · have : (l.map fun p => if p.1 = k then (k, v) else p).map (·.1) = l.map (·.1) := by
      rw [List.map_map]
      apply List.map_congr_left
      intro p _
      simp only [Function.comp]
      split
      · rename_i e; simp [e]
      · rfl
    rw [this]; exact h
  · rename_i hn
    have hn : k ∉ l.map (·.1) := by simpa using hn
    rw [List.map_append, List.nodup_append]
    refine ⟨h, by simp, ?_⟩
    intro a ha b hb e
    simp only [List.map_cons, List.map_nil, List.mem_singleton] at hb
    subst hb; subst e; exact hn ha
theorem mget_mset_other {κ β : Type} [DecidableEq κ] (l : List (κ × β)) (k j : κ) (v : β) (hj : j ≠ k) : mget (mset l k v) j = mget l j := by
  unfold mset
  split
  · exact mget_map_other l k j v hj
  · unfold mget
    rw [List.find?_append]
    have : ¬ k = j := fun h => hj h.symm
    simp [this]
theorem imgOf_put {v : VolV} (h : (v.blocks.map (·.1)).Nodup) (n : ByteArray) (k : Int) (b : List Nat) : (imgOf n { v with blocks := mset v.blocks k b }).blocks = insB (imgOf n v).blocks k b := by
  unfold imgOf insB
  simp only
  rw [sortI_put h (mset_nodup h k b) (mset_keys v.blocks k b), List.map_append, List.map_cons, mget_mset_same, List.filter_map, List.filter_map]
  congr 1
  · apply List.map_congr_left
    intro j hj
    have : j < k := by simpa using (List.mem_filter.1 hj).2
    rw [mget_mset_other _ _ _ _ (by omega)]
  · congr 1
    apply List.map_congr_left
    intro j hj
    have : k < j := by simpa using (List.mem_filter.1 hj).2
    rw [mget_mset_other _ _ _ _ (by omega)]
theorem getB_img (n : ByteArray) (v : VolV) (k : Int) : getB (imgOf n v).blocks k = (mget v.blocks k).map fun b => (k, b) := by
  unfold getB imgOf
  simp only
  rw [List.find?_map]
  have : ((fun y : Int × List Nat => decide (y.1 = k)) ∘ fun j => (j, (mget v.blocks j).getD zeros48)) = fun j => decide (j = k) := by funext j; rfl
  rw [this]
  cases hg : mget v.blocks k with
  | none =>
    have hk : k ∉ sortI (v.blocks.map (·.1)) := fun h => by
      have := (mget_some_iff v.blocks k).2 ((sortI_perm _).mem_iff.1 h)
      rw [hg] at this; cases this
    have : (sortI (v.blocks.map (·.1))).find? (fun j => decide (j = k)) = none := by
      rw [List.find?_eq_none]
      intro x hx
      simp only [decide_eq_true_eq]
      rintro rfl
      exact hk hx
    rw [this]; rfl
  | some b =>
    have hk : k ∈ sortI (v.blocks.map (·.1)) := (sortI_perm _).mem_iff.2 ((mget_some_iff v.blocks k).1 (by rw [hg]; rfl))
    have hf : (sortI (v.blocks.map (·.1))).find? (fun j => decide (j = k)) = some k := by
      cases hff : (sortI (v.blocks.map (·.1))).find? (fun j => decide (j = k)) with
      | none => rw [List.find?_eq_none] at hff; have := hff k hk; simp at this
      | some j => have := List.find?_some hff; simp at this; rw [this]
    rw [hf, Option.map_some, hg]; rfl
theorem imgOf_len (n : ByteArray) (v : VolV) : (imgOf n v).blocks.length = v.blocks.length := by
  simp [imgOf, (sortI_perm _).length_eq]
theorem addS_may (M : St) (n : ByteArray) (v : VolV) (c : Int) : addS M n v c = if mayB n v.quota = false then 1 else if c ≠ 0 then c else if (mget M n).isSome then 6 else if v.quota < v.blocks.length then 8 else 0 := by
  unfold addS mayB
  have : (namedB n = false ∨ v.quota < 0 ∨ 1048576 < v.quota) ↔ (namedB n && decide (0 ≤ v.quota) && decide (v.quota ≤ 1048576)) = false := by
    cases namedB n with
    | false => simp
    | true =>
      simp
      constructor
      · rintro (h | h) <;> omega
      · intro h
        by_cases h0 : v.quota < 0
        · exact .inl h0
        · exact .inr (h (by omega))
  simp only [this]
theorem imgOf_new (n : ByteArray) (q : Int) (f : Bool) : imgOf n ⟨q, f, []⟩ = ⟨n, q, f, []⟩ := by simp [imgOf, sortI]
/-- What operations do is what the document says. -/
theorem refDo_eq (M : St) (hb : ∀ p ∈ M, (p.2.blocks.map (·.1)).Nodup) (o : OpV) : refDo (imgsOf M) o = (imgsOf (doS M o).1, (doS M o).2) := by
  have iss : ∀ n, (getI (imgsOf M) n).isSome = (mget M n).isSome := fun n => by rw [getI_imgs]; cases mget M n <;> rfl
  unfold refDo doS
  by_cases h1 : o.kind = 1
  · rw [if_pos h1, if_pos h1]
    unfold addM
    have eq : (newVol o).quota = o.quota := rfl
    have el : (newVol o).blocks.length = 0 := rfl
    simp only [addS_may, iss, eq, el]
    cases hm : mayB o.name o.quota with
    | false => simp
    | true =>
      have hq : ¬ o.quota < ((0 : Nat) : Int) := by
        unfold mayB at hm
        simp at hm ⊢
        omega
      cases hs : (mget M o.name).isSome with
      | true => simp
      | false =>
        have hq' : ¬ o.quota < 0 := by simpa using hq
        have := imgsOf_add (v := newVol o) hs
        rw [show imgOf o.name (newVol o) = ⟨o.name, o.quota, false, []⟩ from imgOf_new _ _ _] at this
        simp [hq', this]
  rw [if_neg h1, if_neg h1]
  by_cases h8 : o.kind = 8
  · rw [if_pos h8, if_neg (show ¬ o.kind = 2 by omega), if_neg (show ¬ (o.kind = 3 ∨ o.kind = 4 ∨ o.kind = 5) by omega), if_neg (show ¬ (o.kind = 6 ∨ o.kind = 7) by omega), if_pos h8]
  rw [if_neg h8]
  by_cases h67 : o.kind = 6 ∨ o.kind = 7
  · rw [if_pos h67, if_neg (show ¬ o.kind = 2 by omega), if_neg (show ¬ (o.kind = 3 ∨ o.kind = 4 ∨ o.kind = 5) by omega), if_pos h67]
    unfold addM
    rw [addS_may, iss, getI_imgs]
    unfold copyV
    cases hg : mget M o.name with
    | none =>
      simp only [Option.map_none, Option.getD_none]
      generalize (if o.kind = 6 then (0 : Int) else o.quota) = q
      cases mayB o.other q <;> simp
    | some v =>
      simp only [Option.map_some, Option.getD_some]
      have e : (imgOf o.name v).quota = v.quota := rfl
      rw [e, imgOf_len]
      have key : ∀ (q : Int) (f : Bool), (if mayB o.other q = false then (imgsOf M, (1 : Int), false, zeros48) else if (mget M o.other).isSome = true then (imgsOf M, 6, false, zeros48) else if q < (v.blocks.length : Int) then (imgsOf M, 8, false, zeros48)
          else (insI (imgsOf M) ⟨o.other, q, f, (imgOf o.name v).blocks⟩, 0, false, zeros48)) =
          (imgsOf (if (if mayB o.other q = false then (1 : Int) else if (0 : Int) ≠ 0 then 0 else if (mget M o.other).isSome = true then 6 else if q < (v.blocks.length : Int) then 8 else 0) = 0 then M ++ [(o.other, ⟨q, f, v.blocks⟩)] else M),
            if mayB o.other q = false then (1 : Int) else if (0 : Int) ≠ 0 then 0 else if (mget M o.other).isSome = true then 6 else if q < (v.blocks.length : Int) then 8 else 0, false, zeros48) := fun q f => by
        cases mayB o.other q with
        | false => simp
        | true =>
          cases hs : (mget M o.other).isSome with
          | true => simp
          | false =>
            have := imgsOf_add (v := ⟨q, f, v.blocks⟩) hs
            by_cases hq : q < (v.blocks.length : Int)
            · simp [hq]
            · simp only [hq, if_false, ne_eq, not_true_eq_false, Bool.true_eq_false, Bool.false_eq_true, if_true, this]
              rfl
      by_cases h6 : o.kind = 6
      · simp only [h6, if_true, decide_true]; exact key v.quota true
      · simp only [h6, if_false, decide_false]; exact key o.quota false
  rw [if_neg h67]
  by_cases hk : o.kind < 1 ∨ 8 < o.kind
  · rw [if_pos hk, if_neg (show ¬ o.kind = 2 by omega), if_neg (show ¬ (o.kind = 3 ∨ o.kind = 4 ∨ o.kind = 5) by omega), if_neg h67, if_neg h8]
  rw [if_neg hk, getI_imgs]
  by_cases h2 : o.kind = 2
  · rw [if_pos h2]
    cases hg : mget M o.name with
    | none => rfl
    | some v =>
      simp only [Option.map_some, if_pos h2, Option.isSome_some, if_true]
      rw [imgsOf_del]
  rw [if_neg h2, if_pos (show o.kind = 3 ∨ o.kind = 4 ∨ o.kind = 5 by omega)]
  unfold blkS findS
  cases hg : mget M o.name with
  | none => simp
  | some v =>
    simp only [Option.map_some, if_neg h2]
    by_cases hr : o.number < 0 ∨ 1048576 ≤ o.number
    · simp [hr]
    · simp only [if_neg hr]
      have nd := hb _ (mget_mem hg)
      simp only at nd
      rw [getB_img]
      by_cases h5 : o.kind = 5
      · simp only [h5, if_true, ne_eq, not_true_eq_false, and_false, if_false]
        cases mget v.blocks o.number <;> rfl
      · have ef : (imgOf o.name v).frozen = v.frozen := rfl
        have eq : (imgOf o.name v).quota = v.quota := rfl
        simp only [h5, if_false, ne_eq, not_false_eq_true, and_true, ef, eq, imgOf_len]
        cases hf : v.frozen with
        | true => simp
        | false =>
          simp only [Bool.false_eq_true, if_false, not_true_eq_false]
          by_cases h4 : o.kind = 4
          · simp only [h4, if_true]
            rw [if_neg (by omega)]
            rw [imgsOf_set (v' := ⟨v.quota, false, mdel v.blocks o.number⟩) hg rfl hf.symm]
            rw [show (imgOf o.name ⟨v.quota, false, mdel v.blocks o.number⟩).blocks = delB (imgOf o.name v).blocks o.number from imgOf_del o.name v o.number]
          · have h3 : o.kind = 3 := by omega
            simp only [h3, true_and]
            have : (Option.map (fun b => (o.number, b)) (mget v.blocks o.number)).isSome = (mget v.blocks o.number).isSome := by cases mget v.blocks o.number <;> rfl
            rw [this]
            simp only [show ¬ ((3 : Int) = 4) by decide, if_false]
            split
            · rfl
            · dsimp only
              rw [imgsOf_set (v' := ⟨v.quota, false, mset v.blocks o.number o.block⟩) hg rfl hf.symm]
              rw [show (imgOf o.name ⟨v.quota, false, mset v.blocks o.number o.block⟩).blocks = insB (imgOf o.name v).blocks o.number o.block from imgOf_put nd o.name o.number o.block]
end Go.Proofs
