/- Volumes as lists, and their images: plain laws. -/
import Derived.Test.YtnjilbgcflbghaaXMapPlain
import Derived.Test.YtnjilbgcflbghaaXNames
import Derived.Test.YtnjilbgcflbghaaXE3
import Derived.Test.YtnjilbgcflbghaaXE1
set_option linter.all false
set_option maxHeartbeats 2000000
set_option maxRecDepth 100000
namespace Go.Proofs
open Go Go.X Go.Sort
structure VolV where
  quota : Int
  frozen : Bool
  blocks : List (Int × List Nat)
def VolV.vals (v : VolV) : List (Int × Value) := v.blocks.map fun p => (p.1, arrV p.2)
theorem VolV.mget_vals (v : VolV) (k : Int) : mget v.vals k = (mget v.blocks k).map arrV := mget_map v.blocks arrV k
def zeros48 : List Nat := List.replicate 48 0
theorem zeros48_len : zeros48.length = 48 := by simp [zeros48]

/-- Volumes, by their names, in the order in which they came. -/
abbrev St := List (ByteArray × VolV)
def setS (M : St) (name : ByteArray) (v : VolV) : St := M.map fun p => if p.1 = name then (p.1, v) else p
theorem setS_eq (M : St) (name : ByteArray) (v : VolV) : setS M name v = M.map fun p => if p.1 = name then (name, v) else p := by
  unfold setS
  apply List.map_congr_left
  intro p _
  split
  · rename_i h; rw [h]
  · rfl
theorem mget_setS (M : St) (name : ByteArray) (v : VolV) (h : (mget M name).isSome = true) : mget (setS M name v) name = some v := by rw [setS_eq]; exact mget_map_same M name v h
theorem setS_keys (M : St) (name : ByteArray) (v : VolV) : (setS M name v).map (·.1) = M.map (·.1) := by
  unfold setS
  rw [List.map_map]
  apply List.map_congr_left
  intro p _
  simp only [Function.comp]
  split <;> rfl
theorem setS_len (M : St) (name : ByteArray) (v : VolV) : (setS M name v).length = M.length := by simp [setS]
theorem pairwise_unique {α : Type} {lt : α → α → Bool} (hanti : ∀ a b, lt a b = false → lt b a = false → a = b) {l l' : List α} (hp : l.Perm l') (h : l.Pairwise (fun a b => lt b a = false)) (h' : l'.Pairwise (fun a b => lt b a = false)) : l = l' :=
  List.Perm.eq_of_pairwise (le := fun a b => lt b a = false) (fun a b _ _ h1 h2 => hanti a b h2 h1) h h' hp
theorem mergeSort_pairwise {α : Type} [Inhabited α] {lt : α → α → Bool} (hs : SWO lt) (l : List α) : (l.mergeSort fun a b => !lt b a).Pairwise (fun a b => lt b a = false) := by
  have tr : ∀ a b c : α, (!lt b a) = true → (!lt c b) = true → (!lt c a) = true := fun a b c h1 h2 => by
    have h1' : lt b a = false := by simpa using h1
    have h2' : lt c b = false := by simpa using h2
    simpa using hs.ntrans _ _ _ h2' h1'
  have to : ∀ a b : α, ((!lt b a) || (!lt a b)) = true := fun a b => by
    cases h1 : lt b a <;> cases h2 : lt a b <;> simp
    have := hs.trans _ _ _ h1 h2
    rw [hs.irrefl] at this; cases this
  exact (List.pairwise_mergeSort tr to l).imp (fun h => by simpa using h)
def sortN (l : List ByteArray) : List ByteArray := l.mergeSort fun a b => !slt b a
def sortI (l : List Int) : List Int := l.mergeSort fun a b => !ltInt b a
theorem sortN_perm (l : List ByteArray) : (sortN l).Perm l := List.mergeSort_perm _ _
theorem sortI_perm (l : List Int) : (sortI l).Perm l := List.mergeSort_perm _ _
theorem sortN_eq {l ys : List ByteArray} (hp : ys.Perm l) (h : ys.Pairwise (fun a b => slt b a = false)) : ys = sortN l :=
  pairwise_unique (fun a b h1 h2 => slt_eq h1 h2) (hp.trans (sortN_perm l).symm) h (mergeSort_pairwise swo_slt l)
theorem sortI_eq {l ys : List Int} (hp : ys.Perm l) (h : ys.Pairwise (fun a b => ltInt b a = false)) : ys = sortI l :=
  pairwise_unique (fun a b h1 h2 => ltInt_eq h1 h2) (hp.trans (sortI_perm l).symm) h (mergeSort_pairwise swo_ltInt l)
/-- An image: a volume with its blocks, rising. -/
structure ImgV where
  name : ByteArray
  quota : Int
  frozen : Bool
  blocks : List (Int × List Nat)
  deriving DecidableEq
def imgOf (n : ByteArray) (v : VolV) : ImgV := ⟨n, v.quota, v.frozen, (sortI (v.blocks.map (·.1))).map fun k => (k, (mget v.blocks k).getD zeros48)⟩
instance : Inhabited VolV := ⟨⟨0, false, []⟩⟩
def imgsOf (M : St) : List ImgV := (sortN (M.map (·.1))).map fun n => imgOf n ((mget M n).getD default)
def rowB (p : Int × List Nat) : List Value := .int .i64 p.1 :: u8s p.2
def rowI (p : ImgV × Sl) : List Value := [.string p.1.name, .int .i64 p.1.quota, .bool p.1.frozen, p.2.v]
theorem rowI_len (L : List (ImgV × Sl)) : (L.flatMap rowI).length = L.length * 4 := flatMap_len L fun _ _ => rfl
theorem rowB_len {l : List (Int × List Nat)} (h : ∀ b ∈ l, b.2.length = 48) : (l.flatMap rowB).length = l.length * 49 := flatMap_len l fun b hb => by simp [rowB, h b hb]
theorem at_own {α : Type} {enc : α → Value} {w : World} {s : Sl} {e : TypeId} {l : List α} {i : Nat} (h : Own w s e 1 (l.map enc)) (hi : i < l.length) {K : α → Prop} (k : K l[i]) : Ix s (i : Int) fun p => Ld enc (some (p.add ((i : Int).toNat * 1))) w K := by
  have hs := h.sees
  have hl : l.length = s.len := by have := h.len; simpa using this
  cases ha : s.a with
  | none => have := hs.2.2.1 ha; omega
  | some a => exact ⟨a, ha, by omega, by omega, _, l[i], rfl, (by have := (hs.2.2.2 a ha).2 i (enc l[i]) (by simp [hi]); simpa using this), k⟩
/-- All volumes hold at most n blocks. -/
def BL (M : St) (n : Nat) : Prop := ∀ p ∈ M, p.2.blocks.length ≤ n
theorem BL.mono {M : St} {n m : Nat} (h : BL M n) (hm : n ≤ m) : BL M m := fun p hp => Nat.le_trans (h p hp) hm
theorem BL.get {M : St} {n : Nat} (h : BL M n) {k : ByteArray} {v : VolV} (hg : mget M k = some v) : v.blocks.length ≤ n := h _ (mget_mem hg)
theorem BL.set {M : St} {n : Nat} (h : BL M n) {k : ByteArray} {v : VolV} (hv : v.blocks.length ≤ n + 1) : BL (setS M k v) (n + 1) := by
  intro p hp
  unfold setS at hp
  obtain ⟨q, hq, rfl⟩ := List.mem_map.1 hp
  split
  · exact hv
  · exact Nat.le_succ_of_le (h q hq)
def getI (l : List ImgV) (n : ByteArray) : Option ImgV := l.find? fun x => decide (x.name = n)
def insI (l : List ImgV) (x : ImgV) : List ImgV := l.filter (fun y => slt y.name x.name) ++ x :: l.filter (fun y => !slt y.name x.name)
def delI (l : List ImgV) (n : ByteArray) : List ImgV := l.filter fun y => !decide (y.name = n)
def setI (l : List ImgV) (n : ByteArray) (b : List (Int × List Nat)) : List ImgV := l.map fun y => if y.name = n then { y with blocks := b } else y
def insB (l : List (Int × List Nat)) (n : Int) (b : List Nat) : List (Int × List Nat) := l.filter (fun y => decide (y.1 < n)) ++ (n, b) :: l.filter (fun y => decide (n < y.1))
def delB (l : List (Int × List Nat)) (n : Int) : List (Int × List Nat) := l.filter fun y => !decide (y.1 = n)
def getB (l : List (Int × List Nat)) (n : Int) : Option (Int × List Nat) := l.find? fun y => decide (y.1 = n)
theorem sortN_pairwise (l : List ByteArray) : (sortN l).Pairwise (fun a b => slt b a = false) := mergeSort_pairwise swo_slt l
theorem sortI_pairwise (l : List Int) : (sortI l).Pairwise (fun a b => ltInt b a = false) := mergeSort_pairwise swo_ltInt l
theorem filter_split {α : Type} (p : α → Bool) (l : List α) : (l.filter p ++ l.filter (fun x => !p x)).Perm l := List.filter_append_perm p l
/-- One name more, in its place. -/
theorem sortN_ins (ks : List ByteArray) (n : ByteArray) : sortN (ks ++ [n]) = (sortN ks).filter (fun k => slt k n) ++ n :: (sortN ks).filter (fun k => !slt k n) := by
  symm
  apply sortN_eq
  · refine (List.perm_middle).trans ?_
    refine (List.Perm.cons n ((filter_split _ _).trans (sortN_perm ks))).trans ?_
    exact (List.perm_append_singleton n ks).symm
  · rw [List.pairwise_append]
    refine ⟨(sortN_pairwise ks).filter _, ?_, ?_⟩
    · rw [List.pairwise_cons]
      exact ⟨fun b hb => by simpa using (List.mem_filter.1 hb).2, (sortN_pairwise ks).filter _⟩
    · intro a ha b hb
      have ha' := (List.mem_filter.1 ha).2
      rcases List.mem_cons.1 hb with rfl | hb
      · cases h : slt b a with
        | false => rfl
        | true => have := swo_slt.trans _ _ _ ha' h; rw [swo_slt.irrefl] at this; cases this
      · have hb' : slt b n = false := by simpa using (List.mem_filter.1 hb).2
        cases h : slt b a with
        | false => rfl
        | true => have := swo_slt.trans _ _ _ h ha'; rw [this] at hb'; cases hb'
theorem sortN_filter (ks : List ByteArray) (p : ByteArray → Bool) : sortN (ks.filter p) = (sortN ks).filter p :=
  (sortN_eq ((sortN_perm ks).filter p) ((sortN_pairwise ks).filter _)).symm
theorem sortI_filter (ks : List Int) (p : Int → Bool) : sortI (ks.filter p) = (sortI ks).filter p :=
  (sortI_eq ((sortI_perm ks).filter p) ((sortI_pairwise ks).filter _)).symm
/-- A number, there already or not, in its place. -/
theorem sortI_put {ks ks' : List Int} {n : Int} (h : ks.Nodup) (h' : ks'.Nodup) (hm : ∀ x, x ∈ ks' ↔ x ∈ ks ∨ x = n) : sortI ks' = (sortI ks).filter (fun k => decide (k < n)) ++ n :: (sortI ks).filter (fun k => decide (n < k)) := by
  symm
  have hs : (sortI ks).Nodup := (sortI_perm ks).nodup_iff.2 h
  have hms : ∀ x, x ∈ sortI ks ↔ x ∈ ks := fun x => (sortI_perm ks).mem_iff
  apply sortI_eq
  · refine (List.perm_ext_iff_of_nodup ?_ h').2 fun x => ?_
    · rw [List.nodup_append]
      refine ⟨hs.filter _, ?_, ?_⟩
      · rw [List.nodup_cons]
        exact ⟨fun hh => by have := (List.mem_filter.1 hh).2; simp at this, hs.filter _⟩
      · intro a ha b hb e
        subst e
        have h1 : a < n := by simpa using (List.mem_filter.1 ha).2
        rcases List.mem_cons.1 hb with rfl | hb
        · omega
        · have : n < a := by simpa using (List.mem_filter.1 hb).2
          omega
    · simp only [List.mem_append, List.mem_filter, List.mem_cons, hms, hm, decide_eq_true_eq]
      constructor
      · rintro (h | h | h)
        · exact .inl h.1
        · exact .inr h
        · exact .inl h.1
      · rintro (h | h)
        · rcases Int.lt_trichotomy x n with h2 | h2 | h2
          · exact .inl ⟨h, h2⟩
          · exact .inr (.inl h2)
          · exact .inr (.inr ⟨h, h2⟩)
        · exact .inr (.inl h)
  · rw [List.pairwise_append]
    refine ⟨(sortI_pairwise ks).filter _, ?_, ?_⟩
    · rw [List.pairwise_cons]
      refine ⟨fun b hb => ?_, (sortI_pairwise ks).filter _⟩
      have : n < b := by simpa using (List.mem_filter.1 hb).2
      unfold ltInt; simp; omega
    · intro a ha b hb
      have h1 : a < n := by simpa using (List.mem_filter.1 ha).2
      have h2 : n ≤ b := by
        rcases List.mem_cons.1 hb with rfl | hb
        · exact Int.le_refl _
        · have : n < b := by simpa using (List.mem_filter.1 hb).2
          omega
      unfold ltInt; simp; omega
theorem imgOf_name (n : ByteArray) (v : VolV) : (imgOf n v).name = n := rfl
theorem imgsOf_names (M : St) : (imgsOf M).map (·.name) = sortN (M.map (·.1)) := by
  unfold imgsOf
  rw [List.map_map]
  conv => rhs; rw [← List.map_id (sortN _)]
  rfl
theorem getI_imgs (M : St) (n : ByteArray) : getI (imgsOf M) n = (mget M n).map (imgOf n) := by
  cases hg : mget M n with
  | none =>
    unfold getI
    rw [Option.map_none, List.find?_eq_none]
    intro x hx
    obtain ⟨k, hk, rfl⟩ := List.mem_map.1 hx
    have hk' : k ∈ M.map (·.1) := (sortN_perm _).mem_iff.1 hk
    have := (mget_some_iff M k).2 hk'
    intro e
    have e : k = n := of_decide_eq_true e
    subst e
    rw [hg] at this; cases this
  | some v =>
    have hk : n ∈ sortN (M.map (·.1)) := (sortN_perm _).mem_iff.2 ((mget_some_iff M n).1 (by rw [hg]; rfl))
    unfold getI imgsOf
    rw [List.find?_map]
    have : ((fun x => decide (x.name = n)) ∘ fun n => imgOf n ((mget M n).getD default)) = fun k => decide (k = n) := by funext k; rfl
    rw [this]
    have hf : (sortN (M.map (·.1))).find? (fun k => decide (k = n)) = some n := by
      cases hff : (sortN (M.map (·.1))).find? (fun k => decide (k = n)) with
      | none => rw [List.find?_eq_none] at hff; have := hff n hk; simp at this
      | some k => have := List.find?_some hff; simp at this; rw [this]
    rw [hf, Option.map_some, hg]; rfl
theorem imgsOf_add {M : St} {n : ByteArray} {v : VolV} (h : (mget M n).isSome = false) : imgsOf (M ++ [(n, v)]) = insI (imgsOf M) (imgOf n v) := by
  have hnew : mget (M ++ [(n, v)]) n = some v := mget_append_new h
  have hold : ∀ k ∈ sortN (M.map (·.1)), mget (M ++ [(n, v)]) k = mget M k := fun k hk => by
    have := (mget_some_iff M k).2 ((sortN_perm _).mem_iff.1 hk)
    obtain ⟨x, hx⟩ := Option.isSome_iff_exists.1 this
    rw [hx, mget_append hx]
  have hmap : ∀ p : ByteArray → Bool, ((sortN (M.map (·.1))).filter p).map (fun k => imgOf k ((mget (M ++ [(n, v)]) k).getD default)) = (imgsOf M).filter (fun y => p y.name) := fun p => by
    unfold imgsOf
    rw [List.filter_map]
    apply List.map_congr_left
    intro k hk
    rw [hold k (List.mem_filter.1 hk).1]
  unfold imgsOf insI
  rw [List.map_append, List.map_cons, List.map_nil, sortN_ins, List.map_append, List.map_cons, hmap, hmap, hnew]
  rfl
theorem imgsOf_del (M : St) (n : ByteArray) : imgsOf (mdel M n) = delI (imgsOf M) n := by
  unfold delI imgsOf
  rw [List.filter_map]
  have hk : (mdel M n).map (·.1) = (M.map (·.1)).filter (fun k => !decide (k = n)) := by
    unfold mdel
    rw [List.filter_map]
    rfl
  rw [hk, sortN_filter]
  apply List.map_congr_left
  intro k hk
  have : k ≠ n := by simpa using (List.mem_filter.1 hk).2
  rw [mget_mdel_other _ _ _ this]
theorem imgsOf_set {M : St} {n : ByteArray} {v v' : VolV} (hg : mget M n = some v) (hq : v'.quota = v.quota) (hf : v'.frozen = v.frozen) : imgsOf (setS M n v') = setI (imgsOf M) n (imgOf n v').blocks := by
  unfold setI imgsOf
  rw [setS_keys, List.map_map]
  apply List.map_congr_left
  intro k hk
  show imgOf k _ = if (imgOf k ((mget M k).getD default)).name = n then _ else _
  by_cases h : k = n
  · subst h
    rw [if_pos (show (imgOf k ((mget M k).getD default)).name = k from rfl), mget_setS _ _ _ (by rw [hg]; rfl)]
    show imgOf k v' = ⟨k, ((mget M k).getD default).quota, ((mget M k).getD default).frozen, (imgOf k v').blocks⟩
    rw [hg]
    simp only [Option.getD_some, imgOf, hq, hf]
  · rw [if_neg (show ¬ (imgOf k ((mget M k).getD default)).name = n from h), setS_eq, mget_map_other _ _ _ _ h]
theorem imgOf_del (n : ByteArray) (v : VolV) (k : Int) : (imgOf n { v with blocks := mdel v.blocks k }).blocks = delB (imgOf n v).blocks k := by
  unfold imgOf delB
  simp only
  rw [mdel_keys, sortI_filter, List.filter_map]
  apply List.map_congr_left
  intro j hj
  have : j ≠ k := by simpa using (List.mem_filter.1 hj).2
  rw [mget_mdel_other _ _ _ this]
theorem imgOf_put {v : VolV} (h : (v.blocks.map (·.1)).Nodup) (n : ByteArray) (k : Int) (b : List Nat) : (imgOf n { v with blocks := mset v.blocks k b }).blocks = insB (imgOf n v).blocks k b := by
  unfold imgOf insB
  simp only
  rw [sortI_put h (mset_nodup h k b) (mset_keys v.blocks k b), List.map_append, List.map_cons, mget_mset_same, List.filter_map, List.filter_map]
  congr 1
  · apply List.map_congr_left
    intro j hj
    have : j < k := by simpa using (List.mem_filter.1 hj).2
    rw [mget_mset_other _ _ _ _ (by omega)]
  · congr 1
    apply List.map_congr_left
    intro j hj
    have : k < j := by simpa using (List.mem_filter.1 hj).2
    rw [mget_mset_other _ _ _ _ (by omega)]
theorem getB_img (n : ByteArray) (v : VolV) (k : Int) : getB (imgOf n v).blocks k = (mget v.blocks k).map fun b => (k, b) := by
  unfold getB imgOf
  simp only
  rw [List.find?_map]
  have : ((fun y : Int × List Nat => decide (y.1 = k)) ∘ fun j => (j, (mget v.blocks j).getD zeros48)) = fun j => decide (j = k) := by funext j; rfl
  rw [this]
  cases hg : mget v.blocks k with
  | none =>
    have hk : k ∉ sortI (v.blocks.map (·.1)) := fun h => by
      have := (mget_some_iff v.blocks k).2 ((sortI_perm _).mem_iff.1 h)
      rw [hg] at this; cases this
    have : (sortI (v.blocks.map (·.1))).find? (fun j => decide (j = k)) = none := by
      rw [List.find?_eq_none]
      intro x hx
      simp only [decide_eq_true_eq]
      rintro rfl
      exact hk hx
    rw [this]; rfl
  | some b =>
    have hk : k ∈ sortI (v.blocks.map (·.1)) := (sortI_perm _).mem_iff.2 ((mget_some_iff v.blocks k).1 (by rw [hg]; rfl))
    have hf : (sortI (v.blocks.map (·.1))).find? (fun j => decide (j = k)) = some k := by
      cases hff : (sortI (v.blocks.map (·.1))).find? (fun j => decide (j = k)) with
      | none => rw [List.find?_eq_none] at hff; have := hff k hk; simp at this
      | some j => have := List.find?_some hff; simp at this; rw [this]
    rw [hf, Option.map_some, hg]; rfl
theorem imgOf_len (n : ByteArray) (v : VolV) : (imgOf n v).blocks.length = v.blocks.length := by
  simp [imgOf, (sortI_perm _).length_eq]
theorem imgOf_new (n : ByteArray) (q : Int) (f : Bool) : imgOf n ⟨q, f, []⟩ = ⟨n, q, f, []⟩ := by simp [imgOf, sortI]
/-- Names rise. -/
def Rising (l : List ImgV) : Prop := (l.map (·.name)).Pairwise (fun a b => slt a b = true)
theorem insI_at {l : List ImgV} {x : ImgV} {i : Nat} (hr : Rising l) (h1 : ∀ y ∈ l.take i, slt y.name x.name = true) (h2 : ∀ hi : i < l.length, slt l[i].name x.name = false) : insI l x = l.take i ++ x :: l.drop i := by
  have h3 : ∀ y ∈ l.drop i, slt y.name x.name = false := by
    by_cases hi : i < l.length
    · rw [List.drop_eq_getElem_cons hi]
      intro y hy
      rcases List.mem_cons.1 hy with rfl | hy
      · exact h2 hi
      · have hlt : slt l[i].name y.name = true := by
          unfold Rising at hr
          rw [← List.take_append_drop i l, List.drop_eq_getElem_cons hi, List.map_append, List.map_cons, List.pairwise_append] at hr
          exact (List.pairwise_cons.1 hr.2.1).1 _ (List.mem_map.2 ⟨y, hy, rfl⟩)
        cases h : slt y.name x.name with
        | false => rfl
        | true => have := swo_slt.trans _ _ _ hlt h; rw [h2 hi] at this; cases this
    · rw [List.drop_eq_nil_of_le (by omega)]
      intro y hy; cases hy
  have e1 : l.filter (fun y => slt y.name x.name) = l.take i := by
    conv => lhs; rw [← List.take_append_drop i l]
    rw [List.filter_append, List.filter_eq_self.2 h1, List.filter_eq_nil_iff.2 (fun y hy => by rw [h3 y hy]; simp), List.append_nil]
  have e2 : l.filter (fun y => !slt y.name x.name) = l.drop i := by
    conv => lhs; rw [← List.take_append_drop i l]
    rw [List.filter_append, List.filter_eq_nil_iff.2 (fun y hy => by rw [h1 y hy]; simp), List.filter_eq_self.2 (fun y hy => by rw [h3 y hy]; rfl), List.nil_append]
  unfold insI
  rw [e1, e2]
theorem rowI_lens (L : List (ImgV × Sl)) : ∀ r ∈ L, (rowI r).length = 4 := fun _ _ => rfl
theorem Own.ofBlk {w : World} {b n size : Nat} {cs : Array Value} {e : TypeId} (h : Blk w b cs e) (hn : cs.size = n * size) (hm : n ≤ 140737488355328) : Own w ⟨some ⟨b, 0, none⟩, n, n⟩ e size cs.toList :=
  ⟨by simpa using hn, .inr ⟨b, n, cs, rfl, Nat.zero_le _, h, Nat.le_refl _, by unfold maxLen; omega, hn, by rw [List.take_of_length_le]; simp [hn]⟩⟩
theorem Own.empty {w : World} {b size : Nat} {e : TypeId} (h : Blk w b #[] e) : Own w ⟨some ⟨b, 0, none⟩, 0, 0⟩ e size [] := by
  have := Own.ofBlk (n := 0) (size := size) h (by simp) (by decide)
  simpa using this
/-- The first rows are cut out. -/
theorem Cut.take {α : Type} {enc : α → List Value} {w : World} {s : Sl} {size : Nat} {l : List α} {i : Nat} (h : Sees w s size (l.flatMap enc)) (hlen : ∀ r ∈ l, (enc r).length = size) (h0 : 0 < size) (hi : i ≤ l.length) {K : Sl → Prop}
    (k : ∀ s', Sees w s' size ((l.take i).flatMap enc) → s'.len = i → K s') : Cut s size none (some (i : Int)) none K := by
  have hc := h.count hlen h0
  have hcap := h.2.1
  refine ⟨0, i, s.cap, rfl, Nat.le_refl _, ⟨rfl, by omega⟩, rfl, Nat.zero_le _, k _ ?_ (by simp)⟩
  have hl2 : ((l.take i).flatMap enc).length = (l.take i).length * size := flatMap_len _ fun r hr => hlen r (List.mem_of_mem_take hr)
  refine ⟨?_, by simp only; omega, fun hn => ?_, fun a ha => ?_⟩
  · rw [hl2, List.length_take, Nat.min_eq_left hi]; rfl
  · simp only at hn ⊢
    have : s.a = none := by
      split at hn
      · exact hn
      · simpa using hn
    have := h.2.2.1 this
    omega
  · have : s.a = some a := by
      simp only at ha
      split at ha
      · exact ha
      · cases hs : s.a with
        | none => rw [hs] at ha; cases ha
        | some b =>
          rw [hs] at ha
          obtain rfl : b.add (0 * size) = a := by simpa using ha
          rw [Nat.zero_mul]
          congr 1
    obtain ⟨h1, h2⟩ := h.2.2.2 a this
    refine ⟨h1, fun j v hj => h2 j v ?_⟩
    rw [← List.take_append_drop i l, List.flatMap_append, List.getElem?_append_left (List.getElem?_eq_some_iff.1 hj).1]
    exact hj
/-- The last rows are cut out. -/
theorem Cut.drop {α : Type} {enc : α → List Value} {w : World} {s : Sl} {size : Nat} {l : List α} {i : Nat} (h : Sees w s size (l.flatMap enc)) (hlen : ∀ r ∈ l, (enc r).length = size) (h0 : 0 < size) (hi : i ≤ l.length) {K : Sl → Prop}
    (k : ∀ s', Sees w s' size ((l.drop i).flatMap enc) → s'.len = l.length - i → K s') : Cut s size (some (i : Int)) none none K := by
  have hc := h.count hlen h0
  have hcap := h.2.1
  refine ⟨i, s.len, s.cap, rfl, Nat.le_refl _, ⟨rfl, rfl⟩, rfl, by omega, k _ ?_ (by simp only; omega)⟩
  have hl2 : ((l.drop i).flatMap enc).length = (l.drop i).length * size := flatMap_len _ fun r hr => hlen r (List.mem_of_mem_drop hr)
  refine ⟨?_, by simp only; omega, fun hn => ?_, fun a ha => ?_⟩
  · rw [hl2, List.length_drop, hc]
  · simp only at hn ⊢
    have : s.a = none := by
      split at hn
      · exact hn
      · simpa using hn
    have := h.2.2.1 this
    omega
  · simp only at ha
    split at ha
    · rename_i he
      obtain ⟨h1, _⟩ := h.2.2.2 a ha
      refine ⟨h1, fun j v hj => ?_⟩
      have : (l.drop i).flatMap enc = [] := by rw [List.drop_eq_nil_of_le (by omega)]; rfl
      rw [this] at hj; cases hj
    · cases hs : s.a with
      | none => rw [hs] at ha; cases ha
      | some b =>
        rw [hs] at ha
        obtain rfl : b.add (i * size) = a := by simpa using ha
        obtain ⟨h1, h2⟩ := h.2.2.2 b hs
        obtain ⟨bb, bo, bp⟩ := b
        simp only at h1
        subst h1
        refine ⟨by simp, fun j v hj => ?_⟩
        have := h2 (i * size + j) v ?_
        · simpa [Nat.add_assoc] using this
        · have hl3 : ((l.take i).flatMap enc).length = i * size := by
            rw [flatMap_len _ fun r hr => hlen r (List.mem_of_mem_take hr), List.length_take, Nat.min_eq_left hi]
          rw [← List.take_append_drop i l, List.flatMap_append, List.getElem?_append_right (by omega), hl3]
          simpa using hj
/-- One row is cut out. -/
theorem Cut.row {α : Type} {enc : α → List Value} {w : World} {s : Sl} {size : Nat} {l : List α} {i : Nat} (h : Sees w s size (l.flatMap enc)) (hlen : ∀ r ∈ l, (enc r).length = size) (h0 : 0 < size) (hi : i < l.length) {K : Sl → Prop}
    (k : ∀ s', Sees w s' size (enc l[i]) → K s') : Cut s size (some (i : Int)) (some ((i + 1 : Nat) : Int)) none K := by
  have hc := h.count hlen h0
  have hcap := h.2.1
  obtain ⟨a, ha, hsp, hrow, hsz⟩ := h.at hlen h0 i hi
  refine ⟨i, i + 1, s.cap, rfl, Nat.le_refl _, ⟨rfl, by omega⟩, rfl, by omega, k _ ?_⟩
  rw [if_neg (by omega), ha]
  refine ⟨?_, by show i + 1 - i ≤ s.cap - i; omega, fun h => (by cases h), fun b hb => ?_⟩
  · have := hlen _ (List.getElem_mem hi); rw [this]; simp
  · obtain rfl : a.add (i * size) = b := by simpa using hb
    refine ⟨?_, fun j v hj => hrow j v (by simpa using hj)⟩
    unfold Addr.add; split
    · exact hsp
    · rfl
/-- Where an image is found. -/
theorem find_img {L : List (ImgV × Sl)} {M : St} {k : ByteArray} {v : VolV} (hL : L.map (·.1) = imgsOf M) (hg : mget M k = some v) :
    ∃ i, ∃ hi : i < L.length, L.findIdx? (fun p => decide (p.1.name = k)) = some i ∧ L[i].1 = imgOf k v := by
  have hk : k ∈ sortN (M.map (·.1)) := (sortN_perm _).mem_iff.2 ((mget_some_iff M k).1 (by rw [hg]; rfl))
  have hm : imgOf k ((mget M k).getD default) ∈ L.map (·.1) := by rw [hL]; exact List.mem_map.2 ⟨k, hk, rfl⟩
  obtain ⟨p, hp, he⟩ := List.mem_map.1 hm
  cases hfi : L.findIdx? (fun p => decide (p.1.name = k)) with
  | none =>
    rw [List.findIdx?_eq_none_iff] at hfi
    have := hfi p hp
    rw [he] at this
    simp [imgOf] at this
  | some i =>
    obtain ⟨hi, h1, _⟩ := List.findIdx?_eq_some_iff_getElem.1 hfi
    refine ⟨i, hi, rfl, ?_⟩
    have h1 : L[i].1.name = k := by simpa using h1
    have h2 : L[i].1 ∈ imgsOf M := hL ▸ List.mem_map.2 ⟨L[i], List.getElem_mem hi, rfl⟩
    obtain ⟨n, _, hn⟩ := List.mem_map.1 h2
    have : n = k := by rw [← h1, ← hn]; rfl
    subst this
    rw [← hn, hg]; rfl
theorem rowI_one (p : ImgV × Sl) : ∀ v ∈ (rowI p), v.oneCell' = true := by
  intro v hv
  simp only [rowI, List.mem_cons, List.not_mem_nil, or_false] at hv
  rcases hv with rfl | rfl | rfl | rfl <;> rfl
/-- Numbers rise. -/
def RiseB (l : List (Int × List Nat)) : Prop := (l.map (·.1)).Pairwise (· < ·)
theorem rise_split {l : List (Int × List Nat)} (h : RiseB l) {k : Nat} (hk : k < l.length) : (∀ y ∈ l.take k, y.1 < l[k].1) ∧ ∀ y ∈ l.drop (k + 1), l[k].1 < y.1 := by
  unfold RiseB at h
  rw [← List.take_append_drop k l, List.drop_eq_getElem_cons hk, List.map_append, List.map_cons, List.pairwise_append] at h
  exact ⟨fun y hy => h.2.2 _ (List.mem_map.2 ⟨y, hy, rfl⟩) _ (List.mem_cons_self ..), fun y hy => (List.pairwise_cons.1 h.2.1).1 _ (List.mem_map.2 ⟨y, hy, rfl⟩)⟩
theorem rising_split {l : List ImgV} (h : Rising l) {i : Nat} (hi : i < l.length) : (∀ y ∈ l.take i, y.name ≠ l[i].name) ∧ ∀ y ∈ l.drop (i + 1), y.name ≠ l[i].name := by
  unfold Rising at h
  rw [← List.take_append_drop i l, List.drop_eq_getElem_cons hi, List.map_append, List.map_cons, List.pairwise_append] at h
  refine ⟨fun y hy e => ?_, fun y hy e => ?_⟩
  · have := h.2.2 _ (List.mem_map.2 ⟨y, hy, rfl⟩) _ (List.mem_cons_self ..)
    rw [e, swo_slt.irrefl] at this; cases this
  · have := (List.pairwise_cons.1 h.2.1).1 _ (List.mem_map.2 ⟨y, hy, rfl⟩)
    rw [e, swo_slt.irrefl] at this; cases this
theorem delI_at {l : List ImgV} (h : Rising l) {i : Nat} (hi : i < l.length) : delI l l[i].name = l.take i ++ l.drop (i + 1) := by
  obtain ⟨h1, h2⟩ := rising_split h hi
  have e : l = l.take i ++ (l[i] :: l.drop (i + 1)) := by rw [← List.drop_eq_getElem_cons hi, List.take_append_drop]
  unfold delI
  generalize l[i] = x at *
  conv => lhs; rw [e]
  rw [List.filter_append, List.filter_cons, if_neg (by simp), List.filter_eq_self.2 (fun y hy => by simp [h1 y hy]), List.filter_eq_self.2 (fun y hy => by simp [h2 y hy])]
theorem setI_at {l : List ImgV} (h : Rising l) {i : Nat} (hi : i < l.length) (B : List (Int × List Nat)) : setI l l[i].name B = l.take i ++ { l[i] with blocks := B } :: l.drop (i + 1) := by
  obtain ⟨h1, h2⟩ := rising_split h hi
  have e : l = l.take i ++ (l[i] :: l.drop (i + 1)) := by rw [← List.drop_eq_getElem_cons hi, List.take_append_drop]
  generalize l[i] = x at *
  have same : ∀ m : List ImgV, (∀ y ∈ m, y.name ≠ x.name) → m.map (fun y => if y.name = x.name then { y with blocks := B } else y) = m := fun m hm => by
    conv => rhs; rw [← List.map_id m]
    apply List.map_congr_left
    intro y hy
    rw [if_neg (hm y hy)]; rfl
  unfold setI
  conv => lhs; rw [e]
  rw [List.map_append, List.map_cons, if_pos rfl, same _ h1, same _ h2]
/-- Where a name is. -/
theorem find_cases (L : List (ImgV × Sl)) (n : ByteArray) : (∃ i, ∃ hi : i < L.length, L.findIdx? (fun p => decide (p.1.name = n)) = some i ∧ getI (L.map (·.1)) n = some L[i].1 ∧ L[i].1.name = n) ∨
    (L.findIdx? (fun p => decide (p.1.name = n)) = none ∧ getI (L.map (·.1)) n = none) := by
  cases hf : L.findIdx? (fun p => decide (p.1.name = n)) with
  | some i =>
    obtain ⟨hi, h1, h2⟩ := List.findIdx?_eq_some_iff_getElem.1 hf
    left
    refine ⟨i, hi, rfl, ?_, by simpa using h1⟩
    unfold getI
    rw [List.find?_map]
    have e : List.find? ((fun x : ImgV => decide (x.name = n)) ∘ fun p : ImgV × Sl => p.1) L = some L[i] :=
      List.find?_eq_some_iff_getElem.2 ⟨by simpa using h1, i, hi, rfl, fun j hj => by simpa using h2 j hj⟩
    rw [e]; rfl
  | none =>
    right
    refine ⟨rfl, ?_⟩
    rw [List.findIdx?_eq_none_iff] at hf
    unfold getI
    rw [List.find?_eq_none]
    intro x hx
    obtain ⟨p, hp, rfl⟩ := List.mem_map.1 hx
    simpa using hf p hp
theorem Own.st {w : World} {s : Sl} {e size : Nat} {xs : List Value} (h : Own w s e size xs) {i : Nat} (hi : i < xs.length) : ∃ g, s.a = some ⟨g, 0, none⟩ ∧ ∀ (v : Value) (K : World → Prop), (∀ w', Own w' s e size (xs.set i v) → Ch (· = g) w w' → K w') → Go.X.St (some ⟨g, i, none⟩) v w K := by
  rcases h.2 with ⟨hv, hn⟩ | ⟨g, cap, cur, hv, hb, hg, hnc, hcm, hsz, ht⟩
  · have := h.1; rw [hn] at this; simp at this; subst this; simp at hi
  · have ha : s.a = some ⟨g, 0, none⟩ := by
      obtain ⟨a, l, c⟩ := s
      simp only [Sl.v, Value.slice.injEq] at hv
      exact hv.1
    refine ⟨g, ha, fun v K k => ?_⟩
    have hi' : i < cur.size := by
      have := congrArg List.length ht
      rw [List.length_take] at this
      simp at this; omega
    refine Go.X.St.blk (show Blk w g cur e from hg) hi' fun w' hb' hc' => k w' ⟨by simpa using h.1, .inr ⟨g, cap, _, hv, hb, hb', hnc, hcm, by simpa using hsz, ?_⟩⟩ hc'
    rw [Array.toList_setIfInBounds, List.take_set, ht]
theorem getB_at {X : List (Int × List Nat)} (h : RiseB X) {j : Nat} (hj : j < X.length) : getB X X[j].1 = some X[j] := by
  unfold getB
  refine List.find?_eq_some_iff_getElem.2 ⟨by simp, j, hj, rfl, fun i hi => ?_⟩
  have := (rise_split h hj).1 X[i] (List.mem_take_iff_getElem.2 ⟨i, by omega, rfl⟩)
  simp; omega
theorem getB_none {X : List (Int × List Nat)} {n : Int} (h : ∀ y ∈ X, ¬ y.1 = n) : getB X n = none := by
  unfold getB
  rw [List.find?_eq_none]
  intro x hx
  simpa using h x hx
def idxI : Option Nat → Int
  | some i => i
  | none => -1
theorem imgs_rising {M : St} (hn : (M.map (·.1)).Nodup) : Rising (imgsOf M) := by
  unfold Rising
  rw [imgsOf_names]
  have h1 := sortN_pairwise (M.map (·.1))
  have h2 : (sortN (M.map (·.1))).Nodup := (sortN_perm _).nodup_iff.2 hn
  refine (h1.and h2).imp fun {a b} h => ?_
  cases hc : slt a b with
  | true => rfl
  | false => exact absurd (slt_eq hc h.1) h.2
theorem img_rise {M : St} (hb : ∀ p ∈ M, (p.2.blocks.map (·.1)).Nodup) : ∀ x ∈ imgsOf M, RiseB x.blocks := by
  intro x hx
  obtain ⟨n, hn, rfl⟩ := List.mem_map.1 hx
  have h1 : n ∈ M.map (·.1) := (sortN_perm _).mem_iff.1 hn
  obtain ⟨v, hv⟩ := Option.isSome_iff_exists.1 ((mget_some_iff M n).2 h1)
  rw [hv]
  unfold RiseB imgOf
  simp only [Option.getD_some, List.map_map]
  have e : ((fun y : Int × List Nat => y.1) ∘ fun k => (k, (mget v.blocks k).getD zeros48)) = id := rfl
  rw [e, List.map_id]
  have h2 := sortI_pairwise (v.blocks.map (·.1))
  have h3 : (sortI (v.blocks.map (·.1))).Nodup := (sortI_perm _).nodup_iff.2 (hb _ (mget_mem hv))
  refine (h2.and h3).imp fun {a b} h => ?_
  have h4 : ¬ b < a := by have := h.1; unfold ltInt at this; simpa using this
  have := h.2
  omega
theorem img_small {M : St} {n : Nat} (hb : BL M n) : ∀ x ∈ imgsOf M, x.blocks.length ≤ n := by
  intro x hx
  obtain ⟨k, hk, rfl⟩ := List.mem_map.1 hx
  rw [imgOf_len]
  cases hg : mget M k with
  | none => exact Nat.zero_le _
  | some v => exact hb.get hg
end Go.Proofs
