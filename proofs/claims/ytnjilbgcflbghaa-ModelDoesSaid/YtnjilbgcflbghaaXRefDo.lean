/- sporranref15: Do. -/
import Derived.Test.YtnjilbgcflbghaaXF1
import Derived.Test.YtnjilbgcflbghaaXRefW
set_option linter.all false
set_option maxHeartbeats 4000000
set_option maxRecDepth 100000
namespace Go.Proofs
open Go Go.X Go.Sort
theorem ImgsSee.ch {S : Nat → Prop} {w w' : World} {s : Sl} {L : List (ImgV × Sl)} (h : ImgsSee w s L) (hc : Ch S w w') (hs : ∀ k, ImgsAt.foot s L k → ¬ S k) : ImgsSee w' s L :=
  ⟨h.sees.ch hc fun k hk => hs k (.inl hk), fun p hp => (h.each p hp).ch hc fun k hk => hs k (.inr ⟨p, hp, hk⟩), h.lens⟩
theorem LdO {α : Type} {enc : α → Value} {w : World} {b i : Nat} {cs : Array Value} {e : TypeId} {K : α → Prop} {x : α} (h : Blk w b cs e) (hv : cs[i]? = some (enc x)) (k : K x) : NotNil (some ⟨b, 0, none⟩) fun p => Ld enc (some (p.add i)) w K :=
  ⟨_, rfl, by simp only [addr_add, Nat.zero_add]; exact Ld.blk h hv k⟩
/-- Numbers rise. -/
def RiseB (l : List (Int × List Nat)) : Prop := (l.map (·.1)).Pairwise (· < ·)
theorem rise_split {l : List (Int × List Nat)} (h : RiseB l) {k : Nat} (hk : k < l.length) : (∀ y ∈ l.take k, y.1 < l[k].1) ∧ ∀ y ∈ l.drop (k + 1), l[k].1 < y.1 := by
  unfold RiseB at h
  rw [← List.take_append_drop k l, List.drop_eq_getElem_cons hk, List.map_append, List.map_cons, List.pairwise_append] at h
  exact ⟨fun y hy => h.2.2 _ (List.mem_map.2 ⟨y, hy, rfl⟩) _ (List.mem_cons_self ..), fun y hy => (List.pairwise_cons.1 h.2.1).1 _ (List.mem_map.2 ⟨y, hy, rfl⟩)⟩
/-- Where a name is. -/
theorem find_cases (L : List (ImgV × Sl)) (n : ByteArray) : (∃ i, ∃ hi : i < L.length, L.findIdx? (fun p => decide (p.1.name = n)) = some i ∧ getI (L.map (·.1)) n = some L[i].1 ∧ L[i].1.name = n) ∨
    (L.findIdx? (fun p => decide (p.1.name = n)) = none ∧ getI (L.map (·.1)) n = none) := by
  cases hf : L.findIdx? (fun p => decide (p.1.name = n)) with
  | some i =>
    obtain ⟨hi, h1, h2⟩ := List.findIdx?_eq_some_iff_getElem.1 hf
    left
    refine ⟨i, hi, rfl, ?_, by simpa using h1⟩
    unfold getI
    rw [List.find?_map]
    have e : List.find? ((fun x : ImgV => decide (x.name = n)) ∘ fun p : ImgV × Sl => p.1) L = some L[i] :=
      List.find?_eq_some_iff_getElem.2 ⟨by simpa using h1, i, hi, rfl, fun j hj => by simpa using h2 j hj⟩
    rw [e]; rfl
  | none =>
    right
    refine ⟨rfl, ?_⟩
    rw [List.findIdx?_eq_none_iff] at hf
    unfold getI
    rw [List.find?_eq_none]
    intro x hx
    obtain ⟨p, hp, rfl⟩ := List.mem_map.1 hx
    simpa using hf p hp
theorem rising_split {l : List ImgV} (h : Rising l) {i : Nat} (hi : i < l.length) : (∀ y ∈ l.take i, y.name ≠ l[i].name) ∧ ∀ y ∈ l.drop (i + 1), y.name ≠ l[i].name := by
  unfold Rising at h
  rw [← List.take_append_drop i l, List.drop_eq_getElem_cons hi, List.map_append, List.map_cons, List.pairwise_append] at h
  refine ⟨fun y hy e => ?_, fun y hy e => ?_⟩
  · have := h.2.2 _ (List.mem_map.2 ⟨y, hy, rfl⟩) _ (List.mem_cons_self ..)
    rw [e, swo_slt.irrefl] at this; cases this
  · have := (List.pairwise_cons.1 h.2.1).1 _ (List.mem_map.2 ⟨y, hy, rfl⟩)
    rw [e, swo_slt.irrefl] at this; cases this
theorem delI_at {l : List ImgV} (h : Rising l) {i : Nat} (hi : i < l.length) : delI l l[i].name = l.take i ++ l.drop (i + 1) := by
  obtain ⟨h1, h2⟩ := rising_split h hi
  have e : l = l.take i ++ (l[i] :: l.drop (i + 1)) := by rw [← List.drop_eq_getElem_cons hi, List.take_append_drop]
  unfold delI
  generalize l[i] = x at *
  conv => lhs; rw [e]
  rw [List.filter_append, List.filter_cons, if_neg (by simp), List.filter_eq_self.2 (fun y hy => by simp [h1 y hy]), List.filter_eq_self.2 (fun y hy => by simp [h2 y hy])]
theorem setI_at {l : List ImgV} (h : Rising l) {i : Nat} (hi : i < l.length) (B : List (Int × List Nat)) : setI l l[i].name B = l.take i ++ { l[i] with blocks := B } :: l.drop (i + 1) := by
  obtain ⟨h1, h2⟩ := rising_split h hi
  have e : l = l.take i ++ (l[i] :: l.drop (i + 1)) := by rw [← List.drop_eq_getElem_cons hi, List.take_append_drop]
  generalize l[i] = x at *
  have same : ∀ m : List ImgV, (∀ y ∈ m, y.name ≠ x.name) → m.map (fun y => if y.name = x.name then { y with blocks := B } else y) = m := fun m hm => by
    conv => rhs; rw [← List.map_id m]
    apply List.map_congr_left
    intro y hy
    rw [if_neg (hm y hy)]; rfl
  unfold setI
  conv => lhs; rw [e]
  rw [List.map_append, List.map_cons, if_pos rfl, same _ h1, same _ h2]

/-- What is known within the document's Do. -/
structure DoCtx (w u : World) (a1 a2 : Nat) (o : OpV) (s : Sl) (L : List (ImgV × Sl)) : Prop where
  see : ImgsSee w s L
  lt : ∀ b, ImgsAt.foot s L b → b < w.heap.size
  ext : Ext w u
  b1 : Blk u a1 o.cells 67
  b2 : ∃ cs, cs.size = 51 ∧ Blk u a2 cs 73
  f1 : w.heap.size ≤ a1
  f2 : w.heap.size ≤ a2
  ne : a1 ≠ a2
  ok : o.OK
  rise : Rising (L.map (·.1))
  riseB : ∀ p ∈ L, RiseB p.1.blocks
  len : L.length < 1000
  lenB : ∀ p ∈ L, p.1.blocks.length < 1000
theorem DoCtx.more {w u u' : World} {a1 a2 : Nat} {o : OpV} {s : Sl} {L : List (ImgV × Sl)} (c : DoCtx w u a1 a2 o s L) (hx : Ext u u') : DoCtx w u' a1 a2 o s L :=
  { c with ext := c.ext.trans hx, b1 := c.b1.ext hx, b2 := c.b2.imp fun _ h => ⟨h.1, h.2.ext hx⟩ }
theorem DoCtx.here {w u : World} {a1 a2 : Nat} {o : OpV} {s : Sl} {L : List (ImgV × Sl)} (c : DoCtx w u a1 a2 o s L) : ImgsSee u s L := c.see.ext c.ext
/-- What is asked behind the document's Do. -/
def RK (w : World) (s : Sl) (L : List (ImgV × Sl)) (o : OpV) (R : Value → World → Prop) : Prop :=
  ∀ s' L' w' sn ys, ImgsSee w' s' L' → L'.map (·.1) = (refDo (L.map (·.1)) o).1 → Ext w w' → (∀ b, ImgsAt.foot s' L' b → (ImgsAt.foot s L b ∨ w.heap.size ≤ b) ∧ b < w'.heap.size) → Sees w' sn 1 (ys.map Value.string) → (∀ b, sn.blk b → w.heap.size ≤ b ∧ b < w'.heap.size) →
    (o.kind = 8 → ys = L.map (·.1.name)) → (o.kind ≠ 8 → ys = [] ∧ sn = Sl.nil) → (refDo (L.map (·.1)) o).2.2.2.length = 48 → R (.tuple #[s'.v, .agg (ansL (refDo (L.map (·.1)) o).2.1 (refDo (L.map (·.1)) o).2.2.1 (refDo (L.map (·.1)) o).2.2.2 sn.v).toArray]) w'
theorem do_ret {w u : World} {a1 a2 : Nat} {o : OpV} {s : Sl} {L : List (ImgV × Sl)} {R : Value → World → Prop} (hk : RK w s L o R) (c : DoCtx w u a1 a2 o s L) {e : Int} {t : Bool} {b : List Nat} (hb : b.length = 48) {s' : Sl} {L' : List (ImgV × Sl)} (h' : ImgsSee u s' L')
    (hr : refDo (L.map (·.1)) o = (L'.map (·.1), e, t, b)) (hf : ∀ b, ImgsAt.foot s' L' b → ImgsAt.foot s L b ∨ (w.heap.size ≤ b ∧ b ≠ a2 ∧ b < u.heap.size)) (h8 : o.kind ≠ 8) :
    StN 51 (some ⟨a2, 0, none⟩) (ansL e t b nilV).toArray u fun w' => LdN 51 (some ⟨a2, 0, none⟩) w' fun r => R (.tuple #[s'.v, .agg r]) w' := by
  obtain ⟨cs, hcs, hb2⟩ := c.b2
  refine StN.all hb2 (ans_size hb) (ans_one rfl) hcs ?_
  intro u2 hb22 hc2 hz2
  refine LdN.all hb22 (ans_size hb) ?_
  have hu := c.ext.size
  have := hk s' L' u2 Sl.nil [] (h'.ch hc2 fun k hk e => ?_) (by rw [hr]) (c.ext.step hc2 (fun _ _ h => h.elim) fun j hj e => by have e : j = a2 := e; have := c.f2; omega) (fun b hb => ?_) (Sees.nil _ _) (fun b ⟨_, e, _⟩ => by cases e) (fun h => absurd h h8) (fun _ => ⟨rfl, rfl⟩) (by rw [hr]; exact hb)
  · rw [hr] at this; exact this
  · have e : k = a2 := e
    rcases hf k hk with h | ⟨_, h, _⟩
    · have := c.lt k h; have := c.f2; omega
    · exact h e
  · rcases hf b hb with h | ⟨h1, _, h3⟩
    · have := c.lt b h; exact ⟨.inl h, by omega⟩
    · exact ⟨.inr h1, by omega⟩
/-- Nothing is changed. -/
theorem do_same {w u : World} {a1 a2 : Nat} {o : OpV} {s : Sl} {L : List (ImgV × Sl)} {R : Value → World → Prop} (hk : RK w s L o R) (c : DoCtx w u a1 a2 o s L) {e : Int} {t : Bool} {b : List Nat} (hb : b.length = 48)
    (hr : refDo (L.map (·.1)) o = (L.map (·.1), e, t, b)) (h8 : o.kind ≠ 8) :
    StN 51 (some ⟨a2, 0, none⟩) (ansL e t b nilV).toArray u fun w' => LdN 51 (some ⟨a2, 0, none⟩) w' fun r => R (.tuple #[s.v, .agg r]) w' :=
  do_ret hk c hb c.here hr (fun _ h => .inl h) h8
theorem do_err {w u : World} {a1 a2 : Nat} {o : OpV} {s : Sl} {L : List (ImgV × Sl)} {R : Value → World → Prop} (hk : RK w s L o R) (c : DoCtx w u a1 a2 o s L) (e : Int) (hr : refDo (L.map (·.1)) o = (L.map (·.1), e, false, zeros48)) (h8 : o.kind ≠ 8) :
    Built #[(0, 1), (1, 1), (2, 48), (50, 1)] Try.z73 [(0, .int .i64 e)] fun c => StN 51 (some ⟨a2, 0, none⟩) c u fun w' => LdN 51 (some ⟨a2, 0, none⟩) w' fun r => R (.tuple #[s.v, .agg r]) w' :=
  ⟨_, ans_fill0 e, do_same hk c zeros48_len hr h8⟩

/-- The blocks that are read so far, with the one that is put. -/
def outB (o : OpV) (l : List (Int × List Nat)) : List (Int × List Nat) :=
  if o.kind = 4 then delB l o.number else if l.any (fun y => decide (o.number ≤ y.1)) then insB l o.number o.block else l
def doneB (o : OpV) (l : List (Int × List Nat)) : Bool := decide (o.kind = 4) || l.any (fun y => decide (o.number ≤ y.1))
theorem outB_len (o : OpV) (l : List (Int × List Nat)) : (outB o l).length ≤ l.length + 1 + l.length := by
  unfold outB delB insB
  have h1 := List.length_filter_le (fun y : Int × List Nat => decide (y.1 < o.number)) l
  have h2 := List.length_filter_le (fun y : Int × List Nat => decide (o.number < y.1)) l
  have h3 := List.length_filter_le (fun y : Int × List Nat => !decide (y.1 = o.number)) l
  split
  · omega
  split
  · simp only [List.length_append, List.length_cons]; omega
  · omega
theorem outB_48 {o : OpV} (ho : o.OK) {l : List (Int × List Nat)} (h : ∀ b ∈ l, b.2.length = 48) : ∀ b ∈ outB o l, b.2.length = 48 := by
  intro b hb
  unfold outB delB insB at hb
  split at hb
  · exact h b (List.mem_filter.1 hb).1
  split at hb
  · rcases List.mem_append.1 hb with hb | hb
    · exact h b (List.mem_filter.1 hb).1
    · rcases List.mem_cons.1 hb with rfl | hb
      · exact ho.block
      · exact h b (List.mem_filter.1 hb).1
  · exact h b hb
/-- One block more is read. -/
theorem outB_step {o : OpV} (hk : o.kind = 3 ∨ o.kind = 4) {l : List (Int × List Nat)} (h : RiseB l) {k : Nat} (hkl : k < l.length) :
    doneB o (l.take (k + 1)) = (doneB o (l.take k) || decide (o.number ≤ l[k].1)) ∧
    outB o (l.take (k + 1)) = (outB o (l.take k) ++ (if doneB o (l.take k) = false ∧ o.number ≤ l[k].1 then [(o.number, o.block)] else [])) ++ (if l[k].1 = o.number then [] else [l[k]]) := by
  obtain ⟨h1, _⟩ := rise_split h hkl
  rw [List.take_succ_eq_append_getElem hkl]
  generalize hL : l.take k = T at *
  generalize l[k] = x at *
  have fa : ∀ p : Int × List Nat → Bool, (T ++ [x]).filter p = T.filter p ++ (if p x then [x] else []) := fun p => by
    rw [List.filter_append, List.filter_cons, List.filter_nil]
  have aa : (T ++ [x]).any (fun y => decide (o.number ≤ y.1)) = (T.any (fun y => decide (o.number ≤ y.1)) || decide (o.number ≤ x.1)) := by simp [List.any_append]
  unfold doneB outB
  rw [aa]
  refine ⟨by rw [Bool.or_assoc], ?_⟩
  rcases hk with h3 | h4
  · have e4 : ¬ o.kind = 4 := by omega
    simp only [e4, if_false, decide_false, Bool.false_or]
    cases ha : T.any (fun y => decide (o.number ≤ y.1)) with
    | true =>
      obtain ⟨y, hy, hy2⟩ := List.any_eq_true.1 ha
      have hy2 : o.number ≤ y.1 := by simpa using hy2
      have := h1 y hy
      have hne : ¬ x.1 = o.number := by omega
      simp only [Bool.true_or, if_true, Bool.true_eq_false, false_and, if_false, List.append_nil, hne]
      unfold insB
      rw [fa, fa, if_neg (by simp; omega), if_pos (by simp; omega)]
      simp
    | false =>
      have hall : ∀ y ∈ T, y.1 < o.number := fun y hy => by
        have := List.any_eq_false.1 ha y hy
        simp at this; omega
      have f1 : T.filter (fun y => decide (y.1 < o.number)) = T := List.filter_eq_self.2 fun y hy => by simpa using hall y hy
      have f2 : T.filter (fun y => decide (o.number < y.1)) = [] := List.filter_eq_nil_iff.2 fun y hy => by have := hall y hy; simp; omega
      by_cases hx : o.number ≤ x.1
      · simp only [Bool.false_or, hx, decide_true, if_true, true_and]
        unfold insB
        rw [fa, fa, f1, f2, if_neg (by simp; omega)]
        by_cases he : x.1 = o.number
        · rw [if_neg (by simp; omega), if_pos he]; simp
        · rw [if_pos (by simp; omega), if_neg he]; simp
      · have hne : ¬ x.1 = o.number := by omega
        simp [hx, hne]
  · simp only [h4, if_true, decide_true, Bool.true_or, Bool.true_eq_false, false_and, if_false, List.append_nil]
    unfold delB
    rw [fa]
    congr 1
    by_cases he : x.1 = o.number <;> simp [he]
theorem outB_all {o : OpV} (hk : o.kind = 3 ∨ o.kind = 4) {l : List (Int × List Nat)} : (outB o l ++ (if doneB o l = false then [(o.number, o.block)] else [])) = if o.kind = 4 then delB l o.number else insB l o.number o.block := by
  unfold outB doneB
  rcases hk with h3 | h4
  · have e4 : ¬ o.kind = 4 := by omega
    simp only [e4, if_false, decide_false, Bool.false_or]
    cases ha : l.any (fun y => decide (o.number ≤ y.1)) with
    | true => simp
    | false =>
      have hall : ∀ y ∈ l, y.1 < o.number := fun y hy => by
        have := List.any_eq_false.1 ha y hy
        simp at this; omega
      unfold insB
      rw [List.filter_eq_self.2 (fun y hy => by simpa using hall y hy), List.filter_eq_nil_iff.2 (fun y hy => by have := hall y hy; simp; omega)]
      simp
  · simp [h4]
end Go.Proofs
