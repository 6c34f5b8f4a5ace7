/- What comes in, opened by what it reads as: slices of records. -/
import Derived.Test.YtnjilbgcflbghaaXOpen
import Derived.ChangeArms
import Derived.OpenShut
import Derived.Deep.Slices
set_option linter.all false
set_option linter.all false
namespace Go.X
open Go Go.ChangeShapes Go.WideShapes
section
variable {H : Type} {enc : TypeId × Value → H} {P : Program} {w : World} {base : Nat} {spare : Nat → Bool} {held : Bool}
/-- Each cell reads as what its type says. -/
def CellsTr (enc : TypeId × Value → H) (P : Program) (w : World) (base : Nat) (spare : Nat → Bool) (held : Bool) : List TypeId → List Value → Prop
  | [], [] => True
  | t :: ts, v :: vs => (∃ m x, DataW.trod enc P w base spare held m t [v] = some x) ∧ CellsTr enc P w base spare held ts vs
  | _, _ => False
theorem CellsTr.append : ∀ {ts us : List TypeId} {vs xs : List Value}, CellsTr enc P w base spare held ts vs → CellsTr enc P w base spare held us xs → CellsTr enc P w base spare held (ts ++ us) (vs ++ xs)
  | [], us, [], xs, _, h => h
  | t :: ts, us, v :: vs, xs, h, k => ⟨h.1, CellsTr.append h.2 k⟩
  | [], _, _ :: _, _, h, _ => h.elim
  | _ :: _, _, [], _, h, _ => h.elim
mutual
/-- The types of a type's cells, one behind the other. -/
def flatB (P : Program) : Nat → TypeId → List TypeId → Bool
  | 0, _, _ => false
  | d + 1, t, ts =>
    match P.underlying t with
    | some (.struct fs) => fieldsB P d fs.toList 0 ts
    | some (.array n e) => arrB P d n e ts
    | some (.interface _) => false
    | some (.tuple _) => false
    | some _ => ts == [t]
    | none => false
def fieldsB (P : Program) : Nat → List Field → Nat → List TypeId → Bool
  | 0, _, _, _ => false
  | d + 1, [], _, ts => ts == []
  | d + 1, f :: fs, off, ts => f.offset == off && decide (P.cellsOf f.type ≤ ts.length) && flatB P d f.type (ts.take (P.cellsOf f.type)) && fieldsB P d fs (off + P.cellsOf f.type) (ts.drop (P.cellsOf f.type))
def arrB (P : Program) : Nat → Nat → TypeId → List TypeId → Bool
  | 0, _, _, _ => false
  | d + 1, 0, _, ts => ts == []
  | d + 1, n + 1, e, ts => decide (P.cellsOf e ≤ ts.length) && flatB P d e (ts.take (P.cellsOf e)) && arrB P d n e (ts.drop (P.cellsOf e))
end
theorem trod_flat : ∀ (d : Nat),
    (∀ (t : TypeId) (ts : List TypeId) (fuel : Nat) (cs : List Value) (x : DataW H × List MemPlace), flatB P d t ts = true → ts.length = cs.length → DataW.trod enc P w base spare held fuel t cs = some x → CellsTr enc P w base spare held ts cs) ∧
    (∀ (fs : List Field) (off : Nat) (ts : List TypeId) (n : Nat) (cs : List Value), fieldsB P d fs off ts = true → off + ts.length = cs.length → (∀ f ∈ fs, ∃ x, DataW.trod enc P w base spare held n f.type ((cs.drop f.offset).take (P.cellsOf f.type)) = some x) → CellsTr enc P w base spare held ts (cs.drop off)) ∧
    (∀ (n : Nat) (e : TypeId) (ts : List TypeId) (m i : Nat) (cs : List Value), arrB P d n e ts = true → i * P.cellsOf e + ts.length = cs.length → (∀ j, i ≤ j → j < i + n → ∃ x, DataW.trod enc P w base spare held m e ((cs.drop (j * P.cellsOf e)).take (P.cellsOf e)) = some x) → CellsTr enc P w base spare held ts (cs.drop (i * P.cellsOf e)))
  | 0 => ⟨fun _ _ _ _ _ h => by simp [flatB] at h, fun _ _ _ _ _ h => by simp [fieldsB] at h, fun _ _ _ _ _ _ h => by simp [arrB] at h⟩
  | d + 1 => by
    obtain ⟨h1, h2, h3⟩ := trod_flat d
    refine ⟨?_, ?_, ?_⟩
    · intro t ts fuel cs x hf hl h
      unfold flatB at hf
      split at hf
      · rename_i fs hu
        obtain ⟨xs, n, _, _, hlen, hxl, hx⟩ := DataW.trod_struct hu h
        have := h2 fs.toList 0 ts n cs hf (by omega) (fun f hfm => by
          obtain ⟨i, hi, hfi⟩ := List.getElem_of_mem hfm
          have hi' : i < fs.size := by simpa using hi
          have := hx i f (by simp [← hfi, hi'])
          rw [this, List.getElem?_eq_getElem (by omega)]
          exact ⟨_, rfl⟩)
        simpa using this
      · rename_i n e hu
        obtain ⟨xs, m, _, _, hlen, hxl, hx⟩ := DataW.trod_array hu h
        have := h3 n e ts m 0 cs hf (by omega) (fun j _ hj => by
          rw [hx j (by omega), List.getElem?_eq_getElem (by omega)]
          exact ⟨_, rfl⟩)
        simpa using this
      · cases hf
      · cases hf
      · have ht : ts = [t] := by simpa using hf
        subst ht
        match cs, hl with
        | [v], _ => exact ⟨⟨_, _, h⟩, trivial⟩
      · cases hf
    · intro fs off ts n cs hf hl h
      cases fs with
      | nil =>
        have ht : ts = [] := by simpa [fieldsB] using hf
        subst ht
        rw [List.drop_eq_nil_of_le (by simp at hl; omega)]
        trivial
      | cons f fs =>
        simp only [fieldsB, Bool.and_eq_true, beq_iff_eq, decide_eq_true_eq] at hf
        obtain ⟨⟨⟨ho, hle⟩, ha⟩, hb⟩ := hf
        obtain ⟨x, hx⟩ := h f (by simp)
        rw [ho] at hx
        have c1 := h1 f.type _ n _ x ha (by simp; omega) hx
        have c2 := h2 fs _ _ n cs hb (by simp; omega) (fun g hg => h g (by simp [hg]))
        have := CellsTr.append c1 c2
        rw [List.take_append_drop, ← List.drop_drop, List.take_append_drop] at this
        exact this
    · intro n e ts m i cs hf hl h
      cases n with
      | zero =>
        have ht : ts = [] := by simpa [arrB] using hf
        subst ht
        rw [List.drop_eq_nil_of_le (by simp at hl; omega)]
        trivial
      | succ n =>
        simp only [arrB, Bool.and_eq_true, decide_eq_true_eq] at hf
        obtain ⟨⟨hle, ha⟩, hb⟩ := hf
        obtain ⟨x, hx⟩ := h i (Nat.le_refl _) (by omega)
        have c1 := h1 e _ m _ x ha (by simp; omega) hx
        have c2 := h3 n e _ m (i + 1) cs hb (by simp [Nat.add_mul]; omega) (fun j hj1 hj2 => h j (by omega) (by omega))
        have := CellsTr.append c1 c2
        rw [List.take_append_drop, Nat.add_mul, Nat.one_mul, ← List.drop_drop, List.take_append_drop] at this
        exact this
theorem CellsTr.cons {t : TypeId} {ts : List TypeId} {l : List Value} (h : CellsTr enc P w base spare held (t :: ts) l) : ∃ v vs, l = v :: vs ∧ (∃ m x, DataW.trod enc P w base spare held m t [v] = some x) ∧ CellsTr enc P w base spare held ts vs := by
  cases l with
  | nil => exact h.elim
  | cons v vs => exact ⟨v, vs, rfl, h.1, h.2⟩
theorem CellsTr.nil {l : List Value} (h : CellsTr enc P w base spare held [] l) : l = [] := by
  cases l with
  | nil => rfl
  | cons v vs => exact h.elim
theorem ctr_int {t : TypeId} {k : IntKind} {v : Value} (ht : P.underlying t = some (.int k)) (h : ∃ m x, DataW.trod enc P w base spare held m t [v] = some x) : ∃ n, v = .int k n ∧ k.has n := by
  obtain ⟨m, x, h⟩ := h
  obtain ⟨n, e, _, hw⟩ := DataW.trod_int ht h
  exact ⟨n, by simpa using e, by simpa [Lit.wf, IntKind.has] using hw⟩
theorem ctr_string {t : TypeId} {v : Value} (ht : P.underlying t = some .string) (h : ∃ m x, DataW.trod enc P w base spare held m t [v] = some x) : ∃ s : ByteArray, v = .string s ∧ s.size ≤ maxLen := by
  obtain ⟨m, x, h⟩ := h
  obtain ⟨s, e, _, hw⟩ := DataW.trod_string ht h
  exact ⟨s, by simpa using e, hw⟩
theorem ctr_bool {t : TypeId} {v : Value} (ht : P.underlying t = some .bool) (h : ∃ m x, DataW.trod enc P w base spare held m t [v] = some x) : ∃ b, v = .bool b := by
  obtain ⟨m, x, h⟩ := h
  obtain ⟨b, e, _⟩ := DataW.trod_bool ht h
  exact ⟨b, by simpa using e⟩
theorem ctr_u8s {e : TypeId} (he : P.underlying e = some (.int .u8)) : ∀ (n : Nat) (ts : List TypeId) (l : List Value), CellsTr enc P w base spare held (List.replicate n e ++ ts) l → ∃ bs rest, l = u8s bs ++ rest ∧ bs.length = n ∧ (∀ b ∈ bs, b < 256) ∧ CellsTr enc P w base spare held ts rest
  | 0, ts, l, h => ⟨[], l, rfl, rfl, by simp, h⟩
  | n + 1, ts, l, h => by
    rw [List.replicate_succ, List.cons_append] at h
    obtain ⟨v, vs, rfl, h1, h2⟩ := CellsTr.cons h
    obtain ⟨m, rfl, hm⟩ := ctr_int he h1
    obtain ⟨bs, rest, rfl, h3, h4, h5⟩ := ctr_u8s he n ts vs h2
    have h0 : 0 ≤ m ∧ m ≤ 255 := hm
    refine ⟨m.toNat :: bs, rest, ?_, by simp [h3], ?_, h5⟩
    · simp only [u8s_cons, List.cons_append]
      rw [Int.toNat_of_nonneg h0.1]
    · intro b hb
      rcases List.mem_cons.1 hb with rfl | hb
      · omega
      · exact h4 b hb
/-- A slice that comes in shows the cells of its things. -/
theorem open_slice_of {α : Type} [Inhabited α] {cells : α → List Value} {good : α → Prop} {t e : TypeId} {size fuel : Nat} {v : Value} {x : DataW H × List MemPlace} (ht : P.underlying t = some (.slice e)) (hc : P.cellsOf e = size)
    (hok : Cell.okWide P w .any base t v) (h : DataW.trod enc P w 0 spare held fuel t [v] = some x)
    (each : ∀ (m : Nat) (cs : List Value) (y : DataW H × List MemPlace), cs.length = size → DataW.trod enc P w 0 spare held m e cs = some y → ∃ a, cs = cells a ∧ good a)
    (hlen : ∀ a, good a → (cells a).length = size) : ∃ (s : Sl) (l : List α), v = s.v ∧ Sees w s size (l.flatMap cells) ∧ (∀ a ∈ l, good a) ∧ l.length = s.len ∧ s.len ≤ maxLen := by
  rcases Go.Deep.open_slice ht h with ⟨h0, _⟩ | ⟨a, len, cap, m, n, D, Pl, h0, hb, hl, hm, hmm, _, hx⟩
  · exact ⟨Sl.nil, [], by simpa [Sl.v, Sl.nil] using h0, Sees.nil _ _, by simp, rfl, by decide⟩
  · have hv : v = .slice (some a) len cap := by simpa using h0
    subst hv
    have hle : len ≤ m := by rw [hmm]; split <;> omega
    have hsp : a.spot = none := by
      unfold Cell.okWide Cell.ok at hok
      rw [ht] at hok
      exact hok.2.2.2.1
    rw [hc] at hx
    obtain ⟨f, hf⟩ := Go.Deep.choose_lt (α := α) (n := len) (p := fun i y => w.cells? 0 (a.add (i * size)) size = some (cells y) ∧ good y) (fun i hi => by
      obtain ⟨cs', g1, g2⟩ := hx i (by omega)
      obtain ⟨_, hl', _⟩ := World.cells?_some g1
      obtain ⟨y, rfl, hy⟩ := each n cs' _ hl' g2
      exact ⟨y, g1, hy⟩)
    have hfl : ∀ r ∈ (List.range len).map f, (cells r).length = size := fun r hr => by
      obtain ⟨i, hi, rfl⟩ := List.mem_map.1 hr
      exact hlen _ (hf i (List.mem_range.1 hi)).2
    refine ⟨⟨some a, len, cap⟩, (List.range len).map f, rfl, ⟨?_, hl, fun h => (by cases h), fun a' ha' => ?_⟩, ?_, by simp, by show len ≤ maxLen; omega⟩
    · rw [flatMap_len _ hfl]; simp
    · obtain rfl : a = a' := by injection ha'
      refine ⟨hsp, fun i v hi => ?_⟩
      have hsz : 0 < size := by
        rcases Nat.eq_zero_or_pos size with h0 | h0
        · subst h0
          have : ((List.range len).map f).flatMap cells = [] := by
            have := flatMap_len _ hfl
            exact List.eq_nil_of_length_eq_zero (by simpa using this)
          rw [this] at hi; cases hi
        · exact h0
      have hil : i < len * size := by
        have := (List.getElem?_eq_some_iff.1 hi).1
        rwa [flatMap_len _ hfl, List.length_map, List.length_range] at this
      have hq : i / size < len := Nat.div_lt_of_lt_mul (by rwa [Nat.mul_comm] at hil)
      have hi' : i = i / size * size + i % size := by rw [Nat.mul_comm]; exact (Nat.div_add_mod i size).symm
      have hr : i % size < size := Nat.mod_lt _ hsz
      have hat := flatMap_at ((List.range len).map f) (i / size) hfl (by simpa using hq) (i % size) hr
      rw [← hi', hi] at hat
      simp only [List.getElem_map, List.getElem_range] at hat
      obtain ⟨_, _, hcell⟩ := World.cells?_some (hf (i / size) hq).1
      have := hcell (i % size) hr
      rw [← hat, Go.Deep.add_add, ← hi'] at this
      exact this
    · intro b hb'
      obtain ⟨i, hi, rfl⟩ := List.mem_map.1 hb'
      exact (hf i (List.mem_range.1 hi)).2
theorem okWide_slice {t e : TypeId} {v : Value} (ht : P.underlying t = some (.slice e)) (h : Value.okWide P w .any base t v) : Cell.okWide P w .any base t v ∧ v.cells.toList = [v] := by
  unfold Value.okWide at h
  rw [ht] at h
  refine ⟨h, ?_⟩
  unfold Cell.okWide Cell.ok at h
  rw [ht] at h
  cases v <;> first | rfl | (simp at h)
end
end Go.X
