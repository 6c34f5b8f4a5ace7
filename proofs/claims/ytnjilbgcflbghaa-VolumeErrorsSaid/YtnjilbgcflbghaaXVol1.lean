/- volume: names. -/
import Derived.Test.YtnjilbgcflbghaaXF1
import Derived.Test.YtnjilbgcflbghaaXF3
import Derived.Test.YtnjilbgcflbghaaXF4
import Derived.Test.YtnjilbgcflbghaaXVolBase
set_option linter.all false
set_option maxHeartbeats 2000000
set_option maxRecDepth 100000
namespace Go.Proofs
open Go Go.X Go.Sort
theorem srange_run {P : Program} {w : World} {t : TypeId} {s : ByteArray} (ht : P.underlying t = some .string) : ∃ w', (Instr.range t (.string s)).run P w = .ok (.pointer (some ⟨w.heap.size, 0, none⟩)) w' ∧ w'.heap[w.heap.size]? = some (.stringIter s 0) ∧ Ext w w' ∧ w'.heap.size = w.heap.size + 1 :=
  ⟨w.alloc (.stringIter s 0), by simp [Instr.range, run_underlying ht, newObj, Sem.run], by show (w.heap.push _)[w.heap.size]? = _; simp, Ch.alloc w _, by simp⟩
theorem snext_run {P : Program} {w : World} {r pos : Nat} {ty : TypeId} {s : ByteArray} (h : w.heap[r]? = some (.stringIter s pos)) :
    (s.size ≤ pos ∧ (Instr.next (.pointer (some ⟨r, 0, none⟩)) true ty).run P w = .ok (.tuple #[.bool false]) w) ∨
    (pos < s.size ∧ ∃ w', (Instr.next (.pointer (some ⟨r, 0, none⟩)) true ty).run P w = .ok (.tuple #[.bool true, .int .i64 pos, .int .i32 (Utf8.decode s pos).1]) w' ∧ w'.heap[r]? = some (.stringIter s (pos + (Utf8.decode s pos).2)) ∧ Ch (· = r) w w' ∧ w'.heap.size = w.heap.size) := by
  have hobj : (getObj r).run P w = .ok (.stringIter s pos) w := by simp [getObj, Sem.run, h]
  by_cases hp : pos < s.size
  · right
    obtain ⟨w', h1, h2, h3, h4⟩ := setObj_run (P := P) (o' := .stringIter s (pos + (Utf8.decode s pos).2)) h (by intro c e f hh; cases hh)
    refine ⟨hp, w', ?_, h2, h3, h4⟩
    simp [Instr.next, hobj, hp, h1, goInt]
  · left
    refine ⟨by omega, ?_⟩
    simp [Instr.next, hobj, hp]
theorem get_bs {s : ByteArray} {i : Nat} (h : i < s.size) (hb : i < (bs s).length) : (s.get! i).toNat = (bs s)[i] := by
  have hi' : i < s.data.size := h
  simp only [bs, List.getElem_map, Array.getElem_toList]
  congr 1
  show s.data[i]! = _
  rw [getElem!_pos s.data i hi']
theorem decode_low {s : ByteArray} {i : Nat} (h : i < s.size) (hb : i < (bs s).length) (h1 : (bs s)[i] < 128) : Utf8.decode s i = ((bs s)[i], 1) := by
  unfold Utf8.decode
  simp only [Nat.add_zero, get_bs h hb, h1, if_true]
theorem decode_up {s : ByteArray} {i : Nat} (h : i < s.size) (hb : i < (bs s).length) (h1 : ¬ (bs s)[i] < 128) : 128 ≤ (Utf8.decode s i).1 := by
  unfold Utf8.decode
  simp only [Nat.add_zero, get_bs h hb, h1, if_false]
  have e : Utf8.runeError = 65533 := rfl
  repeat' split
  all_goals (rename_i hh; first | (simp only [Bool.and_eq_true, ge_iff_le, decide_eq_true_eq] at hh; dsimp only; omega) | (dsimp only; omega))
theorem volume_odd_spec {w : World} {c : Int} {R : Value → World → Prop} (k : R (.bool (decide (c < 33 ∨ 126 < c))) w) : CallV Try.prog (.func (.func 197) #[] #[]) #[.int .i32 c] w R := by
  refine CallC.callV ⟨_, Try.f197, _, #[], #[], rfl, Try.func197, by kernel_rfl, rfl, ?_⟩
  show CallF Try.prog 197 #[.int .i32 c] w R
  refine f197_ok R c w ?_
  unfold f197
  refine ⟨fun h => ?_, fun h => ?_⟩
  · have h : c < 33 := by simpa using h
    rw [decide_eq_true (.inl h)] at k; exact k
  · have h : ¬ c < 33 := by simpa using h
    have : decide (c < 33 ∨ 126 < c) = decide (126 < c) := by congr 1; exact propext ⟨fun h' => h'.resolve_left h, .inr⟩
    rw [this] at k; exact k
theorem volume_named_spec {w : World} {s : ByteArray} {R : Value → World → Prop} (k : ∀ w', Ext w w' → R (.bool (namedB s)) w') : CallF Try.prog 161 #[.string s] w R := by
  refine f161_ok R s w ?_
  unfold f161
  rw [seq_eq]
  refine ⟨fun h1 => ⟨fun h2 => ?_, fun h2 => ?_⟩, fun h1 => ?_⟩
  case refine_2 =>
    have : namedB s = false := by
      have h2 : ¬ (s.size : Int) ≤ 20 := by simpa using h2
      unfold namedB
      rw [decide_eq_false (show ¬ s.size ≤ 20 by omega)]; simp
    have := this ▸ k w (Ch.refl _ _)
    exact this
  case refine_3 =>
    have h1 : s = ByteArray.mk #[] := by simpa using h1
    subst h1
    exact k w (Ch.refl _ _)
  have hne : ¬ s = ByteArray.mk #[] := by simpa using h1
  have hsz0 : s.size ≠ 0 := fun h => hne (by
    cases s with
    | mk d => congr 1; exact Array.eq_empty_of_size_eq_zero h)
  have hsz : s.size ≤ 20 := by simp at h2; omega
  have hbl : (bs s).length = s.size := by simp
  refine f198_ok _ _ _ _ ?_
  unfold f198
  refine f228_ok _ _ _ _ ?_
  unfold f228
  refine f251_ok _ _ _ _ _ ?_
  unfold f251
  obtain ⟨w1, e1, i1, x1, z1⟩ := srange_run (P := Try.prog) (w := w) (s := s) Try.underlying9
  refine ⟨_, w1, e1, ?_⟩
  generalize hr : w.heap.size = r at *
  refine Lp.mk (fun q u => ∃ pos : Nat, q = (.func (.func 197) #[] #[], true, .pointer (some ⟨r, 0, none⟩)) ∧ pos ≤ s.size ∧ Ext w u ∧ u.heap[r]? = some (.stringIter s pos) ∧ ∀ c ∈ (bs s).take pos, 32 < c ∧ c ≤ 126) (fun _ u => match u.heap[r]? with | some (.stringIter _ p) => s.size - p | _ => 0)
    ⟨0, rfl, by omega, x1, i1, by simp⟩ ?_
  rintro _ u ⟨pos, rfl, hp, hx, hit, hall⟩ ag hag
  show f251_b0 _ ag _ true _ u
  unfold f251_b0
  rcases snext_run (P := Try.prog) (ty := 0) hit with ⟨hge, hnx⟩ | ⟨hlt, u1, hnx, hit1, hc1, hz1⟩
  · refine ⟨_, u, hnx, #[.bool false], false, rfl, rfl, fun h => (by cases h), fun _ => ⟨_, rfl, _, rfl, _, rfl, ?_⟩⟩
    have hpos : pos = s.size := by omega
    subst hpos
    rw [List.take_of_length_le (by omega)] at hall
    have hn : namedB s = true := by
      unfold namedB
      have : ((bs s).all fun c => decide (32 < c) && decide (c ≤ 126)) = true := by
        rw [List.all_eq_true]; intro c hc; simpa using hall c hc
      rw [this]; simp [hsz0, hsz]
    have := k u hx
    rw [hn] at this
    exact this
  · have hb : pos < (bs s).length := by omega
    refine ⟨_, u1, hnx, _, true, rfl, rfl, fun _ => ⟨_, rfl, _, rfl, volume_odd_spec ⟨_, rfl, fun ht => ?_, fun hf => ?_⟩⟩, fun h => (by cases h)⟩
    all_goals have hx1 : Ext w u1 := hx.step hc1 (fun _ _ h => h.elim) fun j hj e => by have e : j = r := e; omega
    · refine ⟨_, rfl, _, rfl, _, rfl, ?_⟩
      have hbad : ((Utf8.decode s pos).1 : Int) < 33 ∨ 126 < ((Utf8.decode s pos).1 : Int) := by simpa using ht
      have hn : namedB s = false := by
        have : ((bs s).all fun c => decide (32 < c) && decide (c ≤ 126)) = false := by
          rw [List.all_eq_false]
          refine ⟨_, List.getElem_mem hb, ?_⟩
          by_cases h128 : (bs s)[pos] < 128
          · rw [decode_low hlt hb h128] at hbad
            simp; omega
          · simp; omega
        unfold namedB; rw [this]; rfl
      have := k u1 hx1
      rw [hn] at this
      have e : (!decide ((0 : Int) ≤ (pos : Int))) = false := by simp
      show R (.bool (!decide ((0 : Int) ≤ (pos : Int)))) u1
      rw [e]; exact this
    · have hok : ¬ (((Utf8.decode s pos).1 : Int) < 33 ∨ 126 < ((Utf8.decode s pos).1 : Int)) := by
        intro h; rw [decide_eq_true h] at hf; cases hf
      have h128 : (bs s)[pos] < 128 := by
        by_cases h : (bs s)[pos] < 128
        · exact h
        · have := decode_up hlt hb h; omega
      rw [decode_low hlt hb h128] at hok hit1
      refine hag _ _ ⟨pos + 1, rfl, by omega, hx1, hit1, fun c hc => ?_⟩ ?_
      · rw [List.take_succ_eq_append_getElem hb] at hc
        rcases List.mem_append.1 hc with hc | hc
        · exact hall c hc
        · simp only [List.mem_singleton] at hc; subst hc
          dsimp only at hok; omega
      · simp only [hit, hit1]; omega
theorem volume_may_spec {w : World} {s : ByteArray} {q : Int} {R : Value → World → Prop} (k : ∀ w', Ext w w' → R (.bool (mayB s q)) w') : CallF Try.prog 101 #[.string s, .int .i64 q] w R := by
  refine f101_ok _ s q w ?_
  unfold f101
  refine volume_named_spec fun w' hx => ⟨_, rfl, fun h1 => ⟨fun h2 => ?_, fun h2 => ?_⟩, fun h1 => ?_⟩
  · have := k w' hx
    unfold mayB at this
    rw [h1, h2] at this
    simpa using this
  · have := k w' hx
    unfold mayB at this
    rw [h1, h2] at this
    exact this
  · have := k w' hx
    unfold mayB at this
    rw [h1] at this
    exact this
end Go.Proofs
