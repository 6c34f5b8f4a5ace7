/- model: volumes in memory; Great, named, New, add, find. -/
import Derived.Test.YtnjilbgcflbghaaXF0
import Derived.Test.YtnjilbgcflbghaaXF1
import Derived.Test.YtnjilbgcflbghaaXEvent
import Derived.Test.YtnjilbgcflbghaaXRec
set_option linter.all false
namespace Go.Proofs
open Go Go.X

def great (l : List OpV) : Bool := decide (80 < l.length) || l.any fun o => decide (100 < o.name.size) || decide (100 < o.other.size)
theorem OpV.one (o : OpV) : ∀ v ∈ o.cells, v.oneCell' = true := by
  intro v hv
  simp only [OpV.cells, OpV.list, List.mem_toArray, List.mem_cons] at hv
  rcases hv with rfl | rfl | rfl | rfl | rfl | hv <;> first | rfl | exact u8s_one _ v hv
theorem OpV.list_len {o : OpV} (h : o.OK) : o.list.length = 53 := by simp [OpV.list, h.block]

theorem law15_Great_spec {w : World} {s : Sl} {l : List OpV} (hs : Sees w s 53 (l.flatMap OpV.list)) (hl : ∀ o ∈ l, o.OK) :
    CallF Try.prog 35 #[s.v] w fun r w' => r = .bool (great l) ∧ Ext w w' := by
  have hlen : ∀ r ∈ l, r.list.length = 53 := fun r hr => OpV.list_len (hl r hr)
  have hc := hs.count hlen (by decide)
  refine sporranlaw15_Great_ok _ s w ?_
  unfold sporranlaw15_Great
  refine ⟨fun hg => ?_, fun hg => ?_⟩
  · have : 80 < l.length := by simp at hg; omega
    exact ⟨by simp [great, this], Ch.refl _ _⟩
  have h80 : ¬ 80 < l.length := by simp at hg; omega
  refine ⟨fun q wr => ∃ i : Nat, q = (s, (s.len : Int), (i : Int)) ∧ i ≤ l.length ∧ Ext w wr ∧ ∀ o ∈ l.take i, (decide (100 < o.name.size) || decide (100 < o.other.size)) = false, fun q _ => s.len - q.2.2.toNat, ⟨0, rfl, by omega, Ch.refl _ _, by simp⟩, ?_⟩
  rintro _ wr ⟨i, rfl, hi, hx, ht⟩
  refine ⟨fun hlt => ?_, fun hge => ?_⟩
  · have hil : i < l.length := by simp at hlt; omega
    obtain ⟨a, ha, hsp, hrow, hsz⟩ := (hs.ext hx).at hlen (by decide) i hil
    refine ⟨a, ha, by simp, by simp; omega, _, _, rfl, hsz, by simpa using hrow, ?_⟩
    refine New.mk fun b w1 hb hs1 hblk hext => ?_
    refine StN.all hblk hsz (OpV.one l[i]) (by decide) ?_
    intro w2 hblk2 hc2 hz2
    have hnm : (l[i].list.toArray)[1]? = some (.string l[i].name) := rfl
    have hot : (l[i].list.toArray)[2]? = some (.string l[i].other) := rfl
    have hx2 : Ext w w2 := (hx.trans hext).step hc2 (fun _ _ h => h.elim) (fun k hk h => by have := hx.size; omega)
    simp only [addr_add, Nat.zero_add]
    have hmem : l[i] ∈ l := List.getElem_mem hil
    have hgo : ∀ t : Bool, t = (decide (100 < l[i].name.size) || decide (100 < l[i].other.size)) → sporranlaw15_Great_k1 (fun r w' => r = .bool (great l) ∧ Ext w w')
        (fun s' w' => (∃ j : Nat, s' = (s, (s.len : Int), (j : Int)) ∧ j ≤ l.length ∧ Ext w w' ∧ ∀ o ∈ l.take j, (decide (100 < o.name.size) || decide (100 < o.other.size)) = false) ∧ s.len - s'.2.2.toNat < s.len - (i : Int).toNat) s (s.len : Int) (i : Int) t w2 := by
      intro t ht'
      unfold sporranlaw15_Great_k1
      refine ⟨fun h1 => ⟨?_, hx2⟩, fun h1 => ⟨⟨i + 1, ?_, by omega, hx2, ?_⟩, by simp only [Int.toNat_natCast]; rw [show (i : Int) + 1 = ((i + 1 : Nat) : Int) from by omega, wrap_i64 (by omega) (by omega)]; simp; omega⟩⟩
      · have : l.any (fun o => decide (100 < o.name.size) || decide (100 < o.other.size)) = true := List.any_eq_true.2 ⟨l[i], hmem, by rw [← ht', h1]⟩
        simp [great, this]
      · rw [show (i : Int) + 1 = ((i + 1 : Nat) : Int) from by omega, wrap_i64 (by omega) (by omega)]
      · intro o ho
        rw [List.take_succ_eq_append_getElem hil] at ho
        rcases List.mem_append.1 ho with ho | ho
        · exact ht o ho
        · simp only [List.mem_singleton] at ho
          rw [ho, ← ht', h1]
    refine Ld.blk hblk2 hnm ⟨fun h1 => hgo _ ?_, fun h1 => Ld.blk hblk2 hot (hgo _ ?_)⟩
    · have : 100 < l[i].name.size := by simp at h1; omega
      simp [this]
    · have : ¬ 100 < l[i].name.size := by simp at h1; omega
      simp [this]
      omega
  · have hil : i = l.length := by simp at hge; omega
    subst hil
    rw [List.take_length] at ht
    refine ⟨?_, hx⟩
    have : l.any (fun o => decide (100 < o.name.size) || decide (100 < o.other.size)) = false := List.any_eq_false.2 fun o ho => by simpa using ht o ho
    simp only [great, this, h80, decide_false, Bool.or_false]

/-- May a text be a name? -/
def namedB (s : ByteArray) : Bool := ((bs s).all fun c => decide (32 < c) && decide (c ≤ 126)) && decide (s.size ≠ 0) && decide (s.size ≤ 20)
theorem model_named_spec {w : World} {s : ByteArray} (hl : s.size ≤ 1073741824) : CallF Try.prog 150 #[.string s] w fun r w' => r = .bool (namedB s) ∧ w' = w := by
  refine model_named_ok _ s w ?_
  unfold model_named
  refine ⟨fun q wr => ∃ i : Nat, q = (s, (s.size : Int), (i : Int)) ∧ i ≤ s.size ∧ wr = w ∧ ∀ c ∈ (bs s).take i, 32 < c ∧ c ≤ 126, fun q _ => s.size - q.2.2.toNat, ⟨0, rfl, by omega, rfl, by simp⟩, ?_⟩
  rintro _ wr ⟨i, rfl, hi, rfl, ht⟩
  refine ⟨fun hlt => ?_, fun hge => ?_⟩
  · have hil : i < s.size := by simp at hlt; omega
    have hib : i < (bs s).length := by simpa using hil
    have hc : (s.data.toList.getD i 0).toNat = (bs s)[i] := by
      have hi' : i < s.data.size := hil
      simp only [bs, List.getElem_map, List.getD, Array.getElem?_toList, Array.getElem?_eq_getElem hi', Option.getD_some, Array.getElem_toList]
    simp only [Int.toNat_natCast, hc]
    refine ⟨by simp, by simp; omega, ?_⟩
    have hgo : ∀ t : Bool, t = !(decide (32 < (bs s)[i]) && decide ((bs s)[i] ≤ 126)) → model_named_k1 (fun r w' => r = .bool (namedB s) ∧ w' = wr)
        (fun s' w' => (∃ j : Nat, s' = (s, (s.size : Int), (j : Int)) ∧ j ≤ s.size ∧ w' = wr ∧ ∀ c ∈ (bs s).take j, 32 < c ∧ c ≤ 126) ∧ s.size - s'.2.2.toNat < s.size - (i : Int).toNat) s (s.size : Int) (i : Int) t wr := by
      intro t ht'
      unfold model_named_k1
      have hw : IntKind.i64.wrap ((i : Int) + 1) = ((i + 1 : Nat) : Int) := by rw [wrap_i64 (by omega) (by omega)]; omega
      refine ⟨fun h1 => ⟨?_, rfl⟩, fun h1 => ⟨⟨i + 1, by rw [hw], by omega, rfl, ?_⟩, by rw [hw]; simp; omega⟩⟩
      · have : ((bs s).all fun c => decide (32 < c) && decide (c ≤ 126)) = false := by
          rw [List.all_eq_false]
          refine ⟨_, List.getElem_mem hib, ?_⟩
          rw [h1] at ht'
          simp at ht' ⊢
          omega
        simp [namedB, this]
      · intro c hc'
        rw [List.take_succ_eq_append_getElem hib] at hc'
        rcases List.mem_append.1 hc' with hc' | hc'
        · exact ht c hc'
        · simp only [List.mem_singleton] at hc'
          subst hc'
          rw [h1] at ht'
          simp at ht'
          omega
    refine ⟨fun h1 => hgo _ ?_, fun h1 => ⟨by simp, by simp; omega, hgo _ ?_⟩⟩
    · have : ¬ 32 < (bs s)[i] := by simp at h1; omega
      simp [this]
    · have h32 : 32 < (bs s)[i] := by simp at h1; omega
      by_cases h126 : (bs s)[i] ≤ 126
      · have : ¬ ((126 : Int) < ((bs s)[i] : Int)) := by omega
        simp [h32, h126, this]
      · have : ((126 : Int) < ((bs s)[i] : Int)) := by omega
        simp [h32, h126, this]
  · have hil : i = s.size := by simp at hge; omega
    subst hil
    rw [List.take_of_length_le (by simp)] at ht
    have hall : ((bs s).all fun c => decide (32 < c) && decide (c ≤ 126)) = true := by
      rw [List.all_eq_true]
      intro c hc
      have := ht c hc
      simp [this]
    have he : seq s (ByteArray.mk #[]) = decide (s.size = 0) := by
      rw [seq_eq, Bool.eq_iff_iff, decide_eq_true_eq, decide_eq_true_eq]
      constructor
      · rintro rfl; rfl
      · intro h
        cases s with | mk d =>
        have : d.size = 0 := h
        rw [Array.eq_empty_of_size_eq_zero this]
    rw [he]
    refine ⟨fun h1 => ⟨?_, rfl⟩, fun h1 => ⟨?_, rfl⟩⟩
    · have : s.size ≠ 0 := by simpa using h1
      simp only [namedB, hall, this, Bool.true_and, ne_eq, not_false_eq_true, decide_true]
      congr 1
      simp only [decide_eq_decide]
      omega
    · have : s.size = 0 := by simpa using h1
      simp [namedB, this]
end Go.Proofs
