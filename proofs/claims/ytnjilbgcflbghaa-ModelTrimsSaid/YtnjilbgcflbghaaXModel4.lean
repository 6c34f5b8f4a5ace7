/- model: New, Do (operations of five kinds), Distinct. -/
import Derived.Test.YtnjilbgcflbghaaXModel3
set_option linter.all false
namespace Go.Proofs
open Go Go.X

theorem model_New_spec {w : World} : CallF Try.prog 36 #[] w fun r w' => ∃ m rv, r = .pointer (some ⟨m, 0, none⟩) ∧ MRep w' m rv [] ∧ Ext w w' ∧ w.heap.size ≤ m ∧ w.heap.size ≤ rv := by
  refine model_New_ok _ w ?_
  unfold model_New
  obtain ⟨w1, e1, e2, e3, e4⟩ := makeMap_run (P := Try.prog) (w := w) (enc := Value.string) (t := 163)
  refine ⟨some w.heap.size, w1, e1, #[.map (some w.heap.size)], rfl, ?_⟩
  refine New.mk fun b w2 hb hs2 hblk hx2 => ?_
  refine ⟨b, w.heap.size, rfl, ⟨hblk, e2.ext hx2, fun p hp => (by cases hp), ?_⟩, e3.trans hx2, by omega, Nat.le_refl _⟩
  simp [Vols.foot]
  omega

theorem vol_fill (q : Int) (r : Option Nat) : Instr.fill ((#[(0, 1), (1, 1), (2, 1)] : Array (Nat × Nat))[·]?) #[.int .i64 0, .bool false, .map none] [(0, .int .i64 q), (2, .map r)] = some #[.int .i64 q, .bool false, .map r] := rfl
def newVol (o : OpV) : VolV := ⟨o.quota, false, []⟩
theorem model_Do_create {w : World} {m rv : Nat} {M : Vols} {o : OpV} (hm : MRep w m rv M) (ho : o.OK) (hk1 : o.kind = 1) (hn : o.name.size ≤ 1073741824) :
    CallF Try.prog 37 #[.pointer (some ⟨m, 0, none⟩), .agg o.cells] w fun r w' => ∃ b r', r = .agg (ansL (addCode M o.name (newVol o) 0) false zeros48 nilV).toArray ∧
      (addCode M o.name (newVol o) 0 = 0 → MRep w' m rv (M ++ [(o.name, b, r', newVol o)])) ∧ (addCode M o.name (newVol o) 0 ≠ 0 → MRep w' m rv M) ∧ Ch (· = rv) w w' ∧ w.heap.size ≤ b ∧ w.heap.size ≤ r' := by
  refine model_Model_Do_ok _ (some ⟨m, 0, none⟩) o.cells w ?_
  unfold model_Model_Do
  have hk : o.cells[0]? = some (.int .i64 o.kind) := rfl
  have hnm : o.cells[1]? = some (.string o.name) := rfl
  have hqu : o.cells[4]? = some (.int .i64 o.quota) := rfl
  refine New.mk fun b1 w1 hb1 hs1 hblk1 hx1 => New.mk fun b2 w2 hb2 hs2 hblk2 hx2 => ?_
  have hblk1' := hblk1.ext hx2
  have hm2 := (hm.ext hx1).ext hx2
  simp only [addr_add, Nat.zero_add]
  refine Ld.blk hblk1' hk ⟨fun _ => Ld.blk hblk1' hnm (Ld.blk hblk1' hqu ?_), fun h => absurd hk1 (by simpa using h)⟩
  obtain ⟨w3, e1, e2, e3, e4⟩ := makeMap_run (P := Try.prog) (w := w2) (enc := Value.int .i64) (t := 168)
  refine ⟨some w2.heap.size, w3, e1, _, vol_fill o.quota (some w2.heap.size), ?_⟩
  refine New.mk fun b4 w4 hb4 hs4 hblk4 hx4 => ?_
  have hx24 := e3.trans hx4
  have hm4 := hm2.ext hx24
  have hva : VolAt w4 b4 w2.heap.size (newVol o) := ⟨hblk4, e2.ext hx4, fun p hp => (by cases hp)⟩
  have hlt : ∀ k, k = m ∨ k = rv ∨ k ∈ M.foot → k < w.heap.size := fun k hk => hm.lt hk
  have hnd : (m :: rv :: (M ++ [(o.name, b4, w2.heap.size, newVol o)] : Vols).foot).Nodup := by
    have h0 := hm.nd
    have hft : (M ++ [(o.name, b4, w2.heap.size, newVol o)] : Vols).foot = M.foot ++ [b4, w2.heap.size] := by simp [Vols.foot]
    rw [hft, show m :: rv :: (M.foot ++ [b4, w2.heap.size]) = (m :: rv :: M.foot) ++ [b4, w2.heap.size] from rfl, List.nodup_append]
    refine ⟨h0, by simp; omega, fun a ha c hc => ?_⟩
    have h1 : a < w.heap.size := hlt a (by simpa using ha)
    have h2 : w.heap.size ≤ c := by
      have hw1 := hx1.size
      have hw2 := hx2.size
      simp only [List.mem_cons, List.not_mem_nil, or_false] at hc
      rcases hc with rfl | rfl <;> omega
    omega
  refine (model_add_spec (ro := some w2.heap.size) hm4 hva.top (fun _ => ⟨_, rfl, hva, hnd⟩) hn).mono ?_
  rintro _ w5 ⟨rfl, hc5, hne, heq⟩
  have hrvlt := hlt rv (.inr (.inl rfl))
  have hw1 := hx1.size
  have hw2 := hx2.size
  have hba := (hblk2.ext hx24).ch hc5 (by omega)
  refine ⟨_, rfl, (ansL (addCode M o.name (newVol o) 0) false zeros48 nilV).toArray, by rw [ans_zero]; exact ans_err, ?_⟩
  refine StN.all hba (ans_size zeros48_len) (ans_one rfl) (by rw [ans_zero]; exact ans_size zeros48_len) ?_
  intro w6 hb6 hc6 hz6
  refine LdN.all hb6 (ans_size zeros48_len) ?_
  have hfresh : ∀ k, k = m ∨ k = rv ∨ k ∈ (M ++ [(o.name, b4, w2.heap.size, newVol o)] : Vols).foot → ¬ k = b2 := by
    intro k hk
    have hft : (M ++ [(o.name, b4, w2.heap.size, newVol o)] : Vols).foot = M.foot ++ [b4, w2.heap.size] := by simp [Vols.foot]
    rw [hft, List.mem_append] at hk
    rcases hk with hk | hk | hk | hk
    · have := hlt k (.inl hk); omega
    · have := hlt k (.inr (.inl hk)); omega
    · have := hlt k (.inr (.inr hk)); omega
    · simp only [List.mem_cons, List.not_mem_nil, or_false] at hk
      rcases hk with rfl | rfl <;> omega
  refine ⟨b4, w2.heap.size, rfl, fun h => (heq h _ rfl).ch hc6 hfresh, fun h => (hne h).ch hc6 fun k hk => ?_, ?_, by omega, by omega⟩
  · exact hfresh k (hk.imp id fun h => h.imp id fun h => by simp [Vols.foot] at h ⊢; exact .inl h)
  · exact (((hx1.trans hx2).trans hx24).step hc5 (fun _ _ h => h.elim) (fun _ _ h => h)).step hc6 (fun _ _ h => h) (fun k hk h => absurd h (by omega))

theorem model_Do_block {w : World} {m rv : Nat} {M : Vols} {o : OpV} (hm : MRep w m rv M) (ho : o.OK) (hk1 : o.kind = 3 ∨ o.kind = 4 ∨ o.kind = 5) :
    CallF Try.prog 37 #[.pointer (some ⟨m, 0, none⟩), .agg o.cells] w (BlockPost w m rv M o) := by
  refine model_Model_Do_ok _ (some ⟨m, 0, none⟩) o.cells w ?_
  unfold model_Model_Do
  have hk : o.cells[0]? = some (.int .i64 o.kind) := rfl
  refine New.mk fun b1 w1 hb1 hs1 hblk1 hx1 => New.mk fun b2 w2 hb2 hs2 hblk2 hx2 => ?_
  have hblk1' := hblk1.ext hx2
  have hm2 := (hm.ext hx1).ext hx2
  have hw1 := hx1.size
  have hw2 := hx2.size
  simp only [addr_add, Nat.zero_add]
  have hgo : model_Model_Do_k0 (BlockPost w m rv M o) (some ⟨m, 0, none⟩) (some ⟨b1, 0, none⟩) (some ⟨b2, 0, none⟩) o.kind true w2 := by
    unfold model_Model_Do_k0
    refine ⟨fun _ => ?_, fun h => (by cases h)⟩
    refine LdN.all hblk1' (OpV.size ho) ?_
    refine (model_block_spec hm2 ho).mono ?_
    rintro _ w3 ⟨rfl, hm3, hc3, hl3⟩
    have hb2f : ¬ b2 ∈ M.foot := fun h => by have := hm.lt (.inr (.inr h)); omega
    refine ⟨_, rfl, ?_⟩
    refine StN.all (hblk2.ch hc3 hb2f) (ans_size hl3) (ans_one rfl) (by rw [ans_zero]; exact ans_size zeros48_len) ?_
    intro w4 hb4 hc4 hz4
    refine LdN.all hb4 (ans_size hl3) ?_
    have hft : (blockS M o).1.foot = M.foot := by
      unfold blockS
      split
      · rfl
      · split
        · rfl
        · split
          · rfl
          · split
            · exact updV_foot _ _ _
            · split
              · rfl
              · exact updV_foot _ _ _
    refine ⟨rfl, hm3.ch hc4 fun k hk h => ?_, ((hx1.trans hx2).step hc3 (fun _ _ h => h.elim) (fun _ _ h => h)).step hc4 (fun _ _ h => h) (fun k hk h => absurd h (by omega)), hl3⟩
    rw [hft] at hk
    have := hm.lt hk; omega
  refine Ld.blk hblk1' hk ⟨fun h => ?_, fun _ => ⟨fun h => ?_, fun _ => ⟨fun h => ?_, fun h3 => ⟨fun h => ?_, fun h4 => ?_⟩⟩⟩⟩
  · have : o.kind = 1 := by simpa using h
    omega
  · have : o.kind = 2 := by simpa using h
    omega
  · rw [h]; exact hgo
  · rw [h]; exact hgo
  · have h3' : ¬ o.kind = 3 := by simpa using h3
    have h4' : ¬ o.kind = 4 := by simpa using h4
    have : decide (o.kind = 5) = true := by simp; omega
    rw [this]; exact hgo
end Go.Proofs
