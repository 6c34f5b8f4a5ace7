/- Operations that come in. -/
import Derived.Test.YtnjilbgcflbghaaXF1
import Derived.Test.YtnjilbgcflbghaaXE3
import Derived.Test.YtnjilbgcflbghaaXModels
set_option linter.all false
set_option maxRecDepth 100000
namespace Go.Proofs
open Go Go.X Go.ChangeShapes Go.WideShapes
instance : Inhabited OpV := ⟨⟨0, ByteArray.mk #[], ByteArray.mk #[], 0, 0, []⟩⟩
variable {H : Type} {enc : TypeId × Value → H} {W : World} {base : Nat} {spare : Nat → Bool} {held : Bool}
theorem open_opTr {m : Nat} {cs : List Value} {y : DataW H × List MemPlace} (hl : cs.length = 53) (h : DataW.trod enc Try.prog W 0 spare held m 67 cs = some y) : ∃ o : OpV, cs = o.list ∧ o.OK := by
  have hc := (trod_flat (enc := enc) (P := Try.prog) (w := W) (base := 0) (spare := spare) (held := held) 200).1 67 (3 :: 9 :: 9 :: 3 :: 3 :: (List.replicate 48 5 ++ [])) m cs y (by kernel_rfl) (by simpa using hl.symm) h
  obtain ⟨v0, l, rfl, h0, hc⟩ := hc.cons
  obtain ⟨v1, l, rfl, h1, hc⟩ := hc.cons
  obtain ⟨v2, l, rfl, h2, hc⟩ := hc.cons
  obtain ⟨v3, l, rfl, h3, hc⟩ := hc.cons
  obtain ⟨v4, l, rfl, h4, hc⟩ := hc.cons
  obtain ⟨bs, rest, rfl, hb, _, hc⟩ := ctr_u8s Try.underlying5 48 _ _ hc
  obtain rfl := hc.nil
  obtain ⟨kind, rfl, k0⟩ := ctr_int Try.underlying3 h0
  obtain ⟨name, rfl, k1⟩ := ctr_string Try.underlying9 h1
  obtain ⟨other, rfl, k2⟩ := ctr_string Try.underlying9 h2
  obtain ⟨number, rfl, k3⟩ := ctr_int Try.underlying3 h3
  obtain ⟨quota, rfl, k4⟩ := ctr_int Try.underlying3 h4
  exact ⟨⟨kind, name, other, number, quota, bs⟩, by simp [OpV.list], ⟨k0, k3, k4, hb⟩⟩
theorem open_op {v : Value} (h : Value.okWide Try.prog W .any base 67 v) : ∃ o : OpV, v = .agg o.cells ∧ o.OK := by
  obtain ⟨l, rfl, hc⟩ := CellsOK.of_value (ts := 3 :: 9 :: 9 :: 3 :: 3 :: (List.replicate 48 5 ++ [])) h (by rw [Try.underlying67]) (by kernel_rfl) (by kernel_rfl)
  obtain ⟨v0, l, rfl, h0, hc⟩ := hc.cons
  obtain ⟨v1, l, rfl, h1, hc⟩ := hc.cons
  obtain ⟨v2, l, rfl, h2, hc⟩ := hc.cons
  obtain ⟨v3, l, rfl, h3, hc⟩ := hc.cons
  obtain ⟨v4, l, rfl, h4, hc⟩ := hc.cons
  obtain ⟨bs, rest, rfl, hb, _, hc⟩ := cells_u8 Try.underlying5 48 _ _ hc
  obtain rfl := hc.nil
  obtain ⟨kind, rfl, k0⟩ := cell_int Try.underlying3 h0
  obtain ⟨name, rfl, k1⟩ := cell_string Try.underlying9 h1
  obtain ⟨other, rfl, k2⟩ := cell_string Try.underlying9 h2
  obtain ⟨number, rfl, k3⟩ := cell_int Try.underlying3 h3
  obtain ⟨quota, rfl, k4⟩ := cell_int Try.underlying3 h4
  exact ⟨⟨kind, name, other, number, quota, bs⟩, by simp [OpV.cells, OpV.list], ⟨k0, k3, k4, hb⟩⟩
theorem open_ops {v : Value} {d : DataW H} {ps : List MemPlace} (hv : Value.okWide Try.prog W .any base 63 v) (h : DataW.Trod enc Try.prog W 0 spare held 63 v d ps) :
    ∃ (s : Sl) (l : List OpV), v = s.v ∧ Sees W s 53 (l.flatMap OpV.list) ∧ (∀ o ∈ l, o.OK) ∧ l.length = s.len ∧ s.len ≤ maxLen := by
  obtain ⟨h1, h2⟩ := X.okWide_slice Try.underlying63 hv
  obtain ⟨fuel, h⟩ := h
  rw [h2] at h
  exact open_slice_of Try.underlying63 (by kernel_rfl) h1 h (fun m cs y hl ht => open_opTr hl ht) (fun o ho => by simp [OpV.list, ho.block])
end Go.Proofs
