/- Calls that come in. -/
import Derived.Test.YtnjilbgcflbghaaXE3
import Derived.Test.YtnjilbgcflbghaaXLaw12
set_option linter.all false
set_option maxRecDepth 100000
namespace Go.Proofs
open Go Go.X Go.ChangeShapes Go.WideShapes
instance : Inhabited CallV12 := ⟨⟨0, ByteArray.mk #[], ByteArray.mk #[], 0, 0, false, []⟩⟩
variable {H : Type} {enc : TypeId × Value → H} {W : World} {base : Nat} {spare : Nat → Bool} {held : Bool}
theorem open_callTr {m : Nat} {cs : List Value} {y : DataW H × List MemPlace} (hl : cs.length = 38) (h : DataW.trod enc Try.prog W 0 spare held m 81 cs = some y) : ∃ o : CallV12, cs = o.list ∧ o.OK := by
  have hc := (trod_flat (enc := enc) (P := Try.prog) (w := W) (base := 0) (spare := spare) (held := held) 200).1 81 (3 :: 9 :: 9 :: 3 :: 3 :: 4 :: (List.replicate 32 5 ++ [])) m cs y (by kernel_rfl) (by simpa using hl.symm) h
  obtain ⟨v0, l, rfl, h0, hc⟩ := hc.cons
  obtain ⟨v1, l, rfl, h1, hc⟩ := hc.cons
  obtain ⟨v2, l, rfl, h2, hc⟩ := hc.cons
  obtain ⟨v3, l, rfl, h3, hc⟩ := hc.cons
  obtain ⟨v4, l, rfl, h4, hc⟩ := hc.cons
  obtain ⟨v5, l, rfl, h5, hc⟩ := hc.cons
  obtain ⟨bs, rest, rfl, hb, _, hc⟩ := ctr_u8s Try.underlying5 32 _ _ hc
  obtain rfl := hc.nil
  obtain ⟨what, rfl, k0⟩ := ctr_int Try.underlying3 h0
  obtain ⟨name, rfl, k1⟩ := ctr_string Try.underlying9 h1
  obtain ⟨other, rfl, k2⟩ := ctr_string Try.underlying9 h2
  obtain ⟨number, rfl, k3⟩ := ctr_int Try.underlying3 h3
  obtain ⟨quota, rfl, k4⟩ := ctr_int Try.underlying3 h4
  obtain ⟨frozen, rfl⟩ := ctr_bool Try.underlying4 h5
  exact ⟨⟨what, name, other, number, quota, frozen, bs⟩, by simp [CallV12.list], ⟨k0, k3, k4, hb⟩⟩
theorem open_calls {v : Value} {d : DataW H} {ps : List MemPlace} (hv : Value.okWide Try.prog W .any base 76 v) (h : DataW.Trod enc Try.prog W 0 spare held 76 v d ps) :
    ∃ (s : Sl) (l : List CallV12), v = s.v ∧ Sees W s 38 (l.flatMap CallV12.list) ∧ (∀ o ∈ l, o.OK) ∧ l.length = s.len ∧ s.len ≤ maxLen := by
  obtain ⟨h1, h2⟩ := X.okWide_slice Try.underlying76 hv
  obtain ⟨fuel, h⟩ := h
  rw [h2] at h
  exact open_slice_of Try.underlying76 (by kernel_rfl) h1 h (fun m cs y hl ht => open_callTr hl ht) (fun o ho => by simp [CallV12.list, ho.finger])
end Go.Proofs
