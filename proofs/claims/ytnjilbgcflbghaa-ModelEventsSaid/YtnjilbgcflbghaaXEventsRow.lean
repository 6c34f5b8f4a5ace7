/- ModelEvents: the statement. -/
import Derived.Test.YtnjilbgcflbghaaXEvents
import Derived.Test.YtnjilbgcflbghaaXOpen
import Derived.Test.YtnjilbgcflbghaaRows
import Derived.WalkKit
import Derived.ProofKit
import Derived.OpenShut
import Derived.ShutString
import Derived.ChangeOld
import Derived.Below
set_option linter.all false
namespace Go.Proofs.Ytnjilbgcflbghaa.modelEvents
open Go.ChangeShapes Go.WideShapes Go.ChangeAt Go.RowKit Go.X
set_option linter.unusedVariables false

theorem own : ownKnob Try.prog.godebug = none := by kernel_rfl
theorem laidOut : laidOutB Try.prog = true := by kernel_rfl
set_option maxRecDepth 100000 in
theorem open_op {W : World} {base : Nat} {v : Value} (h : Value.okWide Try.prog W .any base 67 v) : ∃ o : OpV, v = .agg o.cells ∧ o.OK := by
  obtain ⟨l, rfl, hc⟩ := CellsOK.of_value (ts := 3 :: 9 :: 9 :: 3 :: 3 :: (List.replicate 48 5 ++ [])) h (by rw [Try.underlying67]) (by kernel_rfl) (by kernel_rfl)
  obtain ⟨v0, l, rfl, h0, hc⟩ := hc.cons
  obtain ⟨v1, l, rfl, h1, hc⟩ := hc.cons
  obtain ⟨v2, l, rfl, h2, hc⟩ := hc.cons
  obtain ⟨v3, l, rfl, h3, hc⟩ := hc.cons
  obtain ⟨v4, l, rfl, h4, hc⟩ := hc.cons
  obtain ⟨bs, rest, rfl, hb, _, hc⟩ := cells_u8 Try.underlying5 48 _ _ hc
  obtain rfl := hc.nil
  obtain ⟨kind, rfl, k0⟩ := cell_int Try.underlying3 h0
  obtain ⟨name, rfl, k1⟩ := cell_string Try.underlying9 h1
  obtain ⟨other, rfl, k2⟩ := cell_string Try.underlying9 h2
  obtain ⟨number, rfl, k3⟩ := cell_int Try.underlying3 h3
  obtain ⟨quota, rfl, k4⟩ := cell_int Try.underlying3 h4
  exact ⟨⟨kind, name, other, number, quota, bs⟩, by simp [OpV.cells, OpV.list], ⟨k0, k3, k4, hb⟩⟩

set_option maxRecDepth 100000 in
theorem lifted (os : Os) (started : os.Started) (H : Type) (enc : TypeId × Value → H) :
    ReturnsInHanded {} Try.checked os 13 .any (Rows.modelEventsSpec.pre6 enc Try.prog Try.f13 Rows.modelEventsRow.domain false) (Rows.modelEventsSpec.post enc Try.prog Try.f13 false true false false) := by
  refine returnsInHanded_of_change (C := Try.checked) own started (by kernel_rfl) Try.func13
    (ChangeSpec.witness6 (enc := enc) (C := Try.checked) false ⟨#[], #[.agg Try.z67, .agg Try.z67], []⟩ 8 (by kernel_rfl) (by kernel_rfl) (by kernel_rfl) (by kernel_rfl)) ?_
  intro W base args ds gs before hval0 hW hcnd _
  have hval : ∀ (j : Nat) t v, Try.f13.params[j]? = some t → args[j]? = some v → Value.okWide Try.prog W .any base t v := hval0
  have hW' := hW
  obtain ⟨p, q, hA0, hV, rfl, hfz, hnd⟩ := hW
  have hA : DataW.TrodAll enc Try.prog W 0 (fun _ => true) true Try.f13.params.toList args.toList ds p := hA0
  rw [Try.params13] at hA hval
  obtain ⟨v0, vs0, d0, ds0, p0, q0, hargs, rfl, rfl, h0, r0⟩ := trodAll_cons hA
  obtain ⟨v1, vs1, d1, ds1, p1, q1, rfl, rfl, rfl, h1, r1⟩ := trodAll_cons r0
  obtain ⟨rfl, rfl, rfl⟩ := trodAll_nil r1
  obtain rfl : args = #[v0, v1] := by cases args; simp_all
  obtain ⟨rfl, rfl⟩ := trodVars_none hV
  obtain ⟨a, rfl, ha⟩ := open_op (hval 0 67 v0 rfl rfl)
  obtain ⟨b, rfl, hb⟩ := open_op (hval 1 67 v1 rfl rfl)
  have lt0 : ∀ x ∈ p0, x.block < W.heap.size := by obtain ⟨m, hm⟩ := h0; exact DataW.trod_lt m _ _ _ hm
  have lt1 : ∀ x ∈ p1, x.block < W.heap.size := by obtain ⟨m, hm⟩ := h1; exact DataW.trod_lt m _ _ _ hm
  clear hA0 hval0
  refine Calls.mono (ModelEvents_walk (w := W) ha hb) ?_
  rintro e W' ⟨r, rfl, rfl, hx⟩
  have bel := hx.below
  exact ⟨_, rfl, _, _, _, [], _, [], hW', trodAll_mk1 (shut_bool Try.underlying4 _), (trodAll_cons_mk (Below.trod laidOut (by kernel_rfl) (of_decide_eq_true (by kernel_rfl)) h0 bel lt0) (trodAll_cons_mk (Below.trod laidOut (by kernel_rfl) (of_decide_eq_true (by kernel_rfl)) h1 bel lt1) trodAll_mk0)), rfl, bel.frame _, fun h => by cases h⟩

theorem and_mk {a b : Bool} (h : a = true) (k : b = true) : (a && b) = true := by rw [h, k]; rfl
set_option maxRecDepth 100000 in
set_option maxHeartbeats 40000000 in
theorem facts : joinedFacts Try.prog 13 Try.f13 Rows.modelEventsSpec Rows.modelEventsRow = true := by
  unfold joinedFacts
  repeat' (with_reducible refine and_mk ?_ ?_)
  all_goals (as_aux_lemma => kernel_rfl)
theorem over : Rows.modelEventsRow.holds Try.pinned (OpenSpec.ofChange Rows.modelEventsSpec) :=
  OpenClaim.holds_of_wide 13 Try.f13 rfl rfl rfl rfl rfl rfl rfl ⟨rfl, rfl, rfl, rfl, rfl⟩ rfl rfl rfl rfl rfl (by kernel_rfl) Try.func13 facts
    (of_decide_eq_true (by kernel_rfl)) (by unfold Func.isWrapper; first | (rw [if_pos (by decide +kernel)]; kernel_rfl) | (rw [if_neg (by decide +kernel)]; exact ⟨rfl, rfl⟩))
    (fun os started H enc _ => lifted os started H enc)

theorem proved : Rows.ModelEventsSaid := over
end Go.Proofs.Ytnjilbgcflbghaa.modelEvents
