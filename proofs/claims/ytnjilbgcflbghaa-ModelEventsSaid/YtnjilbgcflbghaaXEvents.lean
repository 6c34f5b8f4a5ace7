/- ModelEvents: the walk. -/
import Derived.Test.YtnjilbgcflbghaaXF0
import Derived.Test.YtnjilbgcflbghaaXModel6
set_option linter.all false
namespace Go.Proofs
open Go Go.X

def eventSame (a b : OpV) : Bool := decide (event a = event b)
theorem eventSame_eq {a b : OpV} (ha : a.OK) (hb : b.OK) : eventSame a b = decide (a.kind = b.kind ∧ a.number = b.number ∧ a.quota = b.quota ∧ a.name = b.name ∧ a.other = b.other ∧ (a.kind = 3 → a.block = b.block)) := by
  unfold eventSame
  rw [decide_eq_decide]
  constructor
  · exact event_inj ha hb
  · rintro ⟨h1, h2, h3, h4, h5, h6⟩
    unfold event
    rw [h1, h2, h3, h4, h5]
    by_cases hk : b.kind = 3
    · simp only [hk, if_true, h6 (h1.trans hk)]
    · simp only [hk, if_false]
set_option maxHeartbeats 2000000 in
theorem ModelEvents_walk {w : World} {a b : OpV} (ha : a.OK) (hb : b.OK) :
    CallF Try.prog 13 #[.agg a.cells, .agg b.cells] w fun r w' => r = .bool true ∧ Ext w w' := by
  refine sporranlaw15_ModelEvents_ok _ a.cells b.cells w ?_
  unfold sporranlaw15_ModelEvents
  refine New.mk fun b1 w1 hb1 hs1 hblk1 hx1 => New.mk fun b2 w2 hb2 hs2 hblk2 hx2 => ?_
  have hblk1' := hblk1.ext hx2
  refine law15_speaks_spec.mono ?_
  rintro _ w3 ⟨rfl, hx3⟩
  refine ⟨_, rfl, fun h => (by cases h), fun _ => ?_⟩
  refine LdN.all (hblk1'.ext hx3) (OpV.size ha) (LdN.all (hblk2.ext hx3) (OpV.size hb) ?_)
  refine ⟨([a, b].flatMap OpV.list).toArray, ?_, ?_⟩
  · have := fill_recs (n := 53) [a.cells, b.cells] 0 ((Array.range (2 * 53)).map (Try.z67[· % Try.z67.size]!)) (fun x hx => by
      simp only [List.mem_cons, List.not_mem_nil, or_false] at hx
      rcases hx with rfl | rfl
      · exact OpV.size ha
      · exact OpV.size hb) (by simp)
    simpa [OpV.cells] using this
  refine New.mk fun b4 w4 hb4 hs4 hblk4 hx4 => ?_
  have hlen : ([a, b].flatMap OpV.list).length = 2 * 53 := by simp [OpV.list_len ha, OpV.list_len hb]
  have hsee : Sees w4 ⟨some ⟨b4, 0, none⟩, 2, 2⟩ 53 ([a, b].flatMap OpV.list) := by
    have := Sees.ofBlk (n := 2) (size := 53) hblk4 (by simpa using hlen)
    simpa using this
  have hok : ∀ o ∈ [a, b], o.OK := by
    intro o ho
    simp only [List.mem_cons, List.not_mem_nil, or_false] at ho
    rcases ho with rfl | rfl
    · exact ha
    · exact hb
  refine (law15_Great_spec hsee hok).mono ?_
  rintro _ w5 ⟨rfl, hx5⟩
  have hxx := (((hx1.trans hx2).trans hx3).trans hx4).trans hx5
  refine ⟨_, rfl, fun _ => ⟨rfl, hxx⟩, fun hg => ?_⟩
  have hsz : ∀ o ∈ [a, b], o.name.size ≤ 100 ∧ o.other.size ≤ 100 := by
    intro o ho
    simp only [great, Bool.or_eq_false_iff] at hg
    have := List.any_eq_false.1 hg.2 o ho
    simp at this
    exact this
  have hza := hsz a (by simp)
  have hzb := hsz b (by simp)
  have hd := Ch.drew w5
  have hx25 := (((hx3.trans hx4).trans hx5).trans hd)
  refine LdN.all (hblk1'.ext hx25) (OpV.size ha) (LdNH.all (hblk2.ext hx25) (OpV.size hb) ?_)
  refine (model_Event_spec ha (by omega) (by omega)).mono ?_
  rintro _ w6 ⟨sa, rfl, hma⟩
  refine ⟨sa, rfl, Row.all ((hblk2.ext hx25).ext hma.2.1), ?_⟩
  refine (model_Event_spec hb (by omega) (by omega)).mono ?_
  rintro _ w7 ⟨sb, rfl, hmb⟩
  refine ⟨sb, rfl, ?_⟩
  have hma7 := hma.ext hmb.2.1
  have hA := ((hblk1'.ext hx25).ext hma.2.1).ext hmb.2.1
  have hB := ((hblk2.ext hx25).ext hma.2.1).ext hmb.2.1
  have hx7 := ((hxx.trans hd).trans hma.2.1).trans hmb.2.1
  have hend : ∀ t : Bool, t = eventSame a b → sporranlaw15_ModelEvents_k0 (fun r w' => r = .bool true ∧ Ext w w') sa sb t w7 := by
    intro t ht
    unfold sporranlaw15_ModelEvents_k0
    have hla := event_len a
    have hlb := event_len b
    have hea := evHead_len a (by omega) (by omega)
    have heb : (event a).length ≤ 1152921504606846976 := by
      rw [event_head, List.length_append]
      split
      · rw [ha.block]; omega
      · simp; omega
    refine (ref01_Same_spec hma7.1.sees hmb.1.sees (by rw [hma7.2.2.1]; exact heb)).mono ?_
    rintro _ w8 ⟨rfl, hx8⟩
    refine ⟨_, rfl, fun _ => ⟨?_, hx7.trans hx8⟩, fun h => ?_⟩
    · have : (5 : Int) ≤ sa.len := by rw [hma7.2.2.1]; omega
      simp [this]
    · rw [ht] at h
      simp [eventSame] at h
  have hcell : ∀ (o : OpV), o.cells[0]? = some (.int .i64 o.kind) ∧ o.cells[1]? = some (.string o.name) ∧ o.cells[2]? = some (.string o.other) ∧ o.cells[3]? = some (.int .i64 o.number) ∧ o.cells[4]? = some (.int .i64 o.quota) := fun o => ⟨rfl, rfl, rfl, rfl, rfl⟩
  obtain ⟨a0, a1, a2, a3, a4⟩ := hcell a
  obtain ⟨c0, c1, c2, c3, c4⟩ := hcell b
  have hno : ¬ (a.kind = b.kind ∧ a.number = b.number ∧ a.quota = b.quota ∧ a.name = b.name ∧ a.other = b.other ∧ (a.kind = 3 → a.block = b.block)) → sporranlaw15_ModelEvents_k0 (fun r w' => r = .bool true ∧ Ext w w') sa sb false w7 := by
    intro h
    refine hend false ?_
    rw [eventSame_eq ha hb]
    simp [h]
  simp only [addr_add, Nat.zero_add]
  refine Ld.blk hA a0 (Ld.blk hB c0 ⟨fun h1 => ?_, fun h1 => hno fun h => ?_⟩)
  rotate_left
  · simp [h.1] at h1
  refine Ld.blk hA a3 (Ld.blk hB c3 ⟨fun h2 => ?_, fun h2 => hno fun h => ?_⟩)
  rotate_left
  · simp [h.2.1] at h2
  refine Ld.blk hA a4 (Ld.blk hB c4 ⟨fun h3 => ?_, fun h3 => hno fun h => ?_⟩)
  rotate_left
  · simp [h.2.2.1] at h3
  refine Ld.blk hA a1 (Ld.blk hB c1 ⟨fun h4 => ?_, fun h4 => hno fun h => ?_⟩)
  rotate_left
  · rw [seq_eq] at h4
    simp [h.2.2.2.1] at h4
  refine Ld.blk hA a2 (Ld.blk hB c2 ⟨fun h5 => ?_, fun h5 => hno fun h => ?_⟩)
  rotate_left
  · rw [seq_eq] at h5
    simp [h.2.2.2.2.1] at h5
  rw [seq_eq] at h4 h5
  simp only [decide_eq_true_eq] at h1 h2 h3 h4 h5
  refine Ld.blk hA a0 ⟨fun h6 => ?_, fun h6 => ?_⟩
  · refine hend true ?_
    rw [eventSame_eq ha hb]
    have : ¬ a.kind = 3 := by simpa using h6
    simp only [h1, h2, h3, h4, h5, true_and]
    rw [h1] at this
    simp [this]
  · have hk3 : a.kind = 3 := by simpa using h6
    refine LdN.blk (ds := (u8s a.block).toArray) hA (fun j v hj => a.blk j v (by simpa using hj)) (by simp [ha.block]) ?_
    refine LdN.blk (ds := (u8s b.block).toArray) hB (fun j v hj => b.blk j v (by simpa using hj)) (by simp [hb.block]) ?_
    obtain ⟨i, hi, _⟩ := Try.ti5
    refine ⟨_, EqOK.u8s (P := Try.prog) (t := 65) (e := 5) (n := 48) (i := i) Try.underlying65 Try.underlying5 hi (by kernel_rfl) (by kernel_rfl) ha.block hb.block, hend _ ?_⟩
    rw [eventSame_eq ha hb]
    simp only [decide_eq_decide, h1, h2, h3, h4, h5, true_and]
    rw [h1] at hk3
    simp [hk3]
end Go.Proofs
