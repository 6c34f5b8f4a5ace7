/- Laid by program. -/
import Derived.Test.YtnjilbgcflbghaaXFT
set_option linter.all false
set_option linter.unusedVariables false
set_option linter.unusedSimpArgs false
set_option maxRecDepth 20000
set_option maxHeartbeats 4000000
namespace Go.Proofs
open Go Go.X
/-! 208 slices.insertionSortOrdered[string] -/
def slices_insertionSortOrdered_string_k2 (R : Value → World → Prop) (ag1 : (Sl × Int × Int × Int) → World → Prop) (ag3 : (Sl × Int × Int × Int × Int) → World → Prop) (data0 : Sl) (a1 : Int) (b2 : Int) (i6 : Int) (j7 : Int) (t30 : Bool) (w : World) : Prop :=
  IfB t30 (
    Ix data0 (IntKind.i64.wrap (j7 - 1)) fun p_1 =>
    Ld Value.string (some (p_1.add ((IntKind.i64.wrap (j7 - 1)).toNat * 1))) (World.drew w) fun v_2 =>
    Ix data0 j7 fun p_3 =>
    Ld Value.string (some (p_3.add (j7.toNat * 1))) (World.drew w) fun v_4 =>
    Ix data0 j7 fun p_5 =>
    St (some (p_5.add (j7.toNat * 1))) (.string v_2) (World.drew w) fun w_2 =>
    Ix data0 (IntKind.i64.wrap (j7 - 1)) fun p_6 =>
    St (some (p_6.add ((IntKind.i64.wrap (j7 - 1)).toNat * 1))) (.string v_4) w_2 fun w_3 =>
    ag3 (data0, a1, b2, i6, (IntKind.i64.wrap (j7 - 1))) w_3) (
    ag1 (data0, a1, b2, (IntKind.i64.wrap (i6 + 1))) w)

def slices_insertionSortOrdered_string_b1 (R : Value → World → Prop) (ag1 : (Sl × Int × Int × Int) → World → Prop) (ag3 : (Sl × Int × Int × Int × Int) → World → Prop) (data0 : Sl) (a1 : Int) (b2 : Int) (i6 : Int) (j7 : Int) (w : World) : Prop :=
  IfB (decide (a1 < j7)) (
    Ix data0 j7 fun p_7 =>
    Ld Value.string (some (p_7.add (j7.toNat * 1))) (World.drew w) fun v_8 =>
    Ix data0 (IntKind.i64.wrap (j7 - 1)) fun p_9 =>
    Ld Value.string (some (p_9.add ((IntKind.i64.wrap (j7 - 1)).toNat * 1))) (World.drew w) fun v_10 =>
    CallF Try.prog 214 #[(.string v_8), (.string v_10)] (World.drew w) fun u_11 w_5 => As Value.bool u_11 fun v_12 =>
    slices_insertionSortOrdered_string_k2 R ag1 ag3 data0 a1 b2 i6 j7 v_12 w_5) (
    slices_insertionSortOrdered_string_k2 R ag1 ag3 data0 a1 b2 i6 j7 false (World.drew w))

def slices_insertionSortOrdered_string_b0 (R : Value → World → Prop) (ag1 : (Sl × Int × Int × Int) → World → Prop) (data0 : Sl) (a1 : Int) (b2 : Int) (i6 : Int) (w : World) : Prop :=
  IfB (decide (i6 < b2)) (
    Lp (fun ag (s : Sl × Int × Int × Int × Int) w => slices_insertionSortOrdered_string_b1 R ag1 ag s.1 s.2.1 s.2.2.1 s.2.2.2.1 s.2.2.2.2 w) (data0, a1, b2, i6, i6) w) (
    R (.tuple #[]) w)

def slices_insertionSortOrdered_string (R : Value → World → Prop) (data0 : Sl) (a1 : Int) (b2 : Int) (w : World) : Prop :=
  Lp (fun ag (s : Sl × Int × Int × Int) w => slices_insertionSortOrdered_string_b0 R ag s.1 s.2.1 s.2.2.1 s.2.2.2 w) (data0, a1, b2, (IntKind.i64.wrap (a1 + 1))) w

theorem slices_insertionSortOrdered_string_ok (R : Value → World → Prop) (data0 : Sl) (a1 : Int) (b2 : Int) (w : World) (H : slices_insertionSortOrdered_string R data0 a1 b2 w) : CallF Try.prog 208 #[(Sl.v data0), (.int .i64 a1), (.int .i64 b2)] w R := by
  refine calls_of_runs (fn := Try.f208) Try.func208 rfl (Nat.le_of_ble_eq_true rfl) ?_
  show Runs _ _ 49 _ _ _ _
  unfold slices_insertionSortOrdered_string at H
  refine r_upd (i := 0) (v := (Sl.v data0)) rfl ?_
  refine r_upd (i := 1) (v := (.int .i64 a1)) rfl ?_
  refine r_upd (i := 2) (v := (.int .i64 b2)) rfl ?_
  refine r_seq ?_
  refine r_region ?_
  refine xo_pure (v := (.int .i64 a1)) rfl (wanted_none rfl _) (p_move rfl rfl) ?_
  refine xo_pure (v := (.int .i64 (IntKind.i64.wrap (a1 + 1)))) rfl (wanted_none rfl _) (p_add rfl rfl rfl) ?_
  refine xo_pure (v := (.int .i64 (IntKind.i64.wrap (a1 + 1)))) rfl (wanted_none rfl _) (p_assign rfl rfl) ?_
  refine xo_end ?_
  refine r_block ?_
  refine r_upd (i := 0) (v := (Sl.v data0)) rfl ?_
  refine r_upd (i := 1) (v := (.int .i64 a1)) rfl ?_
  refine r_upd (i := 2) (v := (.int .i64 b2)) rfl ?_
  refine r_upd (i := 6) (v := (.int .i64 (IntKind.i64.wrap (a1 + 1)))) rfl ?_
  refine r_loopJ (fun (s : Sl × Int × Int × Int) σ => upd 6 (.int .i64 s.2.2.2) (upd 2 (.int .i64 s.2.2.1) (upd 1 (.int .i64 s.2.1) (upd 0 (Sl.v s.1) (σ))))) (s := (data0, a1, b2, (IntKind.i64.wrap (a1 + 1)))) H ?_
  clear H
  rintro ag1 ⟨data0, a1, b2, i6⟩ σ w H hag1
  replace H : slices_insertionSortOrdered_string_b0 R ag1 data0 a1 b2 i6 w := H
  show Runs _ _ _ _ _ (upd 6 (.int .i64 i6) (upd 2 (.int .i64 b2) (upd 1 (.int .i64 a1) (upd 0 (Sl.v data0) (σ))))) _
  unfold slices_insertionSortOrdered_string_b0 at H
  refine r_seq ?_
  refine r_seq ?_
  refine r_region ?_
  refine xo_pure (v := (.int .i64 i6)) rfl (wanted_none rfl _) (p_move rfl rfl) ?_
  refine xo_pure (v := (.int .i64 b2)) rfl (wanted_none rfl _) (p_move rfl rfl) ?_
  refine xo_pure (v := (.bool (decide (i6 < b2)))) rfl (wanted_none rfl _) (p_lt rfl rfl rfl) ?_
  refine xo_end ?_
  refine r_condB (b := (decide (i6 < b2))) rfl H ?_ ?_
  · clear H; intro hb2 H
    refine r_skip ?_
    refine r_seq ?_
    refine r_block ?_
    refine r_seq ?_
    refine r_region ?_
    refine xo_pure (v := (.int .i64 i6)) rfl (wanted_none rfl _) (p_move rfl rfl) ?_
    refine xo_pure (v := (.int .i64 i6)) rfl (wanted_none rfl _) (p_assign rfl rfl) ?_
    refine xo_end ?_
    refine r_block ?_
    refine r_upd (i := 0) (v := (Sl.v data0)) rfl ?_
    refine r_upd (i := 1) (v := (.int .i64 a1)) rfl ?_
    refine r_upd (i := 2) (v := (.int .i64 b2)) rfl ?_
    refine r_upd (i := 6) (v := (.int .i64 i6)) rfl ?_
    refine r_upd (i := 7) (v := (.int .i64 i6)) rfl ?_
    refine r_loopJ (fun (s : Sl × Int × Int × Int × Int) σ => upd 7 (.int .i64 s.2.2.2.2) (upd 6 (.int .i64 s.2.2.2.1) (upd 2 (.int .i64 s.2.2.1) (upd 1 (.int .i64 s.2.1) (upd 0 (Sl.v s.1) (σ)))))) (s := (data0, a1, b2, i6, i6)) H ?_
    clear H
    rintro ag3 ⟨data0, a1, b2, i6, j7⟩ σ w H hag3
    replace H : slices_insertionSortOrdered_string_b1 R ag1 ag3 data0 a1 b2 i6 j7 w := H
    show Runs _ _ _ _ _ (upd 7 (.int .i64 j7) (upd 6 (.int .i64 i6) (upd 2 (.int .i64 b2) (upd 1 (.int .i64 a1) (upd 0 (Sl.v data0) (σ)))))) _
    unfold slices_insertionSortOrdered_string_b1 at H
    refine r_seq ?_
    refine r_seq ?_
    refine r_topJ (fun (s : Sl × Int × Int × Int × Int × Bool) σ => upd 30 (.bool s.2.2.2.2.2) (upd 7 (.int .i64 s.2.2.2.2.1) (upd 6 (.int .i64 s.2.2.2.1) (upd 2 (.int .i64 s.2.2.1) (upd 1 (.int .i64 s.2.1) (upd 0 (Sl.v s.1) (σ))))))) (fun (s : Sl × Int × Int × Int × Int × Bool) w => slices_insertionSortOrdered_string_k2 R ag1 ag3 s.1 s.2.1 s.2.2.1 s.2.2.2.1 s.2.2.2.2.1 s.2.2.2.2.2 w) ?_ ?_
    · rintro ⟨data0, a1, b2, i6, j7, t30⟩ σ w H
      replace H : slices_insertionSortOrdered_string_k2 R ag1 ag3 data0 a1 b2 i6 j7 t30 w := H
      show Runs _ _ _ _ _ (upd 30 (.bool t30) (upd 7 (.int .i64 j7) (upd 6 (.int .i64 i6) (upd 2 (.int .i64 b2) (upd 1 (.int .i64 a1) (upd 0 (Sl.v data0) (σ))))))) _
      unfold slices_insertionSortOrdered_string_k2 at H
      refine r_condB (b := t30) rfl H ?_ ?_
      · clear H; intro hb5 H
        refine r_skip ?_
        refine r_seq ?_
        refine r_block ?_
        refine r_draw #[[], [], [], [], [3], [], [], [6], [5, 6, 7], [5, 6, 7, 8], [], [], [10, 11], [10, 11, 12], [0, 1, 5, 6, 7, 8, 9, 10, 11, 12, 13], [0, 1, 5, 6, 7, 8, 9, 10, 11, 12, 13, 14], [0, 1, 2, 3, 4, 5, 6, 7, 8, 9, 10, 11, 12, 13, 14, 15], [0, 1, 2, 3, 4, 5, 6, 7, 8, 9, 10, 11, 12, 13, 14, 15, 16]] 18 rfl rfl ?_
        refine xa_pure (v := (Sl.v data0)) 0 (by decide +kernel) rfl rfl (wanted_none rfl _) (p_move rfl rfl) ?_
        refine xa_pure (v := (.int .i64 j7)) 1 (by decide +kernel) rfl rfl (wanted_none rfl _) (p_move rfl rfl) ?_
        refine xa_pure (v := (Sl.v data0)) 2 (by decide +kernel) rfl rfl (wanted_none rfl _) (p_move rfl rfl) ?_
        refine xa_pure (v := (.int .i64 j7)) 3 (by decide +kernel) rfl rfl (wanted_none rfl _) (p_move rfl rfl) ?_
        refine xa_pure (v := (.int .i64 (IntKind.i64.wrap (j7 - 1)))) 4 (by decide +kernel) rfl rfl (wanted_none rfl _) (p_sub rfl rfl rfl) ?_
        refine xa_pure (v := (Sl.v data0)) 5 (by decide +kernel) rfl rfl (wanted_none rfl _) (p_move rfl rfl) ?_
        refine xa_pure (v := (.int .i64 j7)) 6 (by decide +kernel) rfl rfl (wanted_none rfl _) (p_move rfl rfl) ?_
        refine xa_pure (v := (.int .i64 (IntKind.i64.wrap (j7 - 1)))) 7 (by decide +kernel) rfl rfl (wanted_none rfl _) (p_sub rfl rfl rfl) ?_
        obtain ⟨p_1, hap_1, hlp_1, hup_1, H⟩ := H
        refine xa_pure (v := (.pointer (some (p_1.add ((IntKind.i64.wrap (j7 - 1)).toNat * 1))))) 8 (by decide +kernel) rfl rfl (wanted_none rfl _) (p_indexAddr (s := data0) (ad := p_1) (size := 1) rfl Try.underlying71 Try.ti9 rfl rfl hap_1 hlp_1 hup_1) ?_
        obtain ⟨adv_2, v_2, hev_2, hcv_2, H⟩ := H
        refine xa_read (v := (.string v_2)) (S := (fun w => w.cell? adv_2 = some (.string v_2))) 9 (by decide +kernel) rfl rfl (wanted_none rfl _) (fun w hc => rd_load (ad := adv_2) rfl Try.underlying9 rfl (by show Value.pointer _ = _; rw [hev_2]) hc) hcv_2 ?_
        refine xa_pure (v := (Sl.v data0)) 10 (by decide +kernel) rfl rfl (wanted_none rfl _) (p_move rfl rfl) ?_
        refine xa_pure (v := (.int .i64 j7)) 11 (by decide +kernel) rfl rfl (wanted_none rfl _) (p_move rfl rfl) ?_
        obtain ⟨p_3, hap_3, hlp_3, hup_3, H⟩ := H
        refine xa_pure (v := (.pointer (some (p_3.add (j7.toNat * 1))))) 12 (by decide +kernel) rfl rfl (wanted_none rfl _) (p_indexAddr (s := data0) (ad := p_3) (size := 1) rfl Try.underlying71 Try.ti9 rfl rfl hap_3 hlp_3 hup_3) ?_
        obtain ⟨adv_4, v_4, hev_4, hcv_4, H⟩ := H
        refine xa_read (v := (.string v_4)) (S := (fun w => w.cell? adv_4 = some (.string v_4))) 13 (by decide +kernel) rfl rfl (wanted_none rfl _) (fun w hc => rd_load (ad := adv_4) rfl Try.underlying9 rfl (by show Value.pointer _ = _; rw [hev_4]) hc) hcv_4 ?_
        obtain ⟨p_5, hap_5, hlp_5, hup_5, H⟩ := H
        refine xa_pure (v := (.pointer (some (p_5.add (j7.toNat * 1))))) 14 (by decide +kernel) rfl rfl (wanted_none rfl _) (p_indexAddr (s := data0) (ad := p_5) (size := 1) rfl Try.underlying71 Try.ti9 rfl rfl hap_5 hlp_5 hup_5) ?_
        refine xa_effN 15 [] (by decide +kernel) rfl rfl rfl (wanted_none rfl _) (e_store rfl Try.ti9 rfl rfl rfl H) ?_
        intro _ w_2 H
        refine ⟨AllHeld.nil, ?_⟩
        obtain ⟨p_6, hap_6, hlp_6, hup_6, H⟩ := H
        refine xa_pure (v := (.pointer (some (p_6.add ((IntKind.i64.wrap (j7 - 1)).toNat * 1))))) 16 (by decide +kernel) rfl rfl (wanted_none rfl _) (p_indexAddr (s := data0) (ad := p_6) (size := 1) rfl Try.underlying71 Try.ti9 rfl rfl hap_6 hlp_6 hup_6) ?_
        refine xa_effN 17 [] (by decide +kernel) rfl rfl rfl (wanted_none rfl _) (e_store rfl Try.ti9 rfl rfl rfl H) ?_
        intro _ w_3 H
        refine ⟨AllHeld.nil, ?_⟩
        refine xa_end (by decide +kernel) ?_
        refine r_inBlock ?_
        refine r_region ?_
        refine xo_pure (v := (.int .i64 j7)) rfl (wanted_none rfl _) (p_move rfl rfl) ?_
        refine xo_pure (v := (.int .i64 (IntKind.i64.wrap (j7 - 1)))) rfl (wanted_none rfl _) (p_sub rfl rfl rfl) ?_
        refine xo_pure (v := (.int .i64 (IntKind.i64.wrap (j7 - 1)))) rfl (wanted_none rfl _) (p_assign rfl rfl) ?_
        refine xo_end ?_
        refine r_upd (i := 0) (v := (Sl.v data0)) rfl ?_
        refine r_upd (i := 1) (v := (.int .i64 a1)) rfl ?_
        refine r_upd (i := 2) (v := (.int .i64 b2)) rfl ?_
        refine r_upd (i := 6) (v := (.int .i64 i6)) rfl ?_
        refine r_upd (i := 7) (v := (.int .i64 (IntKind.i64.wrap (j7 - 1)))) rfl ?_
        exact hag3 (data0, a1, b2, i6, (IntKind.i64.wrap (j7 - 1))) _ _ H
      · clear H; intro hb5 H
        refine r_exit rfl ?_
        refine r_inBlock ?_
        refine r_region ?_
        refine xo_pure (v := (.int .i64 i6)) rfl (wanted_none rfl _) (p_move rfl rfl) ?_
        refine xo_pure (v := (.int .i64 (IntKind.i64.wrap (i6 + 1)))) rfl (wanted_none rfl _) (p_add rfl rfl rfl) ?_
        refine xo_pure (v := (.int .i64 (IntKind.i64.wrap (i6 + 1)))) rfl (wanted_none rfl _) (p_assign rfl rfl) ?_
        refine xo_end ?_
        refine r_upd (i := 0) (v := (Sl.v data0)) rfl ?_
        refine r_upd (i := 1) (v := (.int .i64 a1)) rfl ?_
        refine r_upd (i := 2) (v := (.int .i64 b2)) rfl ?_
        refine r_upd (i := 6) (v := (.int .i64 (IntKind.i64.wrap (i6 + 1)))) rfl ?_
        exact hag1 (data0, a1, b2, (IntKind.i64.wrap (i6 + 1))) _ _ H
    · intro J4
      refine r_draw #[[], [], [0, 1], [0, 1, 2], [0, 1, 2, 3], [0, 1, 2, 3], [0, 1, 2, 3, 4, 5], [0, 1, 2, 3, 4, 5, 6], [0, 1, 2, 3], [0, 1, 2, 3], [0, 1, 2, 3, 9], [0, 1, 2, 3, 8, 9, 10], [0, 1, 2, 3, 8, 9, 10, 11], [0, 1, 2, 3, 4, 5, 6, 7, 8, 9, 10, 11, 12], [0, 1, 2, 3, 4, 5, 6, 7, 8, 9, 10, 11, 12, 13]] 15 rfl rfl ?_
      refine xa_pure (v := (.int .i64 j7)) 0 (by decide +kernel) rfl rfl (wanted_none rfl _) (p_move rfl rfl) ?_
      refine xa_pure (v := (.int .i64 a1)) 1 (by decide +kernel) rfl rfl (wanted_none rfl _) (p_move rfl rfl) ?_
      refine xa_pure (v := (.bool (decide (a1 < j7)))) 2 (by decide +kernel) rfl rfl (wanted_none rfl _) (p_gt rfl rfl rfl) ?_
      refine xa_pure (v := (.bool (decide (a1 < j7)))) 3 (by decide +kernel) rfl rfl (wanted_none rfl _) (p_move rfl rfl) ?_
      refine ifB_cases H ?_ ?_
      · clear H; intro hb6 H
        refine xa_pure (v := (Sl.v data0)) 4 (by decide +kernel) rfl rfl (wanted_yes (d := 19) rfl rfl (by decide) rfl hb6) (p_move rfl rfl) ?_
        refine xa_pure (v := (.int .i64 j7)) 5 (by decide +kernel) rfl rfl (wanted_yes (d := 19) rfl rfl (by decide) rfl hb6) (p_move rfl rfl) ?_
        obtain ⟨p_7, hap_7, hlp_7, hup_7, H⟩ := H
        refine xa_pure (v := (.pointer (some (p_7.add (j7.toNat * 1))))) 6 (by decide +kernel) rfl rfl (wanted_yes (d := 19) rfl rfl (by decide) rfl hb6) (p_indexAddr (s := data0) (ad := p_7) (size := 1) rfl Try.underlying71 Try.ti9 rfl rfl hap_7 hlp_7 hup_7) ?_
        obtain ⟨adv_8, v_8, hev_8, hcv_8, H⟩ := H
        refine xa_read (v := (.string v_8)) (S := (fun w => w.cell? adv_8 = some (.string v_8))) 7 (by decide +kernel) rfl rfl (wanted_yes (d := 19) rfl rfl (by decide) rfl hb6) (fun w hc => rd_load (ad := adv_8) rfl Try.underlying9 rfl (by show Value.pointer _ = _; rw [hev_8]) hc) hcv_8 ?_
        refine xa_pure (v := (Sl.v data0)) 8 (by decide +kernel) rfl rfl (wanted_yes (d := 19) rfl rfl (by decide) rfl hb6) (p_move rfl rfl) ?_
        refine xa_pure (v := (.int .i64 j7)) 9 (by decide +kernel) rfl rfl (wanted_yes (d := 19) rfl rfl (by decide) rfl hb6) (p_move rfl rfl) ?_
        refine xa_pure (v := (.int .i64 (IntKind.i64.wrap (j7 - 1)))) 10 (by decide +kernel) rfl rfl (wanted_yes (d := 19) rfl rfl (by decide) rfl hb6) (p_sub rfl rfl rfl) ?_
        obtain ⟨p_9, hap_9, hlp_9, hup_9, H⟩ := H
        refine xa_pure (v := (.pointer (some (p_9.add ((IntKind.i64.wrap (j7 - 1)).toNat * 1))))) 11 (by decide +kernel) rfl rfl (wanted_yes (d := 19) rfl rfl (by decide) rfl hb6) (p_indexAddr (s := data0) (ad := p_9) (size := 1) rfl Try.underlying71 Try.ti9 rfl rfl hap_9 hlp_9 hup_9) ?_
        obtain ⟨adv_10, v_10, hev_10, hcv_10, H⟩ := H
        refine xa_read (v := (.string v_10)) (S := (fun w => w.cell? adv_10 = some (.string v_10))) 12 (by decide +kernel) rfl rfl (wanted_yes (d := 19) rfl rfl (by decide) rfl hb6) (fun w hc => rd_load (ad := adv_10) rfl Try.underlying9 rfl (by show Value.pointer _ = _; rw [hev_10]) hc) hcv_10 ?_
        refine xa_eff 13 [] (by decide +kernel) rfl rfl rfl (wanted_yes (d := 19) rfl rfl (by decide) rfl hb6) (e_call (fn := Try.f214) H rfl rfl Try.func214 rfl rfl rfl) ?_
        rintro _ w_5 ⟨v_12, rfl, H⟩
        refine ⟨AllHeld.nil, ?_⟩
        refine xa_pure (v := (.bool v_12)) 14 (by decide +kernel) rfl rfl (wanted_none rfl _) (p_pickT rfl rfl hb6 rfl) ?_
        refine xa_end (by decide +kernel) ?_
        refine r_upd (i := 0) (v := (Sl.v data0)) rfl ?_
        refine r_upd (i := 1) (v := (.int .i64 a1)) rfl ?_
        refine r_upd (i := 2) (v := (.int .i64 b2)) rfl ?_
        refine r_upd (i := 6) (v := (.int .i64 i6)) rfl ?_
        refine r_upd (i := 7) (v := (.int .i64 j7)) rfl ?_
        refine r_upd (i := 30) (v := (.bool v_12)) rfl ?_
        exact J4 (data0, a1, b2, i6, j7, v_12) _ _ H
      · clear H; intro hb6 H
        refine xa_skip 4 (by decide +kernel) rfl rfl (wanted_no (d := 19) rfl rfl (by decide) rfl hb6) ?_
        refine xa_skip 5 (by decide +kernel) rfl rfl (wanted_no (d := 19) rfl rfl (by decide) rfl hb6) ?_
        refine xa_skip 6 (by decide +kernel) rfl rfl (wanted_no (d := 19) rfl rfl (by decide) rfl hb6) ?_
        refine xa_skip 7 (by decide +kernel) rfl rfl (wanted_no (d := 19) rfl rfl (by decide) rfl hb6) ?_
        refine xa_skip 8 (by decide +kernel) rfl rfl (wanted_no (d := 19) rfl rfl (by decide) rfl hb6) ?_
        refine xa_skip 9 (by decide +kernel) rfl rfl (wanted_no (d := 19) rfl rfl (by decide) rfl hb6) ?_
        refine xa_skip 10 (by decide +kernel) rfl rfl (wanted_no (d := 19) rfl rfl (by decide) rfl hb6) ?_
        refine xa_skip 11 (by decide +kernel) rfl rfl (wanted_no (d := 19) rfl rfl (by decide) rfl hb6) ?_
        refine xa_skip 12 (by decide +kernel) rfl rfl (wanted_no (d := 19) rfl rfl (by decide) rfl hb6) ?_
        refine xa_skip 13 (by decide +kernel) rfl rfl (wanted_no (d := 19) rfl rfl (by decide) rfl hb6) ?_
        refine xa_pure (v := (.bool false)) 14 (by decide +kernel) rfl rfl (wanted_none rfl _) (p_pickF rfl rfl hb6 rfl) ?_
        refine xa_end (by decide +kernel) ?_
        refine r_upd (i := 0) (v := (Sl.v data0)) rfl ?_
        refine r_upd (i := 1) (v := (.int .i64 a1)) rfl ?_
        refine r_upd (i := 2) (v := (.int .i64 b2)) rfl ?_
        refine r_upd (i := 6) (v := (.int .i64 i6)) rfl ?_
        refine r_upd (i := 7) (v := (.int .i64 j7)) rfl ?_
        refine r_upd (i := 30) (v := (.bool false)) rfl ?_
        exact J4 (data0, a1, b2, i6, j7, false) _ _ H
  · clear H; intro hb2 H
    refine r_exit rfl ?_
    exact r_end (fn := Try.f208) Try.func208 (res_0 rfl ) H

/-! 209 slices.heapSortOrdered[string] -/
def slices_heapSortOrdered_string_b1 (R : Value → World → Prop) (ag1 : (Sl × Int × Int × Int × Int) → World → Prop) (ag3 : (Sl × Int × Int × Int) → World → Prop) (data0 : Sl) (first6 : Int) (lo7 : Int) (i10 : Int) (w : World) : Prop :=
  IfB (decide (0 ≤ i10)) (
    Ix data0 (IntKind.i64.wrap (first6 + i10)) fun p_2 =>
    Ld Value.string (some (p_2.add ((IntKind.i64.wrap (first6 + i10)).toNat * 1))) (World.drew w) fun v_3 =>
    Ix data0 first6 fun p_4 =>
    Ld Value.string (some (p_4.add (first6.toNat * 1))) (World.drew w) fun v_5 =>
    Ix data0 first6 fun p_6 =>
    St (some (p_6.add (first6.toNat * 1))) (.string v_3) (World.drew w) fun w_3 =>
    Ix data0 (IntKind.i64.wrap (first6 + i10)) fun p_7 =>
    St (some (p_7.add ((IntKind.i64.wrap (first6 + i10)).toNat * 1))) (.string v_5) w_3 fun w_4 =>
    CallF Try.prog 241 #[(Sl.v data0), (.int .i64 lo7), (.int .i64 i10), (.int .i64 first6)] w_4 fun _ w_5 =>
    ag3 (data0, first6, lo7, (IntKind.i64.wrap (i10 - 1))) w_5) (
    R (.tuple #[]) w)

def slices_heapSortOrdered_string_b0 (R : Value → World → Prop) (ag1 : (Sl × Int × Int × Int × Int) → World → Prop) (data0 : Sl) (first6 : Int) (lo7 : Int) (hi8 : Int) (i9 : Int) (w : World) : Prop :=
  IfB (decide (0 ≤ i9)) (
    CallF Try.prog 241 #[(Sl.v data0), (.int .i64 i9), (.int .i64 hi8), (.int .i64 first6)] w fun _ w_1 =>
    ag1 (data0, first6, lo7, hi8, (IntKind.i64.wrap (i9 - 1))) w_1) (
    Lp (fun ag (s : Sl × Int × Int × Int) w => slices_heapSortOrdered_string_b1 R ag1 ag s.1 s.2.1 s.2.2.1 s.2.2.2 w) (data0, first6, lo7, (IntKind.i64.wrap (hi8 - 1))) w)

def slices_heapSortOrdered_string (R : Value → World → Prop) (data0 : Sl) (a1 : Int) (b2 : Int) (w : World) : Prop :=
  Lp (fun ag (s : Sl × Int × Int × Int × Int) w => slices_heapSortOrdered_string_b0 R ag s.1 s.2.1 s.2.2.1 s.2.2.2.1 s.2.2.2.2 w) (data0, a1, 0, (IntKind.i64.wrap (b2 - a1)), (IntKind.i64.wrap (Int.tdiv (IntKind.i64.wrap ((IntKind.i64.wrap (b2 - a1)) - 1)) 2))) w

theorem slices_heapSortOrdered_string_ok (R : Value → World → Prop) (data0 : Sl) (a1 : Int) (b2 : Int) (w : World) (H : slices_heapSortOrdered_string R data0 a1 b2 w) : CallF Try.prog 209 #[(Sl.v data0), (.int .i64 a1), (.int .i64 b2)] w R := by
  refine calls_of_runs (fn := Try.f209) Try.func209 rfl (Nat.le_of_ble_eq_true rfl) ?_
  show Runs _ _ 56 _ _ _ _
  unfold slices_heapSortOrdered_string at H
  refine r_upd (i := 0) (v := (Sl.v data0)) rfl ?_
  refine r_upd (i := 1) (v := (.int .i64 a1)) rfl ?_
  refine r_upd (i := 2) (v := (.int .i64 b2)) rfl ?_
  refine r_seq ?_
  refine r_region ?_
  refine xo_pure (v := (.int .i64 a1)) rfl (wanted_none rfl _) (p_move rfl rfl) ?_
  refine xo_pure (v := (.int .i64 a1)) rfl (wanted_none rfl _) (p_assign rfl rfl) ?_
  refine xo_end ?_
  refine r_seq ?_
  refine r_region ?_
  refine xo_pure (v := (.int .i64 0)) rfl (wanted_none rfl _) (p_assign rfl rfl) ?_
  refine xo_end ?_
  refine r_seq ?_
  refine r_region ?_
  refine xo_pure (v := (.int .i64 b2)) rfl (wanted_none rfl _) (p_move rfl rfl) ?_
  refine xo_pure (v := (.int .i64 a1)) rfl (wanted_none rfl _) (p_move rfl rfl) ?_
  refine xo_pure (v := (.int .i64 (IntKind.i64.wrap (b2 - a1)))) rfl (wanted_none rfl _) (p_sub rfl rfl rfl) ?_
  refine xo_pure (v := (.int .i64 (IntKind.i64.wrap (b2 - a1)))) rfl (wanted_none rfl _) (p_assign rfl rfl) ?_
  refine xo_end ?_
  refine r_seq ?_
  refine r_seq ?_
  refine r_region ?_
  refine xo_pure (v := (.int .i64 (IntKind.i64.wrap (b2 - a1)))) rfl (wanted_none rfl _) (p_move rfl rfl) ?_
  refine xo_pure (v := (.int .i64 (IntKind.i64.wrap ((IntKind.i64.wrap (b2 - a1)) - 1)))) rfl (wanted_none rfl _) (p_sub rfl rfl rfl) ?_
  refine xo_pure (v := (.int .i64 (IntKind.i64.wrap (Int.tdiv (IntKind.i64.wrap ((IntKind.i64.wrap (b2 - a1)) - 1)) 2)))) rfl (wanted_none rfl _) (p_quo rfl rfl rfl (by decide)) ?_
  refine xo_pure (v := (.int .i64 (IntKind.i64.wrap (Int.tdiv (IntKind.i64.wrap ((IntKind.i64.wrap (b2 - a1)) - 1)) 2)))) rfl (wanted_none rfl _) (p_assign rfl rfl) ?_
  refine xo_end ?_
  refine r_block ?_
  refine r_upd (i := 0) (v := (Sl.v data0)) rfl ?_
  refine r_upd (i := 6) (v := (.int .i64 a1)) rfl ?_
  refine r_upd (i := 7) (v := (.int .i64 0)) rfl ?_
  refine r_upd (i := 8) (v := (.int .i64 (IntKind.i64.wrap (b2 - a1)))) rfl ?_
  refine r_upd (i := 9) (v := (.int .i64 (IntKind.i64.wrap (Int.tdiv (IntKind.i64.wrap ((IntKind.i64.wrap (b2 - a1)) - 1)) 2)))) rfl ?_
  refine r_loopJ (fun (s : Sl × Int × Int × Int × Int) σ => upd 9 (.int .i64 s.2.2.2.2) (upd 8 (.int .i64 s.2.2.2.1) (upd 7 (.int .i64 s.2.2.1) (upd 6 (.int .i64 s.2.1) (upd 0 (Sl.v s.1) (σ)))))) (s := (data0, a1, 0, (IntKind.i64.wrap (b2 - a1)), (IntKind.i64.wrap (Int.tdiv (IntKind.i64.wrap ((IntKind.i64.wrap (b2 - a1)) - 1)) 2)))) H ?_
  clear H
  rintro ag1 ⟨data0, first6, lo7, hi8, i9⟩ σ w H hag1
  replace H : slices_heapSortOrdered_string_b0 R ag1 data0 first6 lo7 hi8 i9 w := H
  show Runs _ _ _ _ _ (upd 9 (.int .i64 i9) (upd 8 (.int .i64 hi8) (upd 7 (.int .i64 lo7) (upd 6 (.int .i64 first6) (upd 0 (Sl.v data0) (σ)))))) _
  unfold slices_heapSortOrdered_string_b0 at H
  refine r_seq ?_
  refine r_seq ?_
  refine r_region ?_
  refine xo_pure (v := (.int .i64 i9)) rfl (wanted_none rfl _) (p_move rfl rfl) ?_
  refine xo_pure (v := (.bool (decide (0 ≤ i9)))) rfl (wanted_none rfl _) (p_ge rfl rfl rfl) ?_
  refine xo_end ?_
  refine r_condB (b := (decide (0 ≤ i9))) rfl H ?_ ?_
  · clear H; intro hb2 H
    refine r_skip ?_
    refine r_seq ?_
    refine r_block ?_
    refine r_region ?_
    refine xo_pure (v := (Sl.v data0)) rfl (wanted_none rfl _) (p_move rfl rfl) ?_
    refine xo_pure (v := (.int .i64 i9)) rfl (wanted_none rfl _) (p_move rfl rfl) ?_
    refine xo_pure (v := (.int .i64 hi8)) rfl (wanted_none rfl _) (p_move rfl rfl) ?_
    refine xo_pure (v := (.int .i64 first6)) rfl (wanted_none rfl _) (p_move rfl rfl) ?_
    refine xo_eff rfl (wanted_none rfl _) (e_call (fn := Try.f241) H rfl rfl Try.func241 rfl rfl rfl) ?_
    intro _ w_1 H
    refine xo_end ?_
    refine r_inBlock ?_
    refine r_region ?_
    refine xo_pure (v := (.int .i64 i9)) rfl (wanted_none rfl _) (p_move rfl rfl) ?_
    refine xo_pure (v := (.int .i64 (IntKind.i64.wrap (i9 - 1)))) rfl (wanted_none rfl _) (p_sub rfl rfl rfl) ?_
    refine xo_pure (v := (.int .i64 (IntKind.i64.wrap (i9 - 1)))) rfl (wanted_none rfl _) (p_assign rfl rfl) ?_
    refine xo_end ?_
    refine r_upd (i := 0) (v := (Sl.v data0)) rfl ?_
    refine r_upd (i := 6) (v := (.int .i64 first6)) rfl ?_
    refine r_upd (i := 7) (v := (.int .i64 lo7)) rfl ?_
    refine r_upd (i := 8) (v := (.int .i64 hi8)) rfl ?_
    refine r_upd (i := 9) (v := (.int .i64 (IntKind.i64.wrap (i9 - 1)))) rfl ?_
    exact hag1 (data0, first6, lo7, hi8, (IntKind.i64.wrap (i9 - 1))) _ _ H
  · clear H; intro hb2 H
    refine r_exit rfl ?_
    refine r_seq ?_
    refine r_region ?_
    refine xo_pure (v := (.int .i64 hi8)) rfl (wanted_none rfl _) (p_move rfl rfl) ?_
    refine xo_pure (v := (.int .i64 (IntKind.i64.wrap (hi8 - 1)))) rfl (wanted_none rfl _) (p_sub rfl rfl rfl) ?_
    refine xo_pure (v := (.int .i64 (IntKind.i64.wrap (hi8 - 1)))) rfl (wanted_none rfl _) (p_assign rfl rfl) ?_
    refine xo_end ?_
    refine r_block ?_
    refine r_upd (i := 0) (v := (Sl.v data0)) rfl ?_
    refine r_upd (i := 6) (v := (.int .i64 first6)) rfl ?_
    refine r_upd (i := 7) (v := (.int .i64 lo7)) rfl ?_
    refine r_upd (i := 10) (v := (.int .i64 (IntKind.i64.wrap (hi8 - 1)))) rfl ?_
    refine r_loopJ (fun (s : Sl × Int × Int × Int) σ => upd 10 (.int .i64 s.2.2.2) (upd 7 (.int .i64 s.2.2.1) (upd 6 (.int .i64 s.2.1) (upd 0 (Sl.v s.1) (σ))))) (s := (data0, first6, lo7, (IntKind.i64.wrap (hi8 - 1)))) H ?_
    clear H
    rintro ag3 ⟨data0, first6, lo7, i10⟩ σ w H hag3
    replace H : slices_heapSortOrdered_string_b1 R ag1 ag3 data0 first6 lo7 i10 w := H
    show Runs _ _ _ _ _ (upd 10 (.int .i64 i10) (upd 7 (.int .i64 lo7) (upd 6 (.int .i64 first6) (upd 0 (Sl.v data0) (σ))))) _
    unfold slices_heapSortOrdered_string_b1 at H
    refine r_seq ?_
    refine r_seq ?_
    refine r_region ?_
    refine xo_pure (v := (.int .i64 i10)) rfl (wanted_none rfl _) (p_move rfl rfl) ?_
    refine xo_pure (v := (.bool (decide (0 ≤ i10)))) rfl (wanted_none rfl _) (p_ge rfl rfl rfl) ?_
    refine xo_end ?_
    refine r_condB (b := (decide (0 ≤ i10))) rfl H ?_ ?_
    · clear H; intro hb4 H
      refine r_skip ?_
      refine r_seq ?_
      refine r_block ?_
      refine r_seq ?_
      refine r_draw #[[], [], [], [], [], [3, 4], [], [], [], [7, 8], [6, 7, 8, 9], [6, 7, 8, 9, 10], [], [], [12, 13], [12, 13, 14], [0, 1, 6, 7, 8, 9, 10, 11, 12, 13, 14, 15], [0, 1, 6, 7, 8, 9, 10, 11, 12, 13, 14, 15, 16], [0, 1, 2, 3, 4, 5, 6, 7, 8, 9, 10, 11, 12, 13, 14, 15, 16, 17], [0, 1, 2, 3, 4, 5, 6, 7, 8, 9, 10, 11, 12, 13, 14, 15, 16, 17, 18]] 20 rfl rfl ?_
      refine xa_pure (v := (Sl.v data0)) 0 (by decide +kernel) rfl rfl (wanted_none rfl _) (p_move rfl rfl) ?_
      refine xa_pure (v := (.int .i64 first6)) 1 (by decide +kernel) rfl rfl (wanted_none rfl _) (p_move rfl rfl) ?_
      refine xa_pure (v := (Sl.v data0)) 2 (by decide +kernel) rfl rfl (wanted_none rfl _) (p_move rfl rfl) ?_
      refine xa_pure (v := (.int .i64 first6)) 3 (by decide +kernel) rfl rfl (wanted_none rfl _) (p_move rfl rfl) ?_
      refine xa_pure (v := (.int .i64 i10)) 4 (by decide +kernel) rfl rfl (wanted_none rfl _) (p_move rfl rfl) ?_
      refine xa_pure (v := (.int .i64 (IntKind.i64.wrap (first6 + i10)))) 5 (by decide +kernel) rfl rfl (wanted_none rfl _) (p_add rfl rfl rfl) ?_
      refine xa_pure (v := (Sl.v data0)) 6 (by decide +kernel) rfl rfl (wanted_none rfl _) (p_move rfl rfl) ?_
      refine xa_pure (v := (.int .i64 first6)) 7 (by decide +kernel) rfl rfl (wanted_none rfl _) (p_move rfl rfl) ?_
      refine xa_pure (v := (.int .i64 i10)) 8 (by decide +kernel) rfl rfl (wanted_none rfl _) (p_move rfl rfl) ?_
      refine xa_pure (v := (.int .i64 (IntKind.i64.wrap (first6 + i10)))) 9 (by decide +kernel) rfl rfl (wanted_none rfl _) (p_add rfl rfl rfl) ?_
      obtain ⟨p_2, hap_2, hlp_2, hup_2, H⟩ := H
      refine xa_pure (v := (.pointer (some (p_2.add ((IntKind.i64.wrap (first6 + i10)).toNat * 1))))) 10 (by decide +kernel) rfl rfl (wanted_none rfl _) (p_indexAddr (s := data0) (ad := p_2) (size := 1) rfl Try.underlying71 Try.ti9 rfl rfl hap_2 hlp_2 hup_2) ?_
      obtain ⟨adv_3, v_3, hev_3, hcv_3, H⟩ := H
      refine xa_read (v := (.string v_3)) (S := (fun w => w.cell? adv_3 = some (.string v_3))) 11 (by decide +kernel) rfl rfl (wanted_none rfl _) (fun w hc => rd_load (ad := adv_3) rfl Try.underlying9 rfl (by show Value.pointer _ = _; rw [hev_3]) hc) hcv_3 ?_
      refine xa_pure (v := (Sl.v data0)) 12 (by decide +kernel) rfl rfl (wanted_none rfl _) (p_move rfl rfl) ?_
      refine xa_pure (v := (.int .i64 first6)) 13 (by decide +kernel) rfl rfl (wanted_none rfl _) (p_move rfl rfl) ?_
      obtain ⟨p_4, hap_4, hlp_4, hup_4, H⟩ := H
      refine xa_pure (v := (.pointer (some (p_4.add (first6.toNat * 1))))) 14 (by decide +kernel) rfl rfl (wanted_none rfl _) (p_indexAddr (s := data0) (ad := p_4) (size := 1) rfl Try.underlying71 Try.ti9 rfl rfl hap_4 hlp_4 hup_4) ?_
      obtain ⟨adv_5, v_5, hev_5, hcv_5, H⟩ := H
      refine xa_read (v := (.string v_5)) (S := (fun w => w.cell? adv_5 = some (.string v_5))) 15 (by decide +kernel) rfl rfl (wanted_none rfl _) (fun w hc => rd_load (ad := adv_5) rfl Try.underlying9 rfl (by show Value.pointer _ = _; rw [hev_5]) hc) hcv_5 ?_
      obtain ⟨p_6, hap_6, hlp_6, hup_6, H⟩ := H
      refine xa_pure (v := (.pointer (some (p_6.add (first6.toNat * 1))))) 16 (by decide +kernel) rfl rfl (wanted_none rfl _) (p_indexAddr (s := data0) (ad := p_6) (size := 1) rfl Try.underlying71 Try.ti9 rfl rfl hap_6 hlp_6 hup_6) ?_
      refine xa_effN 17 [] (by decide +kernel) rfl rfl rfl (wanted_none rfl _) (e_store rfl Try.ti9 rfl rfl rfl H) ?_
      intro _ w_3 H
      refine ⟨AllHeld.nil, ?_⟩
      obtain ⟨p_7, hap_7, hlp_7, hup_7, H⟩ := H
      refine xa_pure (v := (.pointer (some (p_7.add ((IntKind.i64.wrap (first6 + i10)).toNat * 1))))) 18 (by decide +kernel) rfl rfl (wanted_none rfl _) (p_indexAddr (s := data0) (ad := p_7) (size := 1) rfl Try.underlying71 Try.ti9 rfl rfl hap_7 hlp_7 hup_7) ?_
      refine xa_effN 19 [] (by decide +kernel) rfl rfl rfl (wanted_none rfl _) (e_store rfl Try.ti9 rfl rfl rfl H) ?_
      intro _ w_4 H
      refine ⟨AllHeld.nil, ?_⟩
      refine xa_end (by decide +kernel) ?_
      refine r_region ?_
      refine xo_pure (v := (Sl.v data0)) rfl (wanted_none rfl _) (p_move rfl rfl) ?_
      refine xo_pure (v := (.int .i64 lo7)) rfl (wanted_none rfl _) (p_move rfl rfl) ?_
      refine xo_pure (v := (.int .i64 i10)) rfl (wanted_none rfl _) (p_move rfl rfl) ?_
      refine xo_pure (v := (.int .i64 first6)) rfl (wanted_none rfl _) (p_move rfl rfl) ?_
      refine xo_eff rfl (wanted_none rfl _) (e_call (fn := Try.f241) H rfl rfl Try.func241 rfl rfl rfl) ?_
      intro _ w_5 H
      refine xo_end ?_
      refine r_inBlock ?_
      refine r_region ?_
      refine xo_pure (v := (.int .i64 i10)) rfl (wanted_none rfl _) (p_move rfl rfl) ?_
      refine xo_pure (v := (.int .i64 (IntKind.i64.wrap (i10 - 1)))) rfl (wanted_none rfl _) (p_sub rfl rfl rfl) ?_
      refine xo_pure (v := (.int .i64 (IntKind.i64.wrap (i10 - 1)))) rfl (wanted_none rfl _) (p_assign rfl rfl) ?_
      refine xo_end ?_
      refine r_upd (i := 0) (v := (Sl.v data0)) rfl ?_
      refine r_upd (i := 6) (v := (.int .i64 first6)) rfl ?_
      refine r_upd (i := 7) (v := (.int .i64 lo7)) rfl ?_
      refine r_upd (i := 10) (v := (.int .i64 (IntKind.i64.wrap (i10 - 1)))) rfl ?_
      exact hag3 (data0, first6, lo7, (IntKind.i64.wrap (i10 - 1))) _ _ H
    · clear H; intro hb4 H
      refine r_exit rfl ?_
      exact r_end (fn := Try.f209) Try.func209 (res_0 rfl ) H

/-! 210 slices.breakPatternsOrdered[string] -/
def slices_breakPatternsOrdered_string_k1 (R : Value → World → Prop) (ag2 : (Sl × Int × Int × Option Addr × Int × Int) → World → Prop) (data0 : Sl) (a1 : Int) (length6 : Int) (random7 : Option Addr) (modulus8 : Int) (idx9 : Int) (other10 : Int) (w : World) : Prop :=
  Ix data0 (IntKind.i64.wrap (a1 + other10)) fun p_6 =>
  Ld Value.string (some (p_6.add ((IntKind.i64.wrap (a1 + other10)).toNat * 1))) (World.drew w) fun v_7 =>
  Ix data0 idx9 fun p_8 =>
  Ld Value.string (some (p_8.add (idx9.toNat * 1))) (World.drew w) fun v_9 =>
  Ix data0 idx9 fun p_10 =>
  St (some (p_10.add (idx9.toNat * 1))) (.string v_7) (World.drew w) fun w_6 =>
  Ix data0 (IntKind.i64.wrap (a1 + other10)) fun p_11 =>
  St (some (p_11.add ((IntKind.i64.wrap (a1 + other10)).toNat * 1))) (.string v_9) w_6 fun w_7 =>
  ag2 (data0, a1, length6, random7, modulus8, (IntKind.i64.wrap (idx9 + 1))) w_7

def slices_breakPatternsOrdered_string_b0 (R : Value → World → Prop) (ag2 : (Sl × Int × Int × Option Addr × Int × Int) → World → Prop) (data0 : Sl) (a1 : Int) (length6 : Int) (random7 : Option Addr) (modulus8 : Int) (idx9 : Int) (w : World) : Prop :=
  IfB (decide (idx9 ≤ (IntKind.i64.wrap ((IntKind.i64.wrap (a1 + (IntKind.i64.wrap ((IntKind.i64.wrap (Int.tdiv length6 4)) * 2)))) + 1)))) (
    CallF Try.prog 243 #[(.pointer random7)] w fun u_4 w_4 => As (Value.int .u64) u_4 fun v_5 =>
    IfB (decide (length6 ≤ (IntKind.i64.wrap (andK .u64 v_5 (IntKind.u64.wrap (modulus8 - 1)))))) (
      slices_breakPatternsOrdered_string_k1 R ag2 data0 a1 length6 random7 modulus8 idx9 (IntKind.i64.wrap ((IntKind.i64.wrap (andK .u64 v_5 (IntKind.u64.wrap (modulus8 - 1)))) - length6)) w_4) (
      slices_breakPatternsOrdered_string_k1 R ag2 data0 a1 length6 random7 modulus8 idx9 (IntKind.i64.wrap (andK .u64 v_5 (IntKind.u64.wrap (modulus8 - 1)))) w_4)) (
    R (.tuple #[]) w)

def slices_breakPatternsOrdered_string (R : Value → World → Prop) (data0 : Sl) (a1 : Int) (b2 : Int) (w : World) : Prop :=
  IfB (decide (8 ≤ (IntKind.i64.wrap (b2 - a1)))) (
    New #[(.int .u64 0)] 336 w fun a_1 w_1 =>
    St (some a_1) (.int .u64 (IntKind.u64.wrap (IntKind.i64.wrap (b2 - a1)))) w_1 fun w_2 =>
    CallF Try.prog 242 #[(.int .i64 (IntKind.i64.wrap (b2 - a1)))] w_2 fun u_2 w_3 => As (Value.int .u64) u_2 fun v_3 =>
    Lp (fun ag (s : Sl × Int × Int × Option Addr × Int × Int) w => slices_breakPatternsOrdered_string_b0 R ag s.1 s.2.1 s.2.2.1 s.2.2.2.1 s.2.2.2.2.1 s.2.2.2.2.2 w) (data0, a1, (IntKind.i64.wrap (b2 - a1)), (some a_1), v_3, (IntKind.i64.wrap ((IntKind.i64.wrap (a1 + (IntKind.i64.wrap ((IntKind.i64.wrap (Int.tdiv (IntKind.i64.wrap (b2 - a1)) 4)) * 2)))) - 1))) w_3) (
    R (.tuple #[]) w)

theorem slices_breakPatternsOrdered_string_ok (R : Value → World → Prop) (data0 : Sl) (a1 : Int) (b2 : Int) (w : World) (H : slices_breakPatternsOrdered_string R data0 a1 b2 w) : CallF Try.prog 210 #[(Sl.v data0), (.int .i64 a1), (.int .i64 b2)] w R := by
  refine calls_of_runs (fn := Try.f210) Try.func210 rfl (Nat.le_of_ble_eq_true rfl) ?_
  show Runs _ _ 65 _ _ _ _
  unfold slices_breakPatternsOrdered_string at H
  refine r_upd (i := 0) (v := (Sl.v data0)) rfl ?_
  refine r_upd (i := 1) (v := (.int .i64 a1)) rfl ?_
  refine r_upd (i := 2) (v := (.int .i64 b2)) rfl ?_
  refine r_seq ?_
  refine r_region ?_
  refine xo_pure (v := (.int .i64 b2)) rfl (wanted_none rfl _) (p_move rfl rfl) ?_
  refine xo_pure (v := (.int .i64 a1)) rfl (wanted_none rfl _) (p_move rfl rfl) ?_
  refine xo_pure (v := (.int .i64 (IntKind.i64.wrap (b2 - a1)))) rfl (wanted_none rfl _) (p_sub rfl rfl rfl) ?_
  refine xo_pure (v := (.int .i64 (IntKind.i64.wrap (b2 - a1)))) rfl (wanted_none rfl _) (p_assign rfl rfl) ?_
  refine xo_end ?_
  refine r_seq ?_
  refine r_region ?_
  refine xo_pure (v := (.int .i64 (IntKind.i64.wrap (b2 - a1)))) rfl (wanted_none rfl _) (p_move rfl rfl) ?_
  refine xo_pure (v := (.bool (decide (8 ≤ (IntKind.i64.wrap (b2 - a1)))))) rfl (wanted_none rfl _) (p_ge rfl rfl rfl) ?_
  refine xo_end ?_
  refine r_condB (b := (decide (8 ≤ (IntKind.i64.wrap (b2 - a1))))) rfl H ?_ ?_
  · clear H; intro hb1 H
    refine r_seq ?_
    refine r_region ?_
    refine xo_pure (v := (.int .i64 (IntKind.i64.wrap (b2 - a1)))) rfl (wanted_none rfl _) (p_move rfl rfl) ?_
    refine xo_pure (v := (.int .u64 (IntKind.u64.wrap (IntKind.i64.wrap (b2 - a1))))) rfl (wanted_none rfl _) (p_conv rfl Try.underlying3 Try.underlying336 rfl) ?_
    refine xo_eff rfl (wanted_none rfl _) (e_alloc rfl Try.ti336 H) ?_
    rintro _ w_1 ⟨a_1, rfl, H⟩
    refine xo_effN rfl (wanted_none rfl _) (e_store rfl Try.ti336 rfl rfl rfl H) ?_
    intro _ w_2 H
    refine xo_end ?_
    refine r_seq ?_
    refine r_region ?_
    refine xo_pure (v := (.int .i64 (IntKind.i64.wrap (b2 - a1)))) rfl (wanted_none rfl _) (p_move rfl rfl) ?_
    refine xo_eff rfl (wanted_none rfl _) (e_call (fn := Try.f242) H rfl rfl Try.func242 rfl rfl rfl) ?_
    rintro _ w_3 ⟨v_3, rfl, H⟩
    refine xo_pure (v := (.int .u64 v_3)) rfl (wanted_none rfl _) (p_assign rfl rfl) ?_
    refine xo_end ?_
    refine r_seq ?_
    refine r_region ?_
    refine xo_pure (v := (.int .i64 a1)) rfl (wanted_none rfl _) (p_move rfl rfl) ?_
    refine xo_pure (v := (.int .i64 (IntKind.i64.wrap (b2 - a1)))) rfl (wanted_none rfl _) (p_move rfl rfl) ?_
    refine xo_pure (v := (.int .i64 (IntKind.i64.wrap (Int.tdiv (IntKind.i64.wrap (b2 - a1)) 4)))) rfl (wanted_none rfl _) (p_quo rfl rfl rfl (by decide)) ?_
    refine xo_pure (v := (.int .i64 (IntKind.i64.wrap ((IntKind.i64.wrap (Int.tdiv (IntKind.i64.wrap (b2 - a1)) 4)) * 2)))) rfl (wanted_none rfl _) (p_mul rfl rfl rfl) ?_
    refine xo_pure (v := (.int .i64 (IntKind.i64.wrap (a1 + (IntKind.i64.wrap ((IntKind.i64.wrap (Int.tdiv (IntKind.i64.wrap (b2 - a1)) 4)) * 2)))))) rfl (wanted_none rfl _) (p_add rfl rfl rfl) ?_
    refine xo_pure (v := (.int .i64 (IntKind.i64.wrap ((IntKind.i64.wrap (a1 + (IntKind.i64.wrap ((IntKind.i64.wrap (Int.tdiv (IntKind.i64.wrap (b2 - a1)) 4)) * 2)))) - 1)))) rfl (wanted_none rfl _) (p_sub rfl rfl rfl) ?_
    refine xo_pure (v := (.int .i64 (IntKind.i64.wrap ((IntKind.i64.wrap (a1 + (IntKind.i64.wrap ((IntKind.i64.wrap (Int.tdiv (IntKind.i64.wrap (b2 - a1)) 4)) * 2)))) - 1)))) rfl (wanted_none rfl _) (p_assign rfl rfl) ?_
    refine xo_end ?_
    refine r_block ?_
    refine r_upd (i := 0) (v := (Sl.v data0)) rfl ?_
    refine r_upd (i := 1) (v := (.int .i64 a1)) rfl ?_
    refine r_upd (i := 6) (v := (.int .i64 (IntKind.i64.wrap (b2 - a1)))) rfl ?_
    refine r_upd (i := 7) (v := (.pointer (some a_1))) rfl ?_
    refine r_upd (i := 8) (v := (.int .u64 v_3)) rfl ?_
    refine r_upd (i := 9) (v := (.int .i64 (IntKind.i64.wrap ((IntKind.i64.wrap (a1 + (IntKind.i64.wrap ((IntKind.i64.wrap (Int.tdiv (IntKind.i64.wrap (b2 - a1)) 4)) * 2)))) - 1)))) rfl ?_
    refine r_loopJ (fun (s : Sl × Int × Int × Option Addr × Int × Int) σ => upd 9 (.int .i64 s.2.2.2.2.2) (upd 8 (.int .u64 s.2.2.2.2.1) (upd 7 (.pointer s.2.2.2.1) (upd 6 (.int .i64 s.2.2.1) (upd 1 (.int .i64 s.2.1) (upd 0 (Sl.v s.1) (σ))))))) (s := (data0, a1, (IntKind.i64.wrap (b2 - a1)), (some a_1), v_3, (IntKind.i64.wrap ((IntKind.i64.wrap (a1 + (IntKind.i64.wrap ((IntKind.i64.wrap (Int.tdiv (IntKind.i64.wrap (b2 - a1)) 4)) * 2)))) - 1)))) H ?_
    clear H
    rintro ag2 ⟨data0, a1, length6, random7, modulus8, idx9⟩ σ w H hag2
    replace H : slices_breakPatternsOrdered_string_b0 R ag2 data0 a1 length6 random7 modulus8 idx9 w := H
    show Runs _ _ _ _ _ (upd 9 (.int .i64 idx9) (upd 8 (.int .u64 modulus8) (upd 7 (.pointer random7) (upd 6 (.int .i64 length6) (upd 1 (.int .i64 a1) (upd 0 (Sl.v data0) (σ))))))) _
    unfold slices_breakPatternsOrdered_string_b0 at H
    refine r_seq ?_
    refine r_seq ?_
    refine r_region ?_
    refine xo_pure (v := (.int .i64 idx9)) rfl (wanted_none rfl _) (p_move rfl rfl) ?_
    refine xo_pure (v := (.int .i64 a1)) rfl (wanted_none rfl _) (p_move rfl rfl) ?_
    refine xo_pure (v := (.int .i64 length6)) rfl (wanted_none rfl _) (p_move rfl rfl) ?_
    refine xo_pure (v := (.int .i64 (IntKind.i64.wrap (Int.tdiv length6 4)))) rfl (wanted_none rfl _) (p_quo rfl rfl rfl (by decide)) ?_
    refine xo_pure (v := (.int .i64 (IntKind.i64.wrap ((IntKind.i64.wrap (Int.tdiv length6 4)) * 2)))) rfl (wanted_none rfl _) (p_mul rfl rfl rfl) ?_
    refine xo_pure (v := (.int .i64 (IntKind.i64.wrap (a1 + (IntKind.i64.wrap ((IntKind.i64.wrap (Int.tdiv length6 4)) * 2)))))) rfl (wanted_none rfl _) (p_add rfl rfl rfl) ?_
    refine xo_pure (v := (.int .i64 (IntKind.i64.wrap ((IntKind.i64.wrap (a1 + (IntKind.i64.wrap ((IntKind.i64.wrap (Int.tdiv length6 4)) * 2)))) + 1)))) rfl (wanted_none rfl _) (p_add rfl rfl rfl) ?_
    refine xo_pure (v := (.bool (decide (idx9 ≤ (IntKind.i64.wrap ((IntKind.i64.wrap (a1 + (IntKind.i64.wrap ((IntKind.i64.wrap (Int.tdiv length6 4)) * 2)))) + 1)))))) rfl (wanted_none rfl _) (p_le rfl rfl rfl) ?_
    refine xo_end ?_
    refine r_condB (b := (decide (idx9 ≤ (IntKind.i64.wrap ((IntKind.i64.wrap (a1 + (IntKind.i64.wrap ((IntKind.i64.wrap (Int.tdiv length6 4)) * 2)))) + 1))))) rfl H ?_ ?_
    · clear H; intro hb3 H
      refine r_skip ?_
      refine r_seq ?_
      refine r_block ?_
      refine r_seq ?_
      refine r_region ?_
      refine xo_eff rfl (wanted_none rfl _) (e_call (fn := Try.f243) H rfl rfl Try.func243 rfl rfl rfl) ?_
      rintro _ w_4 ⟨v_5, rfl, H⟩
      refine xo_pure (v := (.int .u64 modulus8)) rfl (wanted_none rfl _) (p_move rfl rfl) ?_
      refine xo_pure (v := (.int .u64 (IntKind.u64.wrap (modulus8 - 1)))) rfl (wanted_none rfl _) (p_sub rfl rfl rfl) ?_
      refine xo_pure (v := (.int .u64 (andK .u64 v_5 (IntKind.u64.wrap (modulus8 - 1))))) rfl (wanted_none rfl _) (p_and rfl rfl rfl) ?_
      refine xo_pure (v := (.int .i64 (IntKind.i64.wrap (andK .u64 v_5 (IntKind.u64.wrap (modulus8 - 1)))))) rfl (wanted_none rfl _) (p_conv rfl Try.underlying234 Try.underlying3 rfl) ?_
      refine xo_pure (v := (.int .i64 (IntKind.i64.wrap (andK .u64 v_5 (IntKind.u64.wrap (modulus8 - 1)))))) rfl (wanted_none rfl _) (p_assign rfl rfl) ?_
      refine xo_end ?_
      refine r_seqJ (fun (s : Sl × Int × Int × Option Addr × Int × Int × Int) σ => upd 10 (.int .i64 s.2.2.2.2.2.2) (upd 9 (.int .i64 s.2.2.2.2.2.1) (upd 8 (.int .u64 s.2.2.2.2.1) (upd 7 (.pointer s.2.2.2.1) (upd 6 (.int .i64 s.2.2.1) (upd 1 (.int .i64 s.2.1) (upd 0 (Sl.v s.1) (σ)))))))) (fun (s : Sl × Int × Int × Option Addr × Int × Int × Int) w => slices_breakPatternsOrdered_string_k1 R ag2 s.1 s.2.1 s.2.2.1 s.2.2.2.1 s.2.2.2.2.1 s.2.2.2.2.2.1 s.2.2.2.2.2.2 w) ?_ ?_
      · rintro ⟨data0, a1, length6, random7, modulus8, idx9, other10⟩ σ w H
        replace H : slices_breakPatternsOrdered_string_k1 R ag2 data0 a1 length6 random7 modulus8 idx9 other10 w := H
        show Runs _ _ _ _ _ (upd 10 (.int .i64 other10) (upd 9 (.int .i64 idx9) (upd 8 (.int .u64 modulus8) (upd 7 (.pointer random7) (upd 6 (.int .i64 length6) (upd 1 (.int .i64 a1) (upd 0 (Sl.v data0) (σ)))))))) _
        unfold slices_breakPatternsOrdered_string_k1 at H
        refine r_draw #[[], [], [], [], [], [3, 4], [], [], [], [7, 8], [6, 7, 8, 9], [6, 7, 8, 9, 10], [], [], [12, 13], [12, 13, 14], [0, 1, 6, 7, 8, 9, 10, 11, 12, 13, 14, 15], [0, 1, 6, 7, 8, 9, 10, 11, 12, 13, 14, 15, 16], [0, 1, 2, 3, 4, 5, 6, 7, 8, 9, 10, 11, 12, 13, 14, 15, 16, 17], [0, 1, 2, 3, 4, 5, 6, 7, 8, 9, 10, 11, 12, 13, 14, 15, 16, 17, 18]] 20 rfl rfl ?_
        refine xa_pure (v := (Sl.v data0)) 0 (by decide +kernel) rfl rfl (wanted_none rfl _) (p_move rfl rfl) ?_
        refine xa_pure (v := (.int .i64 idx9)) 1 (by decide +kernel) rfl rfl (wanted_none rfl _) (p_move rfl rfl) ?_
        refine xa_pure (v := (Sl.v data0)) 2 (by decide +kernel) rfl rfl (wanted_none rfl _) (p_move rfl rfl) ?_
        refine xa_pure (v := (.int .i64 a1)) 3 (by decide +kernel) rfl rfl (wanted_none rfl _) (p_move rfl rfl) ?_
        refine xa_pure (v := (.int .i64 other10)) 4 (by decide +kernel) rfl rfl (wanted_none rfl _) (p_move rfl rfl) ?_
        refine xa_pure (v := (.int .i64 (IntKind.i64.wrap (a1 + other10)))) 5 (by decide +kernel) rfl rfl (wanted_none rfl _) (p_add rfl rfl rfl) ?_
        refine xa_pure (v := (Sl.v data0)) 6 (by decide +kernel) rfl rfl (wanted_none rfl _) (p_move rfl rfl) ?_
        refine xa_pure (v := (.int .i64 a1)) 7 (by decide +kernel) rfl rfl (wanted_none rfl _) (p_move rfl rfl) ?_
        refine xa_pure (v := (.int .i64 other10)) 8 (by decide +kernel) rfl rfl (wanted_none rfl _) (p_move rfl rfl) ?_
        refine xa_pure (v := (.int .i64 (IntKind.i64.wrap (a1 + other10)))) 9 (by decide +kernel) rfl rfl (wanted_none rfl _) (p_add rfl rfl rfl) ?_
        obtain ⟨p_6, hap_6, hlp_6, hup_6, H⟩ := H
        refine xa_pure (v := (.pointer (some (p_6.add ((IntKind.i64.wrap (a1 + other10)).toNat * 1))))) 10 (by decide +kernel) rfl rfl (wanted_none rfl _) (p_indexAddr (s := data0) (ad := p_6) (size := 1) rfl Try.underlying71 Try.ti9 rfl rfl hap_6 hlp_6 hup_6) ?_
        obtain ⟨adv_7, v_7, hev_7, hcv_7, H⟩ := H
        refine xa_read (v := (.string v_7)) (S := (fun w => w.cell? adv_7 = some (.string v_7))) 11 (by decide +kernel) rfl rfl (wanted_none rfl _) (fun w hc => rd_load (ad := adv_7) rfl Try.underlying9 rfl (by show Value.pointer _ = _; rw [hev_7]) hc) hcv_7 ?_
        refine xa_pure (v := (Sl.v data0)) 12 (by decide +kernel) rfl rfl (wanted_none rfl _) (p_move rfl rfl) ?_
        refine xa_pure (v := (.int .i64 idx9)) 13 (by decide +kernel) rfl rfl (wanted_none rfl _) (p_move rfl rfl) ?_
        obtain ⟨p_8, hap_8, hlp_8, hup_8, H⟩ := H
        refine xa_pure (v := (.pointer (some (p_8.add (idx9.toNat * 1))))) 14 (by decide +kernel) rfl rfl (wanted_none rfl _) (p_indexAddr (s := data0) (ad := p_8) (size := 1) rfl Try.underlying71 Try.ti9 rfl rfl hap_8 hlp_8 hup_8) ?_
        obtain ⟨adv_9, v_9, hev_9, hcv_9, H⟩ := H
        refine xa_read (v := (.string v_9)) (S := (fun w => w.cell? adv_9 = some (.string v_9))) 15 (by decide +kernel) rfl rfl (wanted_none rfl _) (fun w hc => rd_load (ad := adv_9) rfl Try.underlying9 rfl (by show Value.pointer _ = _; rw [hev_9]) hc) hcv_9 ?_
        obtain ⟨p_10, hap_10, hlp_10, hup_10, H⟩ := H
        refine xa_pure (v := (.pointer (some (p_10.add (idx9.toNat * 1))))) 16 (by decide +kernel) rfl rfl (wanted_none rfl _) (p_indexAddr (s := data0) (ad := p_10) (size := 1) rfl Try.underlying71 Try.ti9 rfl rfl hap_10 hlp_10 hup_10) ?_
        refine xa_effN 17 [] (by decide +kernel) rfl rfl rfl (wanted_none rfl _) (e_store rfl Try.ti9 rfl rfl rfl H) ?_
        intro _ w_6 H
        refine ⟨AllHeld.nil, ?_⟩
        obtain ⟨p_11, hap_11, hlp_11, hup_11, H⟩ := H
        refine xa_pure (v := (.pointer (some (p_11.add ((IntKind.i64.wrap (a1 + other10)).toNat * 1))))) 18 (by decide +kernel) rfl rfl (wanted_none rfl _) (p_indexAddr (s := data0) (ad := p_11) (size := 1) rfl Try.underlying71 Try.ti9 rfl rfl hap_11 hlp_11 hup_11) ?_
        refine xa_effN 19 [] (by decide +kernel) rfl rfl rfl (wanted_none rfl _) (e_store rfl Try.ti9 rfl rfl rfl H) ?_
        intro _ w_7 H
        refine ⟨AllHeld.nil, ?_⟩
        refine xa_end (by decide +kernel) ?_
        refine r_inBlock ?_
        refine r_region ?_
        refine xo_pure (v := (.int .i64 idx9)) rfl (wanted_none rfl _) (p_move rfl rfl) ?_
        refine xo_pure (v := (.int .i64 (IntKind.i64.wrap (idx9 + 1)))) rfl (wanted_none rfl _) (p_add rfl rfl rfl) ?_
        refine xo_pure (v := (.int .i64 (IntKind.i64.wrap (idx9 + 1)))) rfl (wanted_none rfl _) (p_assign rfl rfl) ?_
        refine xo_end ?_
        refine r_upd (i := 0) (v := (Sl.v data0)) rfl ?_
        refine r_upd (i := 1) (v := (.int .i64 a1)) rfl ?_
        refine r_upd (i := 6) (v := (.int .i64 length6)) rfl ?_
        refine r_upd (i := 7) (v := (.pointer random7)) rfl ?_
        refine r_upd (i := 8) (v := (.int .u64 modulus8)) rfl ?_
        refine r_upd (i := 9) (v := (.int .i64 (IntKind.i64.wrap (idx9 + 1)))) rfl ?_
        exact hag2 (data0, a1, length6, random7, modulus8, (IntKind.i64.wrap (idx9 + 1))) _ _ H
      · intro J4
        refine r_seq ?_
        refine r_region ?_
        refine xo_pure (v := (.int .i64 (IntKind.i64.wrap (andK .u64 v_5 (IntKind.u64.wrap (modulus8 - 1)))))) rfl (wanted_none rfl _) (p_move rfl rfl) ?_
        refine xo_pure (v := (.int .i64 length6)) rfl (wanted_none rfl _) (p_move rfl rfl) ?_
        refine xo_pure (v := (.bool (decide (length6 ≤ (IntKind.i64.wrap (andK .u64 v_5 (IntKind.u64.wrap (modulus8 - 1)))))))) rfl (wanted_none rfl _) (p_ge rfl rfl rfl) ?_
        refine xo_end ?_
        refine r_condB (b := (decide (length6 ≤ (IntKind.i64.wrap (andK .u64 v_5 (IntKind.u64.wrap (modulus8 - 1))))))) rfl H ?_ ?_
        · clear H; intro hb5 H
          refine r_region ?_
          refine xo_pure (v := (.int .i64 (IntKind.i64.wrap (andK .u64 v_5 (IntKind.u64.wrap (modulus8 - 1)))))) rfl (wanted_none rfl _) (p_move rfl rfl) ?_
          refine xo_pure (v := (.int .i64 length6)) rfl (wanted_none rfl _) (p_move rfl rfl) ?_
          refine xo_pure (v := (.int .i64 (IntKind.i64.wrap ((IntKind.i64.wrap (andK .u64 v_5 (IntKind.u64.wrap (modulus8 - 1)))) - length6)))) rfl (wanted_none rfl _) (p_sub rfl rfl rfl) ?_
          refine xo_pure (v := (.int .i64 (IntKind.i64.wrap ((IntKind.i64.wrap (andK .u64 v_5 (IntKind.u64.wrap (modulus8 - 1)))) - length6)))) rfl (wanted_none rfl _) (p_assign rfl rfl) ?_
          refine xo_end ?_
          refine r_upd (i := 0) (v := (Sl.v data0)) rfl ?_
          refine r_upd (i := 1) (v := (.int .i64 a1)) rfl ?_
          refine r_upd (i := 6) (v := (.int .i64 length6)) rfl ?_
          refine r_upd (i := 7) (v := (.pointer random7)) rfl ?_
          refine r_upd (i := 8) (v := (.int .u64 modulus8)) rfl ?_
          refine r_upd (i := 9) (v := (.int .i64 idx9)) rfl ?_
          refine r_upd (i := 10) (v := (.int .i64 (IntKind.i64.wrap ((IntKind.i64.wrap (andK .u64 v_5 (IntKind.u64.wrap (modulus8 - 1)))) - length6)))) rfl ?_
          exact J4 (data0, a1, length6, random7, modulus8, idx9, (IntKind.i64.wrap ((IntKind.i64.wrap (andK .u64 v_5 (IntKind.u64.wrap (modulus8 - 1)))) - length6))) _ _ H
        · clear H; intro hb5 H
          refine r_skip ?_
          refine r_upd (i := 0) (v := (Sl.v data0)) rfl ?_
          refine r_upd (i := 1) (v := (.int .i64 a1)) rfl ?_
          refine r_upd (i := 6) (v := (.int .i64 length6)) rfl ?_
          refine r_upd (i := 7) (v := (.pointer random7)) rfl ?_
          refine r_upd (i := 8) (v := (.int .u64 modulus8)) rfl ?_
          refine r_upd (i := 9) (v := (.int .i64 idx9)) rfl ?_
          refine r_upd (i := 10) (v := (.int .i64 (IntKind.i64.wrap (andK .u64 v_5 (IntKind.u64.wrap (modulus8 - 1)))))) rfl ?_
          exact J4 (data0, a1, length6, random7, modulus8, idx9, (IntKind.i64.wrap (andK .u64 v_5 (IntKind.u64.wrap (modulus8 - 1))))) _ _ H
    · clear H; intro hb3 H
      refine r_exit rfl ?_
      exact r_end (fn := Try.f210) Try.func210 (res_0 rfl ) H
  · clear H; intro hb1 H
    refine r_skip ?_
    exact r_end (fn := Try.f210) Try.func210 (res_0 rfl ) H

/-! 211 slices.choosePivotOrdered[string] -/
def slices_choosePivotOrdered_string_k0 (R : Value → World → Prop) (swaps9 : Option Addr) (j11 : Int) (w : World) : Prop :=
  Ld (Value.int .i64) swaps9 w fun v_2 =>
  IfB (decide (v_2 = 0)) (
    R (.tuple #[(.int .i64 j11), (.int .i64 1)]) w) (
    IfB (decide (v_2 = 12)) (
      R (.tuple #[(.int .i64 j11), (.int .i64 2)]) w) (
      R (.tuple #[(.int .i64 j11), (.int .i64 0)]) w))

def slices_choosePivotOrdered_string_k1 (R : Value → World → Prop) (data0 : Sl) (swaps9 : Option Addr) (i10 : Int) (j11 : Int) (k12 : Int) (w : World) : Prop :=
  CallF Try.prog 245 #[(Sl.v data0), (.int .i64 i10), (.int .i64 j11), (.int .i64 k12), (.pointer swaps9)] w fun u_3 w_2 => As (Value.int .i64) u_3 fun v_4 =>
  slices_choosePivotOrdered_string_k0 R swaps9 v_4 w_2

def slices_choosePivotOrdered_string (R : Value → World → Prop) (data0 : Sl) (a1 : Int) (b2 : Int) (w : World) : Prop :=
  New #[(.int .i64 0)] 3 w fun a_1 w_1 =>
  IfB (decide (8 ≤ (IntKind.i64.wrap (b2 - a1)))) (
    IfB (decide (50 ≤ (IntKind.i64.wrap (b2 - a1)))) (
      CallF Try.prog 244 #[(Sl.v data0), (.int .i64 (IntKind.i64.wrap (a1 + (IntKind.i64.wrap ((IntKind.i64.wrap (Int.tdiv (IntKind.i64.wrap (b2 - a1)) 4)) * 1))))), (.pointer (some a_1))] w_1 fun u_5 w_3 => As (Value.int .i64) u_5 fun v_6 =>
      CallF Try.prog 244 #[(Sl.v data0), (.int .i64 (IntKind.i64.wrap (a1 + (IntKind.i64.wrap ((IntKind.i64.wrap (Int.tdiv (IntKind.i64.wrap (b2 - a1)) 4)) * 2))))), (.pointer (some a_1))] w_3 fun u_7 w_4 => As (Value.int .i64) u_7 fun v_8 =>
      CallF Try.prog 244 #[(Sl.v data0), (.int .i64 (IntKind.i64.wrap (a1 + (IntKind.i64.wrap ((IntKind.i64.wrap (Int.tdiv (IntKind.i64.wrap (b2 - a1)) 4)) * 3))))), (.pointer (some a_1))] w_4 fun u_9 w_5 => As (Value.int .i64) u_9 fun v_10 =>
      slices_choosePivotOrdered_string_k1 R data0 (some a_1) v_6 v_8 v_10 w_5) (
      slices_choosePivotOrdered_string_k1 R data0 (some a_1) (IntKind.i64.wrap (a1 + (IntKind.i64.wrap ((IntKind.i64.wrap (Int.tdiv (IntKind.i64.wrap (b2 - a1)) 4)) * 1)))) (IntKind.i64.wrap (a1 + (IntKind.i64.wrap ((IntKind.i64.wrap (Int.tdiv (IntKind.i64.wrap (b2 - a1)) 4)) * 2)))) (IntKind.i64.wrap (a1 + (IntKind.i64.wrap ((IntKind.i64.wrap (Int.tdiv (IntKind.i64.wrap (b2 - a1)) 4)) * 3)))) w_1)) (
    slices_choosePivotOrdered_string_k0 R (some a_1) (IntKind.i64.wrap (a1 + (IntKind.i64.wrap ((IntKind.i64.wrap (Int.tdiv (IntKind.i64.wrap (b2 - a1)) 4)) * 2)))) w_1)

theorem slices_choosePivotOrdered_string_ok (R : Value → World → Prop) (data0 : Sl) (a1 : Int) (b2 : Int) (w : World) (H : slices_choosePivotOrdered_string R data0 a1 b2 w) : CallF Try.prog 211 #[(Sl.v data0), (.int .i64 a1), (.int .i64 b2)] w R := by
  refine calls_of_runs (fn := Try.f211) Try.func211 rfl (Nat.le_of_ble_eq_true rfl) ?_
  show Runs _ _ 57 _ _ _ _
  unfold slices_choosePivotOrdered_string at H
  refine r_upd (i := 0) (v := (Sl.v data0)) rfl ?_
  refine r_upd (i := 1) (v := (.int .i64 a1)) rfl ?_
  refine r_upd (i := 2) (v := (.int .i64 b2)) rfl ?_
  refine r_seq ?_
  refine r_region ?_
  refine xo_pure (v := (.int .i64 0)) rfl (wanted_none rfl _) (p_assign rfl rfl) ?_
  refine xo_pure (v := (.int .i64 0)) rfl (wanted_none rfl _) (p_assign rfl rfl) ?_
  refine xo_end ?_
  refine r_seq ?_
  refine r_region ?_
  refine xo_pure (v := (.int .i64 b2)) rfl (wanted_none rfl _) (p_move rfl rfl) ?_
  refine xo_pure (v := (.int .i64 a1)) rfl (wanted_none rfl _) (p_move rfl rfl) ?_
  refine xo_pure (v := (.int .i64 (IntKind.i64.wrap (b2 - a1)))) rfl (wanted_none rfl _) (p_sub rfl rfl rfl) ?_
  refine xo_pure (v := (.int .i64 (IntKind.i64.wrap (b2 - a1)))) rfl (wanted_none rfl _) (p_assign rfl rfl) ?_
  refine xo_end ?_
  refine r_seq ?_
  refine r_region ?_
  refine xo_eff rfl (wanted_none rfl _) (e_alloc rfl Try.ti3 H) ?_
  rintro _ w_1 ⟨a_1, rfl, H⟩
  refine xo_end ?_
  refine r_seq ?_
  refine r_region ?_
  refine xo_pure (v := (.int .i64 a1)) rfl (wanted_none rfl _) (p_move rfl rfl) ?_
  refine xo_pure (v := (.int .i64 (IntKind.i64.wrap (b2 - a1)))) rfl (wanted_none rfl _) (p_move rfl rfl) ?_
  refine xo_pure (v := (.int .i64 (IntKind.i64.wrap (Int.tdiv (IntKind.i64.wrap (b2 - a1)) 4)))) rfl (wanted_none rfl _) (p_quo rfl rfl rfl (by decide)) ?_
  refine xo_pure (v := (.int .i64 (IntKind.i64.wrap ((IntKind.i64.wrap (Int.tdiv (IntKind.i64.wrap (b2 - a1)) 4)) * 1)))) rfl (wanted_none rfl _) (p_mul rfl rfl rfl) ?_
  refine xo_pure (v := (.int .i64 (IntKind.i64.wrap (a1 + (IntKind.i64.wrap ((IntKind.i64.wrap (Int.tdiv (IntKind.i64.wrap (b2 - a1)) 4)) * 1)))))) rfl (wanted_none rfl _) (p_add rfl rfl rfl) ?_
  refine xo_pure (v := (.int .i64 (IntKind.i64.wrap (a1 + (IntKind.i64.wrap ((IntKind.i64.wrap (Int.tdiv (IntKind.i64.wrap (b2 - a1)) 4)) * 1)))))) rfl (wanted_none rfl _) (p_assign rfl rfl) ?_
  refine xo_end ?_
  refine r_seq ?_
  refine r_region ?_
  refine xo_pure (v := (.int .i64 a1)) rfl (wanted_none rfl _) (p_move rfl rfl) ?_
  refine xo_pure (v := (.int .i64 (IntKind.i64.wrap (b2 - a1)))) rfl (wanted_none rfl _) (p_move rfl rfl) ?_
  refine xo_pure (v := (.int .i64 (IntKind.i64.wrap (Int.tdiv (IntKind.i64.wrap (b2 - a1)) 4)))) rfl (wanted_none rfl _) (p_quo rfl rfl rfl (by decide)) ?_
  refine xo_pure (v := (.int .i64 (IntKind.i64.wrap ((IntKind.i64.wrap (Int.tdiv (IntKind.i64.wrap (b2 - a1)) 4)) * 2)))) rfl (wanted_none rfl _) (p_mul rfl rfl rfl) ?_
  refine xo_pure (v := (.int .i64 (IntKind.i64.wrap (a1 + (IntKind.i64.wrap ((IntKind.i64.wrap (Int.tdiv (IntKind.i64.wrap (b2 - a1)) 4)) * 2)))))) rfl (wanted_none rfl _) (p_add rfl rfl rfl) ?_
  refine xo_pure (v := (.int .i64 (IntKind.i64.wrap (a1 + (IntKind.i64.wrap ((IntKind.i64.wrap (Int.tdiv (IntKind.i64.wrap (b2 - a1)) 4)) * 2)))))) rfl (wanted_none rfl _) (p_assign rfl rfl) ?_
  refine xo_end ?_
  refine r_seq ?_
  refine r_region ?_
  refine xo_pure (v := (.int .i64 a1)) rfl (wanted_none rfl _) (p_move rfl rfl) ?_
  refine xo_pure (v := (.int .i64 (IntKind.i64.wrap (b2 - a1)))) rfl (wanted_none rfl _) (p_move rfl rfl) ?_
  refine xo_pure (v := (.int .i64 (IntKind.i64.wrap (Int.tdiv (IntKind.i64.wrap (b2 - a1)) 4)))) rfl (wanted_none rfl _) (p_quo rfl rfl rfl (by decide)) ?_
  refine xo_pure (v := (.int .i64 (IntKind.i64.wrap ((IntKind.i64.wrap (Int.tdiv (IntKind.i64.wrap (b2 - a1)) 4)) * 3)))) rfl (wanted_none rfl _) (p_mul rfl rfl rfl) ?_
  refine xo_pure (v := (.int .i64 (IntKind.i64.wrap (a1 + (IntKind.i64.wrap ((IntKind.i64.wrap (Int.tdiv (IntKind.i64.wrap (b2 - a1)) 4)) * 3)))))) rfl (wanted_none rfl _) (p_add rfl rfl rfl) ?_
  refine xo_pure (v := (.int .i64 (IntKind.i64.wrap (a1 + (IntKind.i64.wrap ((IntKind.i64.wrap (Int.tdiv (IntKind.i64.wrap (b2 - a1)) 4)) * 3)))))) rfl (wanted_none rfl _) (p_assign rfl rfl) ?_
  refine xo_end ?_
  refine r_seqJ (fun (s : Option Addr × Int) σ => upd 11 (.int .i64 s.2) (upd 9 (.pointer s.1) (σ))) (fun (s : Option Addr × Int) w => slices_choosePivotOrdered_string_k0 R s.1 s.2 w) ?_ ?_
  · rintro ⟨swaps9, j11⟩ σ w H
    replace H : slices_choosePivotOrdered_string_k0 R swaps9 j11 w := H
    show Runs _ _ _ _ _ (upd 11 (.int .i64 j11) (upd 9 (.pointer swaps9) (σ))) _
    unfold slices_choosePivotOrdered_string_k0 at H
    refine r_seq ?_
    refine r_region ?_
    obtain ⟨adv_2, v_2, hev_2, hcv_2, H⟩ := H
    refine xo_read (v := (.int .i64 v_2)) rfl (wanted_none rfl _) (rd_load (ad := adv_2) rfl Try.underlying3 rfl (by show Value.pointer _ = _; rw [hev_2]) hcv_2) ?_
    refine xo_end ?_
    refine r_block ?_
    refine r_seq ?_
    refine r_region ?_
    refine xo_pure (v := (.bool (decide (v_2 = 0)))) rfl (wanted_none rfl _) (p_eq rfl rfl rfl) ?_
    refine xo_pure (v := (.bool (decide (v_2 = 0)))) rfl (wanted_none rfl _) (p_assign rfl rfl) ?_
    refine xo_end ?_
    refine r_condB (b := (decide (v_2 = 0))) rfl H ?_ ?_
    · clear H; intro hb2 H
      refine r_seq ?_
      refine r_region ?_
      refine xo_pure (v := (.int .i64 j11)) rfl (wanted_none rfl _) (p_move rfl rfl) ?_
      refine xo_pure (v := (.int .i64 j11)) rfl (wanted_none rfl _) (p_assign rfl rfl) ?_
      refine xo_pure (v := (.int .i64 1)) rfl (wanted_none rfl _) (p_assign rfl rfl) ?_
      refine xo_end ?_
      exact r_ret (fn := Try.f211) Try.func211 (res_2 rfl ⟨by decide, rfl⟩ ⟨by decide, rfl⟩) H
    · clear H; intro hb2 H
      refine r_seq ?_
      refine r_region ?_
      refine xo_pure (v := (.bool (decide (v_2 = 12)))) rfl (wanted_none rfl _) (p_eq rfl rfl rfl) ?_
      refine xo_pure (v := (.bool (decide (v_2 = 12)))) rfl (wanted_none rfl _) (p_assign rfl rfl) ?_
      refine xo_end ?_
      refine r_condB (b := (decide (v_2 = 12))) rfl H ?_ ?_
      · clear H; intro hb3 H
        refine r_seq ?_
        refine r_region ?_
        refine xo_pure (v := (.int .i64 j11)) rfl (wanted_none rfl _) (p_move rfl rfl) ?_
        refine xo_pure (v := (.int .i64 j11)) rfl (wanted_none rfl _) (p_assign rfl rfl) ?_
        refine xo_pure (v := (.int .i64 2)) rfl (wanted_none rfl _) (p_assign rfl rfl) ?_
        refine xo_end ?_
        exact r_ret (fn := Try.f211) Try.func211 (res_2 rfl ⟨by decide, rfl⟩ ⟨by decide, rfl⟩) H
      · clear H; intro hb3 H
        refine r_seq ?_
        refine r_region ?_
        refine xo_pure (v := (.int .i64 j11)) rfl (wanted_none rfl _) (p_move rfl rfl) ?_
        refine xo_pure (v := (.int .i64 j11)) rfl (wanted_none rfl _) (p_assign rfl rfl) ?_
        refine xo_pure (v := (.int .i64 0)) rfl (wanted_none rfl _) (p_assign rfl rfl) ?_
        refine xo_end ?_
        exact r_ret (fn := Try.f211) Try.func211 (res_2 rfl ⟨by decide, rfl⟩ ⟨by decide, rfl⟩) H
  · intro J1
    refine r_seq ?_
    refine r_region ?_
    refine xo_pure (v := (.int .i64 (IntKind.i64.wrap (b2 - a1)))) rfl (wanted_none rfl _) (p_move rfl rfl) ?_
    refine xo_pure (v := (.bool (decide (8 ≤ (IntKind.i64.wrap (b2 - a1)))))) rfl (wanted_none rfl _) (p_ge rfl rfl rfl) ?_
    refine xo_end ?_
    refine r_condB (b := (decide (8 ≤ (IntKind.i64.wrap (b2 - a1))))) rfl H ?_ ?_
    · clear H; intro hb4 H
      refine r_seqJ (fun (s : Sl × Option Addr × Int × Int × Int) σ => upd 12 (.int .i64 s.2.2.2.2) (upd 11 (.int .i64 s.2.2.2.1) (upd 10 (.int .i64 s.2.2.1) (upd 9 (.pointer s.2.1) (upd 0 (Sl.v s.1) (σ)))))) (fun (s : Sl × Option Addr × Int × Int × Int) w => slices_choosePivotOrdered_string_k1 R s.1 s.2.1 s.2.2.1 s.2.2.2.1 s.2.2.2.2 w) ?_ ?_
      · rintro ⟨data0, swaps9, i10, j11, k12⟩ σ w H
        replace H : slices_choosePivotOrdered_string_k1 R data0 swaps9 i10 j11 k12 w := H
        show Runs _ _ _ _ _ (upd 12 (.int .i64 k12) (upd 11 (.int .i64 j11) (upd 10 (.int .i64 i10) (upd 9 (.pointer swaps9) (upd 0 (Sl.v data0) (σ)))))) _
        unfold slices_choosePivotOrdered_string_k1 at H
        refine r_region ?_
        refine xo_pure (v := (Sl.v data0)) rfl (wanted_none rfl _) (p_move rfl rfl) ?_
        refine xo_pure (v := (.int .i64 i10)) rfl (wanted_none rfl _) (p_move rfl rfl) ?_
        refine xo_pure (v := (.int .i64 j11)) rfl (wanted_none rfl _) (p_move rfl rfl) ?_
        refine xo_pure (v := (.int .i64 k12)) rfl (wanted_none rfl _) (p_move rfl rfl) ?_
        refine xo_eff rfl (wanted_none rfl _) (e_call (fn := Try.f245) H rfl rfl Try.func245 rfl rfl rfl) ?_
        rintro _ w_2 ⟨v_4, rfl, H⟩
        refine xo_pure (v := (.int .i64 v_4)) rfl (wanted_none rfl _) (p_assign rfl rfl) ?_
        refine xo_end ?_
        refine r_upd (i := 9) (v := (.pointer swaps9)) rfl ?_
        refine r_upd (i := 11) (v := (.int .i64 v_4)) rfl ?_
        exact J1 (swaps9, v_4) _ _ H
      · intro J5
        refine r_seq ?_
        refine r_region ?_
        refine xo_pure (v := (.int .i64 (IntKind.i64.wrap (b2 - a1)))) rfl (wanted_none rfl _) (p_move rfl rfl) ?_
        refine xo_pure (v := (.bool (decide (50 ≤ (IntKind.i64.wrap (b2 - a1)))))) rfl (wanted_none rfl _) (p_ge rfl rfl rfl) ?_
        refine xo_end ?_
        refine r_condB (b := (decide (50 ≤ (IntKind.i64.wrap (b2 - a1))))) rfl H ?_ ?_
        · clear H; intro hb6 H
          refine r_seq ?_
          refine r_region ?_
          refine xo_pure (v := (Sl.v data0)) rfl (wanted_none rfl _) (p_move rfl rfl) ?_
          refine xo_pure (v := (.int .i64 (IntKind.i64.wrap (a1 + (IntKind.i64.wrap ((IntKind.i64.wrap (Int.tdiv (IntKind.i64.wrap (b2 - a1)) 4)) * 1)))))) rfl (wanted_none rfl _) (p_move rfl rfl) ?_
          refine xo_eff rfl (wanted_none rfl _) (e_call (fn := Try.f244) H rfl rfl Try.func244 rfl rfl rfl) ?_
          rintro _ w_3 ⟨v_6, rfl, H⟩
          refine xo_pure (v := (.int .i64 v_6)) rfl (wanted_none rfl _) (p_assign rfl rfl) ?_
          refine xo_end ?_
          refine r_seq ?_
          refine r_region ?_
          refine xo_pure (v := (Sl.v data0)) rfl (wanted_none rfl _) (p_move rfl rfl) ?_
          refine xo_pure (v := (.int .i64 (IntKind.i64.wrap (a1 + (IntKind.i64.wrap ((IntKind.i64.wrap (Int.tdiv (IntKind.i64.wrap (b2 - a1)) 4)) * 2)))))) rfl (wanted_none rfl _) (p_move rfl rfl) ?_
          refine xo_eff rfl (wanted_none rfl _) (e_call (fn := Try.f244) H rfl rfl Try.func244 rfl rfl rfl) ?_
          rintro _ w_4 ⟨v_8, rfl, H⟩
          refine xo_pure (v := (.int .i64 v_8)) rfl (wanted_none rfl _) (p_assign rfl rfl) ?_
          refine xo_end ?_
          refine r_region ?_
          refine xo_pure (v := (Sl.v data0)) rfl (wanted_none rfl _) (p_move rfl rfl) ?_
          refine xo_pure (v := (.int .i64 (IntKind.i64.wrap (a1 + (IntKind.i64.wrap ((IntKind.i64.wrap (Int.tdiv (IntKind.i64.wrap (b2 - a1)) 4)) * 3)))))) rfl (wanted_none rfl _) (p_move rfl rfl) ?_
          refine xo_eff rfl (wanted_none rfl _) (e_call (fn := Try.f244) H rfl rfl Try.func244 rfl rfl rfl) ?_
          rintro _ w_5 ⟨v_10, rfl, H⟩
          refine xo_pure (v := (.int .i64 v_10)) rfl (wanted_none rfl _) (p_assign rfl rfl) ?_
          refine xo_end ?_
          refine r_upd (i := 0) (v := (Sl.v data0)) rfl ?_
          refine r_upd (i := 9) (v := (.pointer (some a_1))) rfl ?_
          refine r_upd (i := 10) (v := (.int .i64 v_6)) rfl ?_
          refine r_upd (i := 11) (v := (.int .i64 v_8)) rfl ?_
          refine r_upd (i := 12) (v := (.int .i64 v_10)) rfl ?_
          exact J5 (data0, (some a_1), v_6, v_8, v_10) _ _ H
        · clear H; intro hb6 H
          refine r_skip ?_
          refine r_upd (i := 0) (v := (Sl.v data0)) rfl ?_
          refine r_upd (i := 9) (v := (.pointer (some a_1))) rfl ?_
          refine r_upd (i := 10) (v := (.int .i64 (IntKind.i64.wrap (a1 + (IntKind.i64.wrap ((IntKind.i64.wrap (Int.tdiv (IntKind.i64.wrap (b2 - a1)) 4)) * 1)))))) rfl ?_
          refine r_upd (i := 11) (v := (.int .i64 (IntKind.i64.wrap (a1 + (IntKind.i64.wrap ((IntKind.i64.wrap (Int.tdiv (IntKind.i64.wrap (b2 - a1)) 4)) * 2)))))) rfl ?_
          refine r_upd (i := 12) (v := (.int .i64 (IntKind.i64.wrap (a1 + (IntKind.i64.wrap ((IntKind.i64.wrap (Int.tdiv (IntKind.i64.wrap (b2 - a1)) 4)) * 3)))))) rfl ?_
          exact J5 (data0, (some a_1), (IntKind.i64.wrap (a1 + (IntKind.i64.wrap ((IntKind.i64.wrap (Int.tdiv (IntKind.i64.wrap (b2 - a1)) 4)) * 1)))), (IntKind.i64.wrap (a1 + (IntKind.i64.wrap ((IntKind.i64.wrap (Int.tdiv (IntKind.i64.wrap (b2 - a1)) 4)) * 2)))), (IntKind.i64.wrap (a1 + (IntKind.i64.wrap ((IntKind.i64.wrap (Int.tdiv (IntKind.i64.wrap (b2 - a1)) 4)) * 3))))) _ _ H
    · clear H; intro hb4 H
      refine r_skip ?_
      refine r_upd (i := 9) (v := (.pointer (some a_1))) rfl ?_
      refine r_upd (i := 11) (v := (.int .i64 (IntKind.i64.wrap (a1 + (IntKind.i64.wrap ((IntKind.i64.wrap (Int.tdiv (IntKind.i64.wrap (b2 - a1)) 4)) * 2)))))) rfl ?_
      exact J1 ((some a_1), (IntKind.i64.wrap (a1 + (IntKind.i64.wrap ((IntKind.i64.wrap (Int.tdiv (IntKind.i64.wrap (b2 - a1)) 4)) * 2))))) _ _ H

/-! 212 slices.reverseRangeOrdered[string] -/
def slices_reverseRangeOrdered_string_b0 (R : Value → World → Prop) (ag1 : (Sl × Int × Int) → World → Prop) (data0 : Sl) (i6 : Int) (j7 : Int) (w : World) : Prop :=
  IfB (decide (i6 < j7)) (
    Ix data0 j7 fun p_1 =>
    Ld Value.string (some (p_1.add (j7.toNat * 1))) (World.drew w) fun v_2 =>
    Ix data0 i6 fun p_3 =>
    Ld Value.string (some (p_3.add (i6.toNat * 1))) (World.drew w) fun v_4 =>
    Ix data0 i6 fun p_5 =>
    St (some (p_5.add (i6.toNat * 1))) (.string v_2) (World.drew w) fun w_2 =>
    Ix data0 j7 fun p_6 =>
    St (some (p_6.add (j7.toNat * 1))) (.string v_4) w_2 fun w_3 =>
    ag1 (data0, (IntKind.i64.wrap (i6 + 1)), (IntKind.i64.wrap (j7 - 1))) w_3) (
    R (.tuple #[]) w)

def slices_reverseRangeOrdered_string (R : Value → World → Prop) (data0 : Sl) (a1 : Int) (b2 : Int) (w : World) : Prop :=
  Lp (fun ag (s : Sl × Int × Int) w => slices_reverseRangeOrdered_string_b0 R ag s.1 s.2.1 s.2.2 w) (data0, a1, (IntKind.i64.wrap (b2 - 1))) w

theorem slices_reverseRangeOrdered_string_ok (R : Value → World → Prop) (data0 : Sl) (a1 : Int) (b2 : Int) (w : World) (H : slices_reverseRangeOrdered_string R data0 a1 b2 w) : CallF Try.prog 212 #[(Sl.v data0), (.int .i64 a1), (.int .i64 b2)] w R := by
  refine calls_of_runs (fn := Try.f212) Try.func212 rfl (Nat.le_of_ble_eq_true rfl) ?_
  show Runs _ _ 32 _ _ _ _
  unfold slices_reverseRangeOrdered_string at H
  refine r_upd (i := 0) (v := (Sl.v data0)) rfl ?_
  refine r_upd (i := 1) (v := (.int .i64 a1)) rfl ?_
  refine r_upd (i := 2) (v := (.int .i64 b2)) rfl ?_
  refine r_seq ?_
  refine r_region ?_
  refine xo_pure (v := (.int .i64 a1)) rfl (wanted_none rfl _) (p_move rfl rfl) ?_
  refine xo_pure (v := (.int .i64 a1)) rfl (wanted_none rfl _) (p_assign rfl rfl) ?_
  refine xo_end ?_
  refine r_seq ?_
  refine r_region ?_
  refine xo_pure (v := (.int .i64 b2)) rfl (wanted_none rfl _) (p_move rfl rfl) ?_
  refine xo_pure (v := (.int .i64 (IntKind.i64.wrap (b2 - 1)))) rfl (wanted_none rfl _) (p_sub rfl rfl rfl) ?_
  refine xo_pure (v := (.int .i64 (IntKind.i64.wrap (b2 - 1)))) rfl (wanted_none rfl _) (p_assign rfl rfl) ?_
  refine xo_end ?_
  refine r_block ?_
  refine r_upd (i := 0) (v := (Sl.v data0)) rfl ?_
  refine r_upd (i := 6) (v := (.int .i64 a1)) rfl ?_
  refine r_upd (i := 7) (v := (.int .i64 (IntKind.i64.wrap (b2 - 1)))) rfl ?_
  refine r_loopJ (fun (s : Sl × Int × Int) σ => upd 7 (.int .i64 s.2.2) (upd 6 (.int .i64 s.2.1) (upd 0 (Sl.v s.1) (σ)))) (s := (data0, a1, (IntKind.i64.wrap (b2 - 1)))) H ?_
  clear H
  rintro ag1 ⟨data0, i6, j7⟩ σ w H hag1
  replace H : slices_reverseRangeOrdered_string_b0 R ag1 data0 i6 j7 w := H
  show Runs _ _ _ _ _ (upd 7 (.int .i64 j7) (upd 6 (.int .i64 i6) (upd 0 (Sl.v data0) (σ)))) _
  unfold slices_reverseRangeOrdered_string_b0 at H
  refine r_seq ?_
  refine r_seq ?_
  refine r_region ?_
  refine xo_pure (v := (.int .i64 i6)) rfl (wanted_none rfl _) (p_move rfl rfl) ?_
  refine xo_pure (v := (.int .i64 j7)) rfl (wanted_none rfl _) (p_move rfl rfl) ?_
  refine xo_pure (v := (.bool (decide (i6 < j7)))) rfl (wanted_none rfl _) (p_lt rfl rfl rfl) ?_
  refine xo_end ?_
  refine r_condB (b := (decide (i6 < j7))) rfl H ?_ ?_
  · clear H; intro hb2 H
    refine r_skip ?_
    refine r_block ?_
    refine r_seq ?_
    refine r_draw #[[], [], [], [], [], [], [4, 5], [4, 5, 6], [], [], [8, 9], [8, 9, 10], [0, 1, 4, 5, 6, 7, 8, 9, 10, 11], [0, 1, 4, 5, 6, 7, 8, 9, 10, 11, 12], [0, 1, 2, 3, 4, 5, 6, 7, 8, 9, 10, 11, 12, 13], [0, 1, 2, 3, 4, 5, 6, 7, 8, 9, 10, 11, 12, 13, 14]] 16 rfl rfl ?_
    refine xa_pure (v := (Sl.v data0)) 0 (by decide +kernel) rfl rfl (wanted_none rfl _) (p_move rfl rfl) ?_
    refine xa_pure (v := (.int .i64 i6)) 1 (by decide +kernel) rfl rfl (wanted_none rfl _) (p_move rfl rfl) ?_
    refine xa_pure (v := (Sl.v data0)) 2 (by decide +kernel) rfl rfl (wanted_none rfl _) (p_move rfl rfl) ?_
    refine xa_pure (v := (.int .i64 j7)) 3 (by decide +kernel) rfl rfl (wanted_none rfl _) (p_move rfl rfl) ?_
    refine xa_pure (v := (Sl.v data0)) 4 (by decide +kernel) rfl rfl (wanted_none rfl _) (p_move rfl rfl) ?_
    refine xa_pure (v := (.int .i64 j7)) 5 (by decide +kernel) rfl rfl (wanted_none rfl _) (p_move rfl rfl) ?_
    obtain ⟨p_1, hap_1, hlp_1, hup_1, H⟩ := H
    refine xa_pure (v := (.pointer (some (p_1.add (j7.toNat * 1))))) 6 (by decide +kernel) rfl rfl (wanted_none rfl _) (p_indexAddr (s := data0) (ad := p_1) (size := 1) rfl Try.underlying71 Try.ti9 rfl rfl hap_1 hlp_1 hup_1) ?_
    obtain ⟨adv_2, v_2, hev_2, hcv_2, H⟩ := H
    refine xa_read (v := (.string v_2)) (S := (fun w => w.cell? adv_2 = some (.string v_2))) 7 (by decide +kernel) rfl rfl (wanted_none rfl _) (fun w hc => rd_load (ad := adv_2) rfl Try.underlying9 rfl (by show Value.pointer _ = _; rw [hev_2]) hc) hcv_2 ?_
    refine xa_pure (v := (Sl.v data0)) 8 (by decide +kernel) rfl rfl (wanted_none rfl _) (p_move rfl rfl) ?_
    refine xa_pure (v := (.int .i64 i6)) 9 (by decide +kernel) rfl rfl (wanted_none rfl _) (p_move rfl rfl) ?_
    obtain ⟨p_3, hap_3, hlp_3, hup_3, H⟩ := H
    refine xa_pure (v := (.pointer (some (p_3.add (i6.toNat * 1))))) 10 (by decide +kernel) rfl rfl (wanted_none rfl _) (p_indexAddr (s := data0) (ad := p_3) (size := 1) rfl Try.underlying71 Try.ti9 rfl rfl hap_3 hlp_3 hup_3) ?_
    obtain ⟨adv_4, v_4, hev_4, hcv_4, H⟩ := H
    refine xa_read (v := (.string v_4)) (S := (fun w => w.cell? adv_4 = some (.string v_4))) 11 (by decide +kernel) rfl rfl (wanted_none rfl _) (fun w hc => rd_load (ad := adv_4) rfl Try.underlying9 rfl (by show Value.pointer _ = _; rw [hev_4]) hc) hcv_4 ?_
    obtain ⟨p_5, hap_5, hlp_5, hup_5, H⟩ := H
    refine xa_pure (v := (.pointer (some (p_5.add (i6.toNat * 1))))) 12 (by decide +kernel) rfl rfl (wanted_none rfl _) (p_indexAddr (s := data0) (ad := p_5) (size := 1) rfl Try.underlying71 Try.ti9 rfl rfl hap_5 hlp_5 hup_5) ?_
    refine xa_effN 13 [] (by decide +kernel) rfl rfl rfl (wanted_none rfl _) (e_store rfl Try.ti9 rfl rfl rfl H) ?_
    intro _ w_2 H
    refine ⟨AllHeld.nil, ?_⟩
    obtain ⟨p_6, hap_6, hlp_6, hup_6, H⟩ := H
    refine xa_pure (v := (.pointer (some (p_6.add (j7.toNat * 1))))) 14 (by decide +kernel) rfl rfl (wanted_none rfl _) (p_indexAddr (s := data0) (ad := p_6) (size := 1) rfl Try.underlying71 Try.ti9 rfl rfl hap_6 hlp_6 hup_6) ?_
    refine xa_effN 15 [] (by decide +kernel) rfl rfl rfl (wanted_none rfl _) (e_store rfl Try.ti9 rfl rfl rfl H) ?_
    intro _ w_3 H
    refine ⟨AllHeld.nil, ?_⟩
    refine xa_end (by decide +kernel) ?_
    refine r_seq ?_
    refine r_region ?_
    refine xo_pure (v := (.int .i64 i6)) rfl (wanted_none rfl _) (p_move rfl rfl) ?_
    refine xo_pure (v := (.int .i64 (IntKind.i64.wrap (i6 + 1)))) rfl (wanted_none rfl _) (p_add rfl rfl rfl) ?_
    refine xo_pure (v := (.int .i64 (IntKind.i64.wrap (i6 + 1)))) rfl (wanted_none rfl _) (p_assign rfl rfl) ?_
    refine xo_end ?_
    refine r_region ?_
    refine xo_pure (v := (.int .i64 j7)) rfl (wanted_none rfl _) (p_move rfl rfl) ?_
    refine xo_pure (v := (.int .i64 (IntKind.i64.wrap (j7 - 1)))) rfl (wanted_none rfl _) (p_sub rfl rfl rfl) ?_
    refine xo_pure (v := (.int .i64 (IntKind.i64.wrap (j7 - 1)))) rfl (wanted_none rfl _) (p_assign rfl rfl) ?_
    refine xo_end ?_
    refine r_inBlock ?_
    refine r_upd (i := 0) (v := (Sl.v data0)) rfl ?_
    refine r_upd (i := 6) (v := (.int .i64 (IntKind.i64.wrap (i6 + 1)))) rfl ?_
    refine r_upd (i := 7) (v := (.int .i64 (IntKind.i64.wrap (j7 - 1)))) rfl ?_
    exact hag1 (data0, (IntKind.i64.wrap (i6 + 1)), (IntKind.i64.wrap (j7 - 1))) _ _ H
  · clear H; intro hb2 H
    refine r_exit rfl ?_
    exact r_end (fn := Try.f212) Try.func212 (res_0 rfl ) H

/-! 213 slices.partialInsertionSortOrdered[string] -/
def slices_partialInsertionSortOrdered_string_k1 (R : Value → World → Prop) (ag1 : (Sl × Int × Int × Int × Int) → World → Prop) (data0 : Sl) (a1 : Int) (b2 : Int) (i7 : Int) (j8 : Int) (w : World) : Prop :=
  ag1 (data0, a1, b2, i7, (IntKind.i64.wrap (j8 + 1))) w

def slices_partialInsertionSortOrdered_string_b5 (R : Value → World → Prop) (ag1 : (Sl × Int × Int × Int × Int) → World → Prop) (ag4 : (Sl × Int × Int × Int × Int) → World → Prop) (ag11 : (Sl × Int × Int × Int × Int × Int) → World → Prop) (data0 : Sl) (a1 : Int) (b2 : Int) (i7 : Int) (j8 : Int) (j10 : Int) (w : World) : Prop :=
  IfB (decide (j10 < b2)) (
    Ix data0 j10 fun p_7 =>
    Ld Value.string (some (p_7.add (j10.toNat * 1))) (World.drew w) fun v_8 =>
    Ix data0 (IntKind.i64.wrap (j10 - 1)) fun p_9 =>
    Ld Value.string (some (p_9.add ((IntKind.i64.wrap (j10 - 1)).toNat * 1))) (World.drew w) fun v_10 =>
    CallF Try.prog 214 #[(.string v_8), (.string v_10)] (World.drew w) fun u_11 w_5 => As Value.bool u_11 fun v_12 =>
    IfB (!v_12) (
      slices_partialInsertionSortOrdered_string_k1 R ag1 data0 a1 b2 i7 j8 w_5) (
      Ix data0 (IntKind.i64.wrap (j10 - 1)) fun p_13 =>
      Ld Value.string (some (p_13.add ((IntKind.i64.wrap (j10 - 1)).toNat * 1))) (World.drew w_5) fun v_14 =>
      Ix data0 j10 fun p_15 =>
      Ld Value.string (some (p_15.add (j10.toNat * 1))) (World.drew w_5) fun v_16 =>
      Ix data0 j10 fun p_17 =>
      St (some (p_17.add (j10.toNat * 1))) (.string v_14) (World.drew w_5) fun w_7 =>
      Ix data0 (IntKind.i64.wrap (j10 - 1)) fun p_18 =>
      St (some (p_18.add ((IntKind.i64.wrap (j10 - 1)).toNat * 1))) (.string v_16) w_7 fun w_8 =>
      ag11 (data0, a1, b2, i7, j8, (IntKind.i64.wrap (j10 + 1))) w_8)) (
    slices_partialInsertionSortOrdered_string_k1 R ag1 data0 a1 b2 i7 j8 w)

def slices_partialInsertionSortOrdered_string_k4 (R : Value → World → Prop) (ag1 : (Sl × Int × Int × Int × Int) → World → Prop) (ag4 : (Sl × Int × Int × Int × Int) → World → Prop) (data0 : Sl) (a1 : Int) (b2 : Int) (i7 : Int) (j8 : Int) (w : World) : Prop :=
  IfB (decide (2 ≤ (IntKind.i64.wrap (b2 - i7)))) (
    Lp (fun ag (s : Sl × Int × Int × Int × Int × Int) w => slices_partialInsertionSortOrdered_string_b5 R ag1 ag4 ag s.1 s.2.1 s.2.2.1 s.2.2.2.1 s.2.2.2.2.1 s.2.2.2.2.2 w) (data0, a1, b2, i7, j8, (IntKind.i64.wrap (i7 + 1))) w) (
    slices_partialInsertionSortOrdered_string_k1 R ag1 data0 a1 b2 i7 j8 w)

def slices_partialInsertionSortOrdered_string_b6 (R : Value → World → Prop) (ag1 : (Sl × Int × Int × Int × Int) → World → Prop) (ag4 : (Sl × Int × Int × Int × Int) → World → Prop) (ag15 : (Sl × Int × Int × Int × Int × Int) → World → Prop) (data0 : Sl) (a1 : Int) (b2 : Int) (i7 : Int) (j8 : Int) (j9 : Int) (w : World) : Prop :=
  IfB (decide (1 ≤ j9)) (
    Ix data0 j9 fun p_19 =>
    Ld Value.string (some (p_19.add (j9.toNat * 1))) (World.drew w) fun v_20 =>
    Ix data0 (IntKind.i64.wrap (j9 - 1)) fun p_21 =>
    Ld Value.string (some (p_21.add ((IntKind.i64.wrap (j9 - 1)).toNat * 1))) (World.drew w) fun v_22 =>
    CallF Try.prog 214 #[(.string v_20), (.string v_22)] (World.drew w) fun u_23 w_10 => As Value.bool u_23 fun v_24 =>
    IfB (!v_24) (
      slices_partialInsertionSortOrdered_string_k4 R ag1 ag4 data0 a1 b2 i7 j8 w_10) (
      Ix data0 (IntKind.i64.wrap (j9 - 1)) fun p_25 =>
      Ld Value.string (some (p_25.add ((IntKind.i64.wrap (j9 - 1)).toNat * 1))) (World.drew w_10) fun v_26 =>
      Ix data0 j9 fun p_27 =>
      Ld Value.string (some (p_27.add (j9.toNat * 1))) (World.drew w_10) fun v_28 =>
      Ix data0 j9 fun p_29 =>
      St (some (p_29.add (j9.toNat * 1))) (.string v_26) (World.drew w_10) fun w_12 =>
      Ix data0 (IntKind.i64.wrap (j9 - 1)) fun p_30 =>
      St (some (p_30.add ((IntKind.i64.wrap (j9 - 1)).toNat * 1))) (.string v_28) w_12 fun w_13 =>
      ag15 (data0, a1, b2, i7, j8, (IntKind.i64.wrap (j9 - 1))) w_13)) (
    slices_partialInsertionSortOrdered_string_k4 R ag1 ag4 data0 a1 b2 i7 j8 w)

def slices_partialInsertionSortOrdered_string_k3 (R : Value → World → Prop) (ag1 : (Sl × Int × Int × Int × Int) → World → Prop) (ag4 : (Sl × Int × Int × Int × Int) → World → Prop) (data0 : Sl) (a1 : Int) (b2 : Int) (i7 : Int) (j8 : Int) (t32 : Bool) (w : World) : Prop :=
  IfB t32 (
    ag4 (data0, a1, b2, (IntKind.i64.wrap (i7 + 1)), j8) w) (
    IfB (decide (i7 = b2)) (
      R (.bool true) w) (
      IfB (decide ((IntKind.i64.wrap (b2 - a1)) < 50)) (
        R (.bool false) w) (
        Ix data0 (IntKind.i64.wrap (i7 - 1)) fun p_1 =>
        Ld Value.string (some (p_1.add ((IntKind.i64.wrap (i7 - 1)).toNat * 1))) (World.drew w) fun v_2 =>
        Ix data0 i7 fun p_3 =>
        Ld Value.string (some (p_3.add (i7.toNat * 1))) (World.drew w) fun v_4 =>
        Ix data0 i7 fun p_5 =>
        St (some (p_5.add (i7.toNat * 1))) (.string v_2) (World.drew w) fun w_2 =>
        Ix data0 (IntKind.i64.wrap (i7 - 1)) fun p_6 =>
        St (some (p_6.add ((IntKind.i64.wrap (i7 - 1)).toNat * 1))) (.string v_4) w_2 fun w_3 =>
        IfB (decide (2 ≤ (IntKind.i64.wrap (i7 - a1)))) (
          Lp (fun ag (s : Sl × Int × Int × Int × Int × Int) w => slices_partialInsertionSortOrdered_string_b6 R ag1 ag4 ag s.1 s.2.1 s.2.2.1 s.2.2.2.1 s.2.2.2.2.1 s.2.2.2.2.2 w) (data0, a1, b2, i7, j8, (IntKind.i64.wrap (i7 - 1))) w_3) (
          slices_partialInsertionSortOrdered_string_k4 R ag1 ag4 data0 a1 b2 i7 j8 w_3))))

def slices_partialInsertionSortOrdered_string_b2 (R : Value → World → Prop) (ag1 : (Sl × Int × Int × Int × Int) → World → Prop) (ag4 : (Sl × Int × Int × Int × Int) → World → Prop) (data0 : Sl) (a1 : Int) (b2 : Int) (i7 : Int) (j8 : Int) (w : World) : Prop :=
  IfB (decide (i7 < b2)) (
    Ix data0 i7 fun p_31 =>
    Ld Value.string (some (p_31.add (i7.toNat * 1))) (World.drew w) fun v_32 =>
    Ix data0 (IntKind.i64.wrap (i7 - 1)) fun p_33 =>
    Ld Value.string (some (p_33.add ((IntKind.i64.wrap (i7 - 1)).toNat * 1))) (World.drew w) fun v_34 =>
    CallF Try.prog 214 #[(.string v_32), (.string v_34)] (World.drew w) fun u_35 w_15 => As Value.bool u_35 fun v_36 =>
    slices_partialInsertionSortOrdered_string_k3 R ag1 ag4 data0 a1 b2 i7 j8 (!v_36) w_15) (
    slices_partialInsertionSortOrdered_string_k3 R ag1 ag4 data0 a1 b2 i7 j8 false (World.drew w))

def slices_partialInsertionSortOrdered_string_b0 (R : Value → World → Prop) (ag1 : (Sl × Int × Int × Int × Int) → World → Prop) (data0 : Sl) (a1 : Int) (b2 : Int) (i7 : Int) (j8 : Int) (w : World) : Prop :=
  IfB (decide (j8 < 5)) (
    Lp (fun ag (s : Sl × Int × Int × Int × Int) w => slices_partialInsertionSortOrdered_string_b2 R ag1 ag s.1 s.2.1 s.2.2.1 s.2.2.2.1 s.2.2.2.2 w) (data0, a1, b2, i7, j8) w) (
    R (.bool false) w)

def slices_partialInsertionSortOrdered_string (R : Value → World → Prop) (data0 : Sl) (a1 : Int) (b2 : Int) (w : World) : Prop :=
  Lp (fun ag (s : Sl × Int × Int × Int × Int) w => slices_partialInsertionSortOrdered_string_b0 R ag s.1 s.2.1 s.2.2.1 s.2.2.2.1 s.2.2.2.2 w) (data0, a1, b2, (IntKind.i64.wrap (a1 + 1)), 0) w

theorem slices_partialInsertionSortOrdered_string_ok (R : Value → World → Prop) (data0 : Sl) (a1 : Int) (b2 : Int) (w : World) (H : slices_partialInsertionSortOrdered_string R data0 a1 b2 w) : CallF Try.prog 213 #[(Sl.v data0), (.int .i64 a1), (.int .i64 b2)] w R := by
  refine calls_of_runs (fn := Try.f213) Try.func213 rfl (Nat.le_of_ble_eq_true rfl) ?_
  show Runs _ _ 133 _ _ _ _
  unfold slices_partialInsertionSortOrdered_string at H
  refine r_upd (i := 0) (v := (Sl.v data0)) rfl ?_
  refine r_upd (i := 1) (v := (.int .i64 a1)) rfl ?_
  refine r_upd (i := 2) (v := (.int .i64 b2)) rfl ?_
  refine r_seq ?_
  refine r_region ?_
  refine xo_pure (v := (.bool false)) rfl (wanted_none rfl _) (p_assign rfl rfl) ?_
  refine xo_end ?_
  refine r_seq ?_
  refine r_region ?_
  refine xo_pure (v := (.int .i64 a1)) rfl (wanted_none rfl _) (p_move rfl rfl) ?_
  refine xo_pure (v := (.int .i64 (IntKind.i64.wrap (a1 + 1)))) rfl (wanted_none rfl _) (p_add rfl rfl rfl) ?_
  refine xo_pure (v := (.int .i64 (IntKind.i64.wrap (a1 + 1)))) rfl (wanted_none rfl _) (p_assign rfl rfl) ?_
  refine xo_end ?_
  refine r_seq ?_
  refine r_seq ?_
  refine r_region ?_
  refine xo_pure (v := (.int .i64 0)) rfl (wanted_none rfl _) (p_assign rfl rfl) ?_
  refine xo_end ?_
  refine r_block ?_
  refine r_upd (i := 0) (v := (Sl.v data0)) rfl ?_
  refine r_upd (i := 1) (v := (.int .i64 a1)) rfl ?_
  refine r_upd (i := 2) (v := (.int .i64 b2)) rfl ?_
  refine r_upd (i := 7) (v := (.int .i64 (IntKind.i64.wrap (a1 + 1)))) rfl ?_
  refine r_upd (i := 8) (v := (.int .i64 0)) rfl ?_
  refine r_loopJ (fun (s : Sl × Int × Int × Int × Int) σ => upd 8 (.int .i64 s.2.2.2.2) (upd 7 (.int .i64 s.2.2.2.1) (upd 2 (.int .i64 s.2.2.1) (upd 1 (.int .i64 s.2.1) (upd 0 (Sl.v s.1) (σ)))))) (s := (data0, a1, b2, (IntKind.i64.wrap (a1 + 1)), 0)) H ?_
  clear H
  rintro ag1 ⟨data0, a1, b2, i7, j8⟩ σ w H hag1
  replace H : slices_partialInsertionSortOrdered_string_b0 R ag1 data0 a1 b2 i7 j8 w := H
  show Runs _ _ _ _ _ (upd 8 (.int .i64 j8) (upd 7 (.int .i64 i7) (upd 2 (.int .i64 b2) (upd 1 (.int .i64 a1) (upd 0 (Sl.v data0) (σ)))))) _
  unfold slices_partialInsertionSortOrdered_string_b0 at H
  refine r_seq ?_
  refine r_seq ?_
  refine r_region ?_
  refine xo_pure (v := (.int .i64 j8)) rfl (wanted_none rfl _) (p_move rfl rfl) ?_
  refine xo_pure (v := (.bool (decide (j8 < 5)))) rfl (wanted_none rfl _) (p_lt rfl rfl rfl) ?_
  refine xo_end ?_
  refine r_condB (b := (decide (j8 < 5))) rfl H ?_ ?_
  · clear H; intro hb2 H
    refine r_skip ?_
    refine r_seqJ (fun (s : Sl × Int × Int × Int × Int) σ => upd 8 (.int .i64 s.2.2.2.2) (upd 7 (.int .i64 s.2.2.2.1) (upd 2 (.int .i64 s.2.2.1) (upd 1 (.int .i64 s.2.1) (upd 0 (Sl.v s.1) (σ)))))) (fun (s : Sl × Int × Int × Int × Int) w => slices_partialInsertionSortOrdered_string_k1 R ag1 s.1 s.2.1 s.2.2.1 s.2.2.2.1 s.2.2.2.2 w) ?_ ?_
    · rintro ⟨data0, a1, b2, i7, j8⟩ σ w H
      replace H : slices_partialInsertionSortOrdered_string_k1 R ag1 data0 a1 b2 i7 j8 w := H
      show Runs _ _ _ _ _ (upd 8 (.int .i64 j8) (upd 7 (.int .i64 i7) (upd 2 (.int .i64 b2) (upd 1 (.int .i64 a1) (upd 0 (Sl.v data0) (σ)))))) _
      unfold slices_partialInsertionSortOrdered_string_k1 at H
      refine r_region ?_
      refine xo_pure (v := (.int .i64 j8)) rfl (wanted_none rfl _) (p_move rfl rfl) ?_
      refine xo_pure (v := (.int .i64 (IntKind.i64.wrap (j8 + 1)))) rfl (wanted_none rfl _) (p_add rfl rfl rfl) ?_
      refine xo_pure (v := (.int .i64 (IntKind.i64.wrap (j8 + 1)))) rfl (wanted_none rfl _) (p_assign rfl rfl) ?_
      refine xo_end ?_
      refine r_upd (i := 0) (v := (Sl.v data0)) rfl ?_
      refine r_upd (i := 1) (v := (.int .i64 a1)) rfl ?_
      refine r_upd (i := 2) (v := (.int .i64 b2)) rfl ?_
      refine r_upd (i := 7) (v := (.int .i64 i7)) rfl ?_
      refine r_upd (i := 8) (v := (.int .i64 (IntKind.i64.wrap (j8 + 1)))) rfl ?_
      exact hag1 (data0, a1, b2, i7, (IntKind.i64.wrap (j8 + 1))) _ _ H
    · intro J3
      refine r_block ?_
      refine r_seq ?_
      refine r_block ?_
      refine r_upd (i := 0) (v := (Sl.v data0)) rfl ?_
      refine r_upd (i := 1) (v := (.int .i64 a1)) rfl ?_
      refine r_upd (i := 2) (v := (.int .i64 b2)) rfl ?_
      refine r_upd (i := 7) (v := (.int .i64 i7)) rfl ?_
      refine r_upd (i := 8) (v := (.int .i64 j8)) rfl ?_
      refine r_loopJ (fun (s : Sl × Int × Int × Int × Int) σ => upd 8 (.int .i64 s.2.2.2.2) (upd 7 (.int .i64 s.2.2.2.1) (upd 2 (.int .i64 s.2.2.1) (upd 1 (.int .i64 s.2.1) (upd 0 (Sl.v s.1) (σ)))))) (s := (data0, a1, b2, i7, j8)) H ?_
      clear H
      rintro ag4 ⟨data0, a1, b2, i7, j8⟩ σ w H hag4
      replace H : slices_partialInsertionSortOrdered_string_b2 R ag1 ag4 data0 a1 b2 i7 j8 w := H
      show Runs _ _ _ _ _ (upd 8 (.int .i64 j8) (upd 7 (.int .i64 i7) (upd 2 (.int .i64 b2) (upd 1 (.int .i64 a1) (upd 0 (Sl.v data0) (σ)))))) _
      unfold slices_partialInsertionSortOrdered_string_b2 at H
      refine r_seq ?_
      refine r_seq ?_
      refine r_topJ (fun (s : Sl × Int × Int × Int × Int × Bool) σ => upd 32 (.bool s.2.2.2.2.2) (upd 8 (.int .i64 s.2.2.2.2.1) (upd 7 (.int .i64 s.2.2.2.1) (upd 2 (.int .i64 s.2.2.1) (upd 1 (.int .i64 s.2.1) (upd 0 (Sl.v s.1) (σ))))))) (fun (s : Sl × Int × Int × Int × Int × Bool) w => slices_partialInsertionSortOrdered_string_k3 R ag1 ag4 s.1 s.2.1 s.2.2.1 s.2.2.2.1 s.2.2.2.2.1 s.2.2.2.2.2 w) ?_ ?_
      · rintro ⟨data0, a1, b2, i7, j8, t32⟩ σ w H
        replace H : slices_partialInsertionSortOrdered_string_k3 R ag1 ag4 data0 a1 b2 i7 j8 t32 w := H
        show Runs _ _ _ _ _ (upd 32 (.bool t32) (upd 8 (.int .i64 j8) (upd 7 (.int .i64 i7) (upd 2 (.int .i64 b2) (upd 1 (.int .i64 a1) (upd 0 (Sl.v data0) (σ))))))) _
        unfold slices_partialInsertionSortOrdered_string_k3 at H
        refine r_condB (b := t32) rfl H ?_ ?_
        · clear H; intro hb6 H
          refine r_skip ?_
          refine r_block ?_
          refine r_region ?_
          refine xo_pure (v := (.int .i64 i7)) rfl (wanted_none rfl _) (p_move rfl rfl) ?_
          refine xo_pure (v := (.int .i64 (IntKind.i64.wrap (i7 + 1)))) rfl (wanted_none rfl _) (p_add rfl rfl rfl) ?_
          refine xo_pure (v := (.int .i64 (IntKind.i64.wrap (i7 + 1)))) rfl (wanted_none rfl _) (p_assign rfl rfl) ?_
          refine xo_end ?_
          refine r_inBlock ?_
          refine r_upd (i := 0) (v := (Sl.v data0)) rfl ?_
          refine r_upd (i := 1) (v := (.int .i64 a1)) rfl ?_
          refine r_upd (i := 2) (v := (.int .i64 b2)) rfl ?_
          refine r_upd (i := 7) (v := (.int .i64 (IntKind.i64.wrap (i7 + 1)))) rfl ?_
          refine r_upd (i := 8) (v := (.int .i64 j8)) rfl ?_
          exact hag4 (data0, a1, b2, (IntKind.i64.wrap (i7 + 1)), j8) _ _ H
        · clear H; intro hb6 H
          refine r_exit rfl ?_
          refine r_seq ?_
          refine r_seq ?_
          refine r_region ?_
          refine xo_pure (v := (.int .i64 i7)) rfl (wanted_none rfl _) (p_move rfl rfl) ?_
          refine xo_pure (v := (.int .i64 b2)) rfl (wanted_none rfl _) (p_move rfl rfl) ?_
          refine xo_pure (v := (.bool (decide (i7 = b2)))) rfl (wanted_none rfl _) (p_eq rfl rfl rfl) ?_
          refine xo_end ?_
          refine r_condB (b := (decide (i7 = b2))) rfl H ?_ ?_
          · clear H; intro hb7 H
            refine r_seq ?_
            refine r_region ?_
            refine xo_pure (v := (.bool true)) rfl (wanted_none rfl _) (p_assign rfl rfl) ?_
            refine xo_end ?_
            exact r_ret (fn := Try.f213) Try.func213 (res_1 rfl ⟨by decide, rfl⟩) H
          · clear H; intro hb7 H
            refine r_skip ?_
            refine r_seq ?_
            refine r_seq ?_
            refine r_region ?_
            refine xo_pure (v := (.int .i64 b2)) rfl (wanted_none rfl _) (p_move rfl rfl) ?_
            refine xo_pure (v := (.int .i64 a1)) rfl (wanted_none rfl _) (p_move rfl rfl) ?_
            refine xo_pure (v := (.int .i64 (IntKind.i64.wrap (b2 - a1)))) rfl (wanted_none rfl _) (p_sub rfl rfl rfl) ?_
            refine xo_pure (v := (.bool (decide ((IntKind.i64.wrap (b2 - a1)) < 50)))) rfl (wanted_none rfl _) (p_lt rfl rfl rfl) ?_
            refine xo_end ?_
            refine r_condB (b := (decide ((IntKind.i64.wrap (b2 - a1)) < 50))) rfl H ?_ ?_
            · clear H; intro hb8 H
              refine r_seq ?_
              refine r_region ?_
              refine xo_pure (v := (.bool false)) rfl (wanted_none rfl _) (p_assign rfl rfl) ?_
              refine xo_end ?_
              exact r_ret (fn := Try.f213) Try.func213 (res_1 rfl ⟨by decide, rfl⟩) H
            · clear H; intro hb8 H
              refine r_skip ?_
              refine r_seq ?_
              refine r_draw #[[], [], [], [], [3], [], [], [6], [5, 6, 7], [5, 6, 7, 8], [], [], [10, 11], [10, 11, 12], [0, 1, 5, 6, 7, 8, 9, 10, 11, 12, 13], [0, 1, 5, 6, 7, 8, 9, 10, 11, 12, 13, 14], [0, 1, 2, 3, 4, 5, 6, 7, 8, 9, 10, 11, 12, 13, 14, 15], [0, 1, 2, 3, 4, 5, 6, 7, 8, 9, 10, 11, 12, 13, 14, 15, 16]] 18 rfl rfl ?_
              refine xa_pure (v := (Sl.v data0)) 0 (by decide +kernel) rfl rfl (wanted_none rfl _) (p_move rfl rfl) ?_
              refine xa_pure (v := (.int .i64 i7)) 1 (by decide +kernel) rfl rfl (wanted_none rfl _) (p_move rfl rfl) ?_
              refine xa_pure (v := (Sl.v data0)) 2 (by decide +kernel) rfl rfl (wanted_none rfl _) (p_move rfl rfl) ?_
              refine xa_pure (v := (.int .i64 i7)) 3 (by decide +kernel) rfl rfl (wanted_none rfl _) (p_move rfl rfl) ?_
              refine xa_pure (v := (.int .i64 (IntKind.i64.wrap (i7 - 1)))) 4 (by decide +kernel) rfl rfl (wanted_none rfl _) (p_sub rfl rfl rfl) ?_
              refine xa_pure (v := (Sl.v data0)) 5 (by decide +kernel) rfl rfl (wanted_none rfl _) (p_move rfl rfl) ?_
              refine xa_pure (v := (.int .i64 i7)) 6 (by decide +kernel) rfl rfl (wanted_none rfl _) (p_move rfl rfl) ?_
              refine xa_pure (v := (.int .i64 (IntKind.i64.wrap (i7 - 1)))) 7 (by decide +kernel) rfl rfl (wanted_none rfl _) (p_sub rfl rfl rfl) ?_
              obtain ⟨p_1, hap_1, hlp_1, hup_1, H⟩ := H
              refine xa_pure (v := (.pointer (some (p_1.add ((IntKind.i64.wrap (i7 - 1)).toNat * 1))))) 8 (by decide +kernel) rfl rfl (wanted_none rfl _) (p_indexAddr (s := data0) (ad := p_1) (size := 1) rfl Try.underlying71 Try.ti9 rfl rfl hap_1 hlp_1 hup_1) ?_
              obtain ⟨adv_2, v_2, hev_2, hcv_2, H⟩ := H
              refine xa_read (v := (.string v_2)) (S := (fun w => w.cell? adv_2 = some (.string v_2))) 9 (by decide +kernel) rfl rfl (wanted_none rfl _) (fun w hc => rd_load (ad := adv_2) rfl Try.underlying9 rfl (by show Value.pointer _ = _; rw [hev_2]) hc) hcv_2 ?_
              refine xa_pure (v := (Sl.v data0)) 10 (by decide +kernel) rfl rfl (wanted_none rfl _) (p_move rfl rfl) ?_
              refine xa_pure (v := (.int .i64 i7)) 11 (by decide +kernel) rfl rfl (wanted_none rfl _) (p_move rfl rfl) ?_
              obtain ⟨p_3, hap_3, hlp_3, hup_3, H⟩ := H
              refine xa_pure (v := (.pointer (some (p_3.add (i7.toNat * 1))))) 12 (by decide +kernel) rfl rfl (wanted_none rfl _) (p_indexAddr (s := data0) (ad := p_3) (size := 1) rfl Try.underlying71 Try.ti9 rfl rfl hap_3 hlp_3 hup_3) ?_
              obtain ⟨adv_4, v_4, hev_4, hcv_4, H⟩ := H
              refine xa_read (v := (.string v_4)) (S := (fun w => w.cell? adv_4 = some (.string v_4))) 13 (by decide +kernel) rfl rfl (wanted_none rfl _) (fun w hc => rd_load (ad := adv_4) rfl Try.underlying9 rfl (by show Value.pointer _ = _; rw [hev_4]) hc) hcv_4 ?_
              obtain ⟨p_5, hap_5, hlp_5, hup_5, H⟩ := H
              refine xa_pure (v := (.pointer (some (p_5.add (i7.toNat * 1))))) 14 (by decide +kernel) rfl rfl (wanted_none rfl _) (p_indexAddr (s := data0) (ad := p_5) (size := 1) rfl Try.underlying71 Try.ti9 rfl rfl hap_5 hlp_5 hup_5) ?_
              refine xa_effN 15 [] (by decide +kernel) rfl rfl rfl (wanted_none rfl _) (e_store rfl Try.ti9 rfl rfl rfl H) ?_
              intro _ w_2 H
              refine ⟨AllHeld.nil, ?_⟩
              obtain ⟨p_6, hap_6, hlp_6, hup_6, H⟩ := H
              refine xa_pure (v := (.pointer (some (p_6.add ((IntKind.i64.wrap (i7 - 1)).toNat * 1))))) 16 (by decide +kernel) rfl rfl (wanted_none rfl _) (p_indexAddr (s := data0) (ad := p_6) (size := 1) rfl Try.underlying71 Try.ti9 rfl rfl hap_6 hlp_6 hup_6) ?_
              refine xa_effN 17 [] (by decide +kernel) rfl rfl rfl (wanted_none rfl _) (e_store rfl Try.ti9 rfl rfl rfl H) ?_
              intro _ w_3 H
              refine ⟨AllHeld.nil, ?_⟩
              refine xa_end (by decide +kernel) ?_
              refine r_seqJ (fun (s : Sl × Int × Int × Int × Int) σ => upd 8 (.int .i64 s.2.2.2.2) (upd 7 (.int .i64 s.2.2.2.1) (upd 2 (.int .i64 s.2.2.1) (upd 1 (.int .i64 s.2.1) (upd 0 (Sl.v s.1) (σ)))))) (fun (s : Sl × Int × Int × Int × Int) w => slices_partialInsertionSortOrdered_string_k4 R ag1 ag4 s.1 s.2.1 s.2.2.1 s.2.2.2.1 s.2.2.2.2 w) ?_ ?_
              · rintro ⟨data0, a1, b2, i7, j8⟩ σ w H
                replace H : slices_partialInsertionSortOrdered_string_k4 R ag1 ag4 data0 a1 b2 i7 j8 w := H
                show Runs _ _ _ _ _ (upd 8 (.int .i64 j8) (upd 7 (.int .i64 i7) (upd 2 (.int .i64 b2) (upd 1 (.int .i64 a1) (upd 0 (Sl.v data0) (σ)))))) _
                unfold slices_partialInsertionSortOrdered_string_k4 at H
                refine r_seq ?_
                refine r_region ?_
                refine xo_pure (v := (.int .i64 b2)) rfl (wanted_none rfl _) (p_move rfl rfl) ?_
                refine xo_pure (v := (.int .i64 i7)) rfl (wanted_none rfl _) (p_move rfl rfl) ?_
                refine xo_pure (v := (.int .i64 (IntKind.i64.wrap (b2 - i7)))) rfl (wanted_none rfl _) (p_sub rfl rfl rfl) ?_
                refine xo_pure (v := (.bool (decide (2 ≤ (IntKind.i64.wrap (b2 - i7)))))) rfl (wanted_none rfl _) (p_ge rfl rfl rfl) ?_
                refine xo_end ?_
                refine r_condB (b := (decide (2 ≤ (IntKind.i64.wrap (b2 - i7))))) rfl H ?_ ?_
                · clear H; intro hb10 H
                  refine r_seq ?_
                  refine r_region ?_
                  refine xo_pure (v := (.int .i64 i7)) rfl (wanted_none rfl _) (p_move rfl rfl) ?_
                  refine xo_pure (v := (.int .i64 (IntKind.i64.wrap (i7 + 1)))) rfl (wanted_none rfl _) (p_add rfl rfl rfl) ?_
                  refine xo_pure (v := (.int .i64 (IntKind.i64.wrap (i7 + 1)))) rfl (wanted_none rfl _) (p_assign rfl rfl) ?_
                  refine xo_end ?_
                  refine r_block ?_
                  refine r_upd (i := 0) (v := (Sl.v data0)) rfl ?_
                  refine r_upd (i := 1) (v := (.int .i64 a1)) rfl ?_
                  refine r_upd (i := 2) (v := (.int .i64 b2)) rfl ?_
                  refine r_upd (i := 7) (v := (.int .i64 i7)) rfl ?_
                  refine r_upd (i := 8) (v := (.int .i64 j8)) rfl ?_
                  refine r_upd (i := 10) (v := (.int .i64 (IntKind.i64.wrap (i7 + 1)))) rfl ?_
                  refine r_loopJ (fun (s : Sl × Int × Int × Int × Int × Int) σ => upd 10 (.int .i64 s.2.2.2.2.2) (upd 8 (.int .i64 s.2.2.2.2.1) (upd 7 (.int .i64 s.2.2.2.1) (upd 2 (.int .i64 s.2.2.1) (upd 1 (.int .i64 s.2.1) (upd 0 (Sl.v s.1) (σ))))))) (s := (data0, a1, b2, i7, j8, (IntKind.i64.wrap (i7 + 1)))) H ?_
                  clear H
                  rintro ag11 ⟨data0, a1, b2, i7, j8, j10⟩ σ w H hag11
                  replace H : slices_partialInsertionSortOrdered_string_b5 R ag1 ag4 ag11 data0 a1 b2 i7 j8 j10 w := H
                  show Runs _ _ _ _ _ (upd 10 (.int .i64 j10) (upd 8 (.int .i64 j8) (upd 7 (.int .i64 i7) (upd 2 (.int .i64 b2) (upd 1 (.int .i64 a1) (upd 0 (Sl.v data0) (σ))))))) _
                  unfold slices_partialInsertionSortOrdered_string_b5 at H
                  refine r_seq ?_
                  refine r_seq ?_
                  refine r_region ?_
                  refine xo_pure (v := (.int .i64 j10)) rfl (wanted_none rfl _) (p_move rfl rfl) ?_
                  refine xo_pure (v := (.int .i64 b2)) rfl (wanted_none rfl _) (p_move rfl rfl) ?_
                  refine xo_pure (v := (.bool (decide (j10 < b2)))) rfl (wanted_none rfl _) (p_lt rfl rfl rfl) ?_
                  refine xo_end ?_
                  refine r_condB (b := (decide (j10 < b2))) rfl H ?_ ?_
                  · clear H; intro hb12 H
                    refine r_skip ?_
                    refine r_seq ?_
                    refine r_block ?_
                    refine r_seq ?_
                    refine r_seq ?_
                    refine r_draw #[[], [], [0, 1], [0, 1, 2], [], [], [5], [4, 5, 6], [4, 5, 6, 7], [0, 1, 2, 3, 4, 5, 6, 7, 8], [0, 1, 2, 3, 4, 5, 6, 7, 8, 9]] 11 rfl rfl ?_
                    refine xa_pure (v := (Sl.v data0)) 0 (by decide +kernel) rfl rfl (wanted_none rfl _) (p_move rfl rfl) ?_
                    refine xa_pure (v := (.int .i64 j10)) 1 (by decide +kernel) rfl rfl (wanted_none rfl _) (p_move rfl rfl) ?_
                    obtain ⟨p_7, hap_7, hlp_7, hup_7, H⟩ := H
                    refine xa_pure (v := (.pointer (some (p_7.add (j10.toNat * 1))))) 2 (by decide +kernel) rfl rfl (wanted_none rfl _) (p_indexAddr (s := data0) (ad := p_7) (size := 1) rfl Try.underlying71 Try.ti9 rfl rfl hap_7 hlp_7 hup_7) ?_
                    obtain ⟨adv_8, v_8, hev_8, hcv_8, H⟩ := H
                    refine xa_read (v := (.string v_8)) (S := (fun w => w.cell? adv_8 = some (.string v_8))) 3 (by decide +kernel) rfl rfl (wanted_none rfl _) (fun w hc => rd_load (ad := adv_8) rfl Try.underlying9 rfl (by show Value.pointer _ = _; rw [hev_8]) hc) hcv_8 ?_
                    refine xa_pure (v := (Sl.v data0)) 4 (by decide +kernel) rfl rfl (wanted_none rfl _) (p_move rfl rfl) ?_
                    refine xa_pure (v := (.int .i64 j10)) 5 (by decide +kernel) rfl rfl (wanted_none rfl _) (p_move rfl rfl) ?_
                    refine xa_pure (v := (.int .i64 (IntKind.i64.wrap (j10 - 1)))) 6 (by decide +kernel) rfl rfl (wanted_none rfl _) (p_sub rfl rfl rfl) ?_
                    obtain ⟨p_9, hap_9, hlp_9, hup_9, H⟩ := H
                    refine xa_pure (v := (.pointer (some (p_9.add ((IntKind.i64.wrap (j10 - 1)).toNat * 1))))) 7 (by decide +kernel) rfl rfl (wanted_none rfl _) (p_indexAddr (s := data0) (ad := p_9) (size := 1) rfl Try.underlying71 Try.ti9 rfl rfl hap_9 hlp_9 hup_9) ?_
                    obtain ⟨adv_10, v_10, hev_10, hcv_10, H⟩ := H
                    refine xa_read (v := (.string v_10)) (S := (fun w => w.cell? adv_10 = some (.string v_10))) 8 (by decide +kernel) rfl rfl (wanted_none rfl _) (fun w hc => rd_load (ad := adv_10) rfl Try.underlying9 rfl (by show Value.pointer _ = _; rw [hev_10]) hc) hcv_10 ?_
                    refine xa_eff 9 [] (by decide +kernel) rfl rfl rfl (wanted_none rfl _) (e_call (fn := Try.f214) H rfl rfl Try.func214 rfl rfl rfl) ?_
                    rintro _ w_5 ⟨v_12, rfl, H⟩
                    refine ⟨AllHeld.nil, ?_⟩
                    refine xa_pure (v := (.bool (!v_12))) 10 (by decide +kernel) rfl rfl (wanted_none rfl _) (p_not rfl rfl) ?_
                    refine xa_end (by decide +kernel) ?_
                    refine r_condB (b := (!v_12)) rfl H ?_ ?_
                    · clear H; intro hb13 H
                      refine r_exit rfl ?_
                      refine r_inBlock ?_
                      refine r_upd (i := 0) (v := (Sl.v data0)) rfl ?_
                      refine r_upd (i := 1) (v := (.int .i64 a1)) rfl ?_
                      refine r_upd (i := 2) (v := (.int .i64 b2)) rfl ?_
                      refine r_upd (i := 7) (v := (.int .i64 i7)) rfl ?_
                      refine r_upd (i := 8) (v := (.int .i64 j8)) rfl ?_
                      exact J3 (data0, a1, b2, i7, j8) _ _ H
                    · clear H; intro hb13 H
                      refine r_skip ?_
                      refine r_draw #[[], [], [], [], [3], [], [], [6], [5, 6, 7], [5, 6, 7, 8], [], [], [10, 11], [10, 11, 12], [0, 1, 5, 6, 7, 8, 9, 10, 11, 12, 13], [0, 1, 5, 6, 7, 8, 9, 10, 11, 12, 13, 14], [0, 1, 2, 3, 4, 5, 6, 7, 8, 9, 10, 11, 12, 13, 14, 15], [0, 1, 2, 3, 4, 5, 6, 7, 8, 9, 10, 11, 12, 13, 14, 15, 16]] 18 rfl rfl ?_
                      refine xa_pure (v := (Sl.v data0)) 0 (by decide +kernel) rfl rfl (wanted_none rfl _) (p_move rfl rfl) ?_
                      refine xa_pure (v := (.int .i64 j10)) 1 (by decide +kernel) rfl rfl (wanted_none rfl _) (p_move rfl rfl) ?_
                      refine xa_pure (v := (Sl.v data0)) 2 (by decide +kernel) rfl rfl (wanted_none rfl _) (p_move rfl rfl) ?_
                      refine xa_pure (v := (.int .i64 j10)) 3 (by decide +kernel) rfl rfl (wanted_none rfl _) (p_move rfl rfl) ?_
                      refine xa_pure (v := (.int .i64 (IntKind.i64.wrap (j10 - 1)))) 4 (by decide +kernel) rfl rfl (wanted_none rfl _) (p_sub rfl rfl rfl) ?_
                      refine xa_pure (v := (Sl.v data0)) 5 (by decide +kernel) rfl rfl (wanted_none rfl _) (p_move rfl rfl) ?_
                      refine xa_pure (v := (.int .i64 j10)) 6 (by decide +kernel) rfl rfl (wanted_none rfl _) (p_move rfl rfl) ?_
                      refine xa_pure (v := (.int .i64 (IntKind.i64.wrap (j10 - 1)))) 7 (by decide +kernel) rfl rfl (wanted_none rfl _) (p_sub rfl rfl rfl) ?_
                      obtain ⟨p_13, hap_13, hlp_13, hup_13, H⟩ := H
                      refine xa_pure (v := (.pointer (some (p_13.add ((IntKind.i64.wrap (j10 - 1)).toNat * 1))))) 8 (by decide +kernel) rfl rfl (wanted_none rfl _) (p_indexAddr (s := data0) (ad := p_13) (size := 1) rfl Try.underlying71 Try.ti9 rfl rfl hap_13 hlp_13 hup_13) ?_
                      obtain ⟨adv_14, v_14, hev_14, hcv_14, H⟩ := H
                      refine xa_read (v := (.string v_14)) (S := (fun w => w.cell? adv_14 = some (.string v_14))) 9 (by decide +kernel) rfl rfl (wanted_none rfl _) (fun w hc => rd_load (ad := adv_14) rfl Try.underlying9 rfl (by show Value.pointer _ = _; rw [hev_14]) hc) hcv_14 ?_
                      refine xa_pure (v := (Sl.v data0)) 10 (by decide +kernel) rfl rfl (wanted_none rfl _) (p_move rfl rfl) ?_
                      refine xa_pure (v := (.int .i64 j10)) 11 (by decide +kernel) rfl rfl (wanted_none rfl _) (p_move rfl rfl) ?_
                      obtain ⟨p_15, hap_15, hlp_15, hup_15, H⟩ := H
                      refine xa_pure (v := (.pointer (some (p_15.add (j10.toNat * 1))))) 12 (by decide +kernel) rfl rfl (wanted_none rfl _) (p_indexAddr (s := data0) (ad := p_15) (size := 1) rfl Try.underlying71 Try.ti9 rfl rfl hap_15 hlp_15 hup_15) ?_
                      obtain ⟨adv_16, v_16, hev_16, hcv_16, H⟩ := H
                      refine xa_read (v := (.string v_16)) (S := (fun w => w.cell? adv_16 = some (.string v_16))) 13 (by decide +kernel) rfl rfl (wanted_none rfl _) (fun w hc => rd_load (ad := adv_16) rfl Try.underlying9 rfl (by show Value.pointer _ = _; rw [hev_16]) hc) hcv_16 ?_
                      obtain ⟨p_17, hap_17, hlp_17, hup_17, H⟩ := H
                      refine xa_pure (v := (.pointer (some (p_17.add (j10.toNat * 1))))) 14 (by decide +kernel) rfl rfl (wanted_none rfl _) (p_indexAddr (s := data0) (ad := p_17) (size := 1) rfl Try.underlying71 Try.ti9 rfl rfl hap_17 hlp_17 hup_17) ?_
                      refine xa_effN 15 [] (by decide +kernel) rfl rfl rfl (wanted_none rfl _) (e_store rfl Try.ti9 rfl rfl rfl H) ?_
                      intro _ w_7 H
                      refine ⟨AllHeld.nil, ?_⟩
                      obtain ⟨p_18, hap_18, hlp_18, hup_18, H⟩ := H
                      refine xa_pure (v := (.pointer (some (p_18.add ((IntKind.i64.wrap (j10 - 1)).toNat * 1))))) 16 (by decide +kernel) rfl rfl (wanted_none rfl _) (p_indexAddr (s := data0) (ad := p_18) (size := 1) rfl Try.underlying71 Try.ti9 rfl rfl hap_18 hlp_18 hup_18) ?_
                      refine xa_effN 17 [] (by decide +kernel) rfl rfl rfl (wanted_none rfl _) (e_store rfl Try.ti9 rfl rfl rfl H) ?_
                      intro _ w_8 H
                      refine ⟨AllHeld.nil, ?_⟩
                      refine xa_end (by decide +kernel) ?_
                      refine r_inBlock ?_
                      refine r_region ?_
                      refine xo_pure (v := (.int .i64 j10)) rfl (wanted_none rfl _) (p_move rfl rfl) ?_
                      refine xo_pure (v := (.int .i64 (IntKind.i64.wrap (j10 + 1)))) rfl (wanted_none rfl _) (p_add rfl rfl rfl) ?_
                      refine xo_pure (v := (.int .i64 (IntKind.i64.wrap (j10 + 1)))) rfl (wanted_none rfl _) (p_assign rfl rfl) ?_
                      refine xo_end ?_
                      refine r_upd (i := 0) (v := (Sl.v data0)) rfl ?_
                      refine r_upd (i := 1) (v := (.int .i64 a1)) rfl ?_
                      refine r_upd (i := 2) (v := (.int .i64 b2)) rfl ?_
                      refine r_upd (i := 7) (v := (.int .i64 i7)) rfl ?_
                      refine r_upd (i := 8) (v := (.int .i64 j8)) rfl ?_
                      refine r_upd (i := 10) (v := (.int .i64 (IntKind.i64.wrap (j10 + 1)))) rfl ?_
                      exact hag11 (data0, a1, b2, i7, j8, (IntKind.i64.wrap (j10 + 1))) _ _ H
                  · clear H; intro hb12 H
                    refine r_exit rfl ?_
                    refine r_inBlock ?_
                    refine r_upd (i := 0) (v := (Sl.v data0)) rfl ?_
                    refine r_upd (i := 1) (v := (.int .i64 a1)) rfl ?_
                    refine r_upd (i := 2) (v := (.int .i64 b2)) rfl ?_
                    refine r_upd (i := 7) (v := (.int .i64 i7)) rfl ?_
                    refine r_upd (i := 8) (v := (.int .i64 j8)) rfl ?_
                    exact J3 (data0, a1, b2, i7, j8) _ _ H
                · clear H; intro hb10 H
                  refine r_skip ?_
                  refine r_inBlock ?_
                  refine r_upd (i := 0) (v := (Sl.v data0)) rfl ?_
                  refine r_upd (i := 1) (v := (.int .i64 a1)) rfl ?_
                  refine r_upd (i := 2) (v := (.int .i64 b2)) rfl ?_
                  refine r_upd (i := 7) (v := (.int .i64 i7)) rfl ?_
                  refine r_upd (i := 8) (v := (.int .i64 j8)) rfl ?_
                  exact J3 (data0, a1, b2, i7, j8) _ _ H
              · intro J9
                refine r_seq ?_
                refine r_region ?_
                refine xo_pure (v := (.int .i64 i7)) rfl (wanted_none rfl _) (p_move rfl rfl) ?_
                refine xo_pure (v := (.int .i64 a1)) rfl (wanted_none rfl _) (p_move rfl rfl) ?_
                refine xo_pure (v := (.int .i64 (IntKind.i64.wrap (i7 - a1)))) rfl (wanted_none rfl _) (p_sub rfl rfl rfl) ?_
                refine xo_pure (v := (.bool (decide (2 ≤ (IntKind.i64.wrap (i7 - a1)))))) rfl (wanted_none rfl _) (p_ge rfl rfl rfl) ?_
                refine xo_end ?_
                refine r_condB (b := (decide (2 ≤ (IntKind.i64.wrap (i7 - a1))))) rfl H ?_ ?_
                · clear H; intro hb14 H
                  refine r_seq ?_
                  refine r_region ?_
                  refine xo_pure (v := (.int .i64 i7)) rfl (wanted_none rfl _) (p_move rfl rfl) ?_
                  refine xo_pure (v := (.int .i64 (IntKind.i64.wrap (i7 - 1)))) rfl (wanted_none rfl _) (p_sub rfl rfl rfl) ?_
                  refine xo_pure (v := (.int .i64 (IntKind.i64.wrap (i7 - 1)))) rfl (wanted_none rfl _) (p_assign rfl rfl) ?_
                  refine xo_end ?_
                  refine r_block ?_
                  refine r_upd (i := 0) (v := (Sl.v data0)) rfl ?_
                  refine r_upd (i := 1) (v := (.int .i64 a1)) rfl ?_
                  refine r_upd (i := 2) (v := (.int .i64 b2)) rfl ?_
                  refine r_upd (i := 7) (v := (.int .i64 i7)) rfl ?_
                  refine r_upd (i := 8) (v := (.int .i64 j8)) rfl ?_
                  refine r_upd (i := 9) (v := (.int .i64 (IntKind.i64.wrap (i7 - 1)))) rfl ?_
                  refine r_loopJ (fun (s : Sl × Int × Int × Int × Int × Int) σ => upd 9 (.int .i64 s.2.2.2.2.2) (upd 8 (.int .i64 s.2.2.2.2.1) (upd 7 (.int .i64 s.2.2.2.1) (upd 2 (.int .i64 s.2.2.1) (upd 1 (.int .i64 s.2.1) (upd 0 (Sl.v s.1) (σ))))))) (s := (data0, a1, b2, i7, j8, (IntKind.i64.wrap (i7 - 1)))) H ?_
                  clear H
                  rintro ag15 ⟨data0, a1, b2, i7, j8, j9⟩ σ w H hag15
                  replace H : slices_partialInsertionSortOrdered_string_b6 R ag1 ag4 ag15 data0 a1 b2 i7 j8 j9 w := H
                  show Runs _ _ _ _ _ (upd 9 (.int .i64 j9) (upd 8 (.int .i64 j8) (upd 7 (.int .i64 i7) (upd 2 (.int .i64 b2) (upd 1 (.int .i64 a1) (upd 0 (Sl.v data0) (σ))))))) _
                  unfold slices_partialInsertionSortOrdered_string_b6 at H
                  refine r_seq ?_
                  refine r_seq ?_
                  refine r_region ?_
                  refine xo_pure (v := (.int .i64 j9)) rfl (wanted_none rfl _) (p_move rfl rfl) ?_
                  refine xo_pure (v := (.bool (decide (1 ≤ j9)))) rfl (wanted_none rfl _) (p_ge rfl rfl rfl) ?_
                  refine xo_end ?_
                  refine r_condB (b := (decide (1 ≤ j9))) rfl H ?_ ?_
                  · clear H; intro hb16 H
                    refine r_skip ?_
                    refine r_seq ?_
                    refine r_block ?_
                    refine r_seq ?_
                    refine r_seq ?_
                    refine r_draw #[[], [], [0, 1], [0, 1, 2], [], [], [5], [4, 5, 6], [4, 5, 6, 7], [0, 1, 2, 3, 4, 5, 6, 7, 8], [0, 1, 2, 3, 4, 5, 6, 7, 8, 9]] 11 rfl rfl ?_
                    refine xa_pure (v := (Sl.v data0)) 0 (by decide +kernel) rfl rfl (wanted_none rfl _) (p_move rfl rfl) ?_
                    refine xa_pure (v := (.int .i64 j9)) 1 (by decide +kernel) rfl rfl (wanted_none rfl _) (p_move rfl rfl) ?_
                    obtain ⟨p_19, hap_19, hlp_19, hup_19, H⟩ := H
                    refine xa_pure (v := (.pointer (some (p_19.add (j9.toNat * 1))))) 2 (by decide +kernel) rfl rfl (wanted_none rfl _) (p_indexAddr (s := data0) (ad := p_19) (size := 1) rfl Try.underlying71 Try.ti9 rfl rfl hap_19 hlp_19 hup_19) ?_
                    obtain ⟨adv_20, v_20, hev_20, hcv_20, H⟩ := H
                    refine xa_read (v := (.string v_20)) (S := (fun w => w.cell? adv_20 = some (.string v_20))) 3 (by decide +kernel) rfl rfl (wanted_none rfl _) (fun w hc => rd_load (ad := adv_20) rfl Try.underlying9 rfl (by show Value.pointer _ = _; rw [hev_20]) hc) hcv_20 ?_
                    refine xa_pure (v := (Sl.v data0)) 4 (by decide +kernel) rfl rfl (wanted_none rfl _) (p_move rfl rfl) ?_
                    refine xa_pure (v := (.int .i64 j9)) 5 (by decide +kernel) rfl rfl (wanted_none rfl _) (p_move rfl rfl) ?_
                    refine xa_pure (v := (.int .i64 (IntKind.i64.wrap (j9 - 1)))) 6 (by decide +kernel) rfl rfl (wanted_none rfl _) (p_sub rfl rfl rfl) ?_
                    obtain ⟨p_21, hap_21, hlp_21, hup_21, H⟩ := H
                    refine xa_pure (v := (.pointer (some (p_21.add ((IntKind.i64.wrap (j9 - 1)).toNat * 1))))) 7 (by decide +kernel) rfl rfl (wanted_none rfl _) (p_indexAddr (s := data0) (ad := p_21) (size := 1) rfl Try.underlying71 Try.ti9 rfl rfl hap_21 hlp_21 hup_21) ?_
                    obtain ⟨adv_22, v_22, hev_22, hcv_22, H⟩ := H
                    refine xa_read (v := (.string v_22)) (S := (fun w => w.cell? adv_22 = some (.string v_22))) 8 (by decide +kernel) rfl rfl (wanted_none rfl _) (fun w hc => rd_load (ad := adv_22) rfl Try.underlying9 rfl (by show Value.pointer _ = _; rw [hev_22]) hc) hcv_22 ?_
                    refine xa_eff 9 [] (by decide +kernel) rfl rfl rfl (wanted_none rfl _) (e_call (fn := Try.f214) H rfl rfl Try.func214 rfl rfl rfl) ?_
                    rintro _ w_10 ⟨v_24, rfl, H⟩
                    refine ⟨AllHeld.nil, ?_⟩
                    refine xa_pure (v := (.bool (!v_24))) 10 (by decide +kernel) rfl rfl (wanted_none rfl _) (p_not rfl rfl) ?_
                    refine xa_end (by decide +kernel) ?_
                    refine r_condB (b := (!v_24)) rfl H ?_ ?_
                    · clear H; intro hb17 H
                      refine r_exit rfl ?_
                      refine r_upd (i := 0) (v := (Sl.v data0)) rfl ?_
                      refine r_upd (i := 1) (v := (.int .i64 a1)) rfl ?_
                      refine r_upd (i := 2) (v := (.int .i64 b2)) rfl ?_
                      refine r_upd (i := 7) (v := (.int .i64 i7)) rfl ?_
                      refine r_upd (i := 8) (v := (.int .i64 j8)) rfl ?_
                      exact J9 (data0, a1, b2, i7, j8) _ _ H
                    · clear H; intro hb17 H
                      refine r_skip ?_
                      refine r_draw #[[], [], [], [], [3], [], [], [6], [5, 6, 7], [5, 6, 7, 8], [], [], [10, 11], [10, 11, 12], [0, 1, 5, 6, 7, 8, 9, 10, 11, 12, 13], [0, 1, 5, 6, 7, 8, 9, 10, 11, 12, 13, 14], [0, 1, 2, 3, 4, 5, 6, 7, 8, 9, 10, 11, 12, 13, 14, 15], [0, 1, 2, 3, 4, 5, 6, 7, 8, 9, 10, 11, 12, 13, 14, 15, 16]] 18 rfl rfl ?_
                      refine xa_pure (v := (Sl.v data0)) 0 (by decide +kernel) rfl rfl (wanted_none rfl _) (p_move rfl rfl) ?_
                      refine xa_pure (v := (.int .i64 j9)) 1 (by decide +kernel) rfl rfl (wanted_none rfl _) (p_move rfl rfl) ?_
                      refine xa_pure (v := (Sl.v data0)) 2 (by decide +kernel) rfl rfl (wanted_none rfl _) (p_move rfl rfl) ?_
                      refine xa_pure (v := (.int .i64 j9)) 3 (by decide +kernel) rfl rfl (wanted_none rfl _) (p_move rfl rfl) ?_
                      refine xa_pure (v := (.int .i64 (IntKind.i64.wrap (j9 - 1)))) 4 (by decide +kernel) rfl rfl (wanted_none rfl _) (p_sub rfl rfl rfl) ?_
                      refine xa_pure (v := (Sl.v data0)) 5 (by decide +kernel) rfl rfl (wanted_none rfl _) (p_move rfl rfl) ?_
                      refine xa_pure (v := (.int .i64 j9)) 6 (by decide +kernel) rfl rfl (wanted_none rfl _) (p_move rfl rfl) ?_
                      refine xa_pure (v := (.int .i64 (IntKind.i64.wrap (j9 - 1)))) 7 (by decide +kernel) rfl rfl (wanted_none rfl _) (p_sub rfl rfl rfl) ?_
                      obtain ⟨p_25, hap_25, hlp_25, hup_25, H⟩ := H
                      refine xa_pure (v := (.pointer (some (p_25.add ((IntKind.i64.wrap (j9 - 1)).toNat * 1))))) 8 (by decide +kernel) rfl rfl (wanted_none rfl _) (p_indexAddr (s := data0) (ad := p_25) (size := 1) rfl Try.underlying71 Try.ti9 rfl rfl hap_25 hlp_25 hup_25) ?_
                      obtain ⟨adv_26, v_26, hev_26, hcv_26, H⟩ := H
                      refine xa_read (v := (.string v_26)) (S := (fun w => w.cell? adv_26 = some (.string v_26))) 9 (by decide +kernel) rfl rfl (wanted_none rfl _) (fun w hc => rd_load (ad := adv_26) rfl Try.underlying9 rfl (by show Value.pointer _ = _; rw [hev_26]) hc) hcv_26 ?_
                      refine xa_pure (v := (Sl.v data0)) 10 (by decide +kernel) rfl rfl (wanted_none rfl _) (p_move rfl rfl) ?_
                      refine xa_pure (v := (.int .i64 j9)) 11 (by decide +kernel) rfl rfl (wanted_none rfl _) (p_move rfl rfl) ?_
                      obtain ⟨p_27, hap_27, hlp_27, hup_27, H⟩ := H
                      refine xa_pure (v := (.pointer (some (p_27.add (j9.toNat * 1))))) 12 (by decide +kernel) rfl rfl (wanted_none rfl _) (p_indexAddr (s := data0) (ad := p_27) (size := 1) rfl Try.underlying71 Try.ti9 rfl rfl hap_27 hlp_27 hup_27) ?_
                      obtain ⟨adv_28, v_28, hev_28, hcv_28, H⟩ := H
                      refine xa_read (v := (.string v_28)) (S := (fun w => w.cell? adv_28 = some (.string v_28))) 13 (by decide +kernel) rfl rfl (wanted_none rfl _) (fun w hc => rd_load (ad := adv_28) rfl Try.underlying9 rfl (by show Value.pointer _ = _; rw [hev_28]) hc) hcv_28 ?_
                      obtain ⟨p_29, hap_29, hlp_29, hup_29, H⟩ := H
                      refine xa_pure (v := (.pointer (some (p_29.add (j9.toNat * 1))))) 14 (by decide +kernel) rfl rfl (wanted_none rfl _) (p_indexAddr (s := data0) (ad := p_29) (size := 1) rfl Try.underlying71 Try.ti9 rfl rfl hap_29 hlp_29 hup_29) ?_
                      refine xa_effN 15 [] (by decide +kernel) rfl rfl rfl (wanted_none rfl _) (e_store rfl Try.ti9 rfl rfl rfl H) ?_
                      intro _ w_12 H
                      refine ⟨AllHeld.nil, ?_⟩
                      obtain ⟨p_30, hap_30, hlp_30, hup_30, H⟩ := H
                      refine xa_pure (v := (.pointer (some (p_30.add ((IntKind.i64.wrap (j9 - 1)).toNat * 1))))) 16 (by decide +kernel) rfl rfl (wanted_none rfl _) (p_indexAddr (s := data0) (ad := p_30) (size := 1) rfl Try.underlying71 Try.ti9 rfl rfl hap_30 hlp_30 hup_30) ?_
                      refine xa_effN 17 [] (by decide +kernel) rfl rfl rfl (wanted_none rfl _) (e_store rfl Try.ti9 rfl rfl rfl H) ?_
                      intro _ w_13 H
                      refine ⟨AllHeld.nil, ?_⟩
                      refine xa_end (by decide +kernel) ?_
                      refine r_inBlock ?_
                      refine r_region ?_
                      refine xo_pure (v := (.int .i64 j9)) rfl (wanted_none rfl _) (p_move rfl rfl) ?_
                      refine xo_pure (v := (.int .i64 (IntKind.i64.wrap (j9 - 1)))) rfl (wanted_none rfl _) (p_sub rfl rfl rfl) ?_
                      refine xo_pure (v := (.int .i64 (IntKind.i64.wrap (j9 - 1)))) rfl (wanted_none rfl _) (p_assign rfl rfl) ?_
                      refine xo_end ?_
                      refine r_upd (i := 0) (v := (Sl.v data0)) rfl ?_
                      refine r_upd (i := 1) (v := (.int .i64 a1)) rfl ?_
                      refine r_upd (i := 2) (v := (.int .i64 b2)) rfl ?_
                      refine r_upd (i := 7) (v := (.int .i64 i7)) rfl ?_
                      refine r_upd (i := 8) (v := (.int .i64 j8)) rfl ?_
                      refine r_upd (i := 9) (v := (.int .i64 (IntKind.i64.wrap (j9 - 1)))) rfl ?_
                      exact hag15 (data0, a1, b2, i7, j8, (IntKind.i64.wrap (j9 - 1))) _ _ H
                  · clear H; intro hb16 H
                    refine r_exit rfl ?_
                    refine r_upd (i := 0) (v := (Sl.v data0)) rfl ?_
                    refine r_upd (i := 1) (v := (.int .i64 a1)) rfl ?_
                    refine r_upd (i := 2) (v := (.int .i64 b2)) rfl ?_
                    refine r_upd (i := 7) (v := (.int .i64 i7)) rfl ?_
                    refine r_upd (i := 8) (v := (.int .i64 j8)) rfl ?_
                    exact J9 (data0, a1, b2, i7, j8) _ _ H
                · clear H; intro hb14 H
                  refine r_skip ?_
                  refine r_upd (i := 0) (v := (Sl.v data0)) rfl ?_
                  refine r_upd (i := 1) (v := (.int .i64 a1)) rfl ?_
                  refine r_upd (i := 2) (v := (.int .i64 b2)) rfl ?_
                  refine r_upd (i := 7) (v := (.int .i64 i7)) rfl ?_
                  refine r_upd (i := 8) (v := (.int .i64 j8)) rfl ?_
                  exact J9 (data0, a1, b2, i7, j8) _ _ H
      · intro J5
        refine r_draw #[[], [], [0, 1], [0, 1, 2], [0, 1, 2, 3], [0, 1, 2, 3], [0, 1, 2, 3, 4, 5], [0, 1, 2, 3, 4, 5, 6], [0, 1, 2, 3], [0, 1, 2, 3], [0, 1, 2, 3, 9], [0, 1, 2, 3, 8, 9, 10], [0, 1, 2, 3, 8, 9, 10, 11], [0, 1, 2, 3, 4, 5, 6, 7, 8, 9, 10, 11, 12], [0, 1, 2, 3, 4, 5, 6, 7, 8, 9, 10, 11, 12, 13], [0, 1, 2, 3, 4, 5, 6, 7, 8, 9, 10, 11, 12, 13, 14]] 16 rfl rfl ?_
        refine xa_pure (v := (.int .i64 i7)) 0 (by decide +kernel) rfl rfl (wanted_none rfl _) (p_move rfl rfl) ?_
        refine xa_pure (v := (.int .i64 b2)) 1 (by decide +kernel) rfl rfl (wanted_none rfl _) (p_move rfl rfl) ?_
        refine xa_pure (v := (.bool (decide (i7 < b2)))) 2 (by decide +kernel) rfl rfl (wanted_none rfl _) (p_lt rfl rfl rfl) ?_
        refine xa_pure (v := (.bool (decide (i7 < b2)))) 3 (by decide +kernel) rfl rfl (wanted_none rfl _) (p_move rfl rfl) ?_
        refine ifB_cases H ?_ ?_
        · clear H; intro hb18 H
          refine xa_pure (v := (Sl.v data0)) 4 (by decide +kernel) rfl rfl (wanted_yes (d := 20) rfl rfl (by decide) rfl hb18) (p_move rfl rfl) ?_
          refine xa_pure (v := (.int .i64 i7)) 5 (by decide +kernel) rfl rfl (wanted_yes (d := 20) rfl rfl (by decide) rfl hb18) (p_move rfl rfl) ?_
          obtain ⟨p_31, hap_31, hlp_31, hup_31, H⟩ := H
          refine xa_pure (v := (.pointer (some (p_31.add (i7.toNat * 1))))) 6 (by decide +kernel) rfl rfl (wanted_yes (d := 20) rfl rfl (by decide) rfl hb18) (p_indexAddr (s := data0) (ad := p_31) (size := 1) rfl Try.underlying71 Try.ti9 rfl rfl hap_31 hlp_31 hup_31) ?_
          obtain ⟨adv_32, v_32, hev_32, hcv_32, H⟩ := H
          refine xa_read (v := (.string v_32)) (S := (fun w => w.cell? adv_32 = some (.string v_32))) 7 (by decide +kernel) rfl rfl (wanted_yes (d := 20) rfl rfl (by decide) rfl hb18) (fun w hc => rd_load (ad := adv_32) rfl Try.underlying9 rfl (by show Value.pointer _ = _; rw [hev_32]) hc) hcv_32 ?_
          refine xa_pure (v := (Sl.v data0)) 8 (by decide +kernel) rfl rfl (wanted_yes (d := 20) rfl rfl (by decide) rfl hb18) (p_move rfl rfl) ?_
          refine xa_pure (v := (.int .i64 i7)) 9 (by decide +kernel) rfl rfl (wanted_yes (d := 20) rfl rfl (by decide) rfl hb18) (p_move rfl rfl) ?_
          refine xa_pure (v := (.int .i64 (IntKind.i64.wrap (i7 - 1)))) 10 (by decide +kernel) rfl rfl (wanted_yes (d := 20) rfl rfl (by decide) rfl hb18) (p_sub rfl rfl rfl) ?_
          obtain ⟨p_33, hap_33, hlp_33, hup_33, H⟩ := H
          refine xa_pure (v := (.pointer (some (p_33.add ((IntKind.i64.wrap (i7 - 1)).toNat * 1))))) 11 (by decide +kernel) rfl rfl (wanted_yes (d := 20) rfl rfl (by decide) rfl hb18) (p_indexAddr (s := data0) (ad := p_33) (size := 1) rfl Try.underlying71 Try.ti9 rfl rfl hap_33 hlp_33 hup_33) ?_
          obtain ⟨adv_34, v_34, hev_34, hcv_34, H⟩ := H
          refine xa_read (v := (.string v_34)) (S := (fun w => w.cell? adv_34 = some (.string v_34))) 12 (by decide +kernel) rfl rfl (wanted_yes (d := 20) rfl rfl (by decide) rfl hb18) (fun w hc => rd_load (ad := adv_34) rfl Try.underlying9 rfl (by show Value.pointer _ = _; rw [hev_34]) hc) hcv_34 ?_
          refine xa_eff 13 [] (by decide +kernel) rfl rfl rfl (wanted_yes (d := 20) rfl rfl (by decide) rfl hb18) (e_call (fn := Try.f214) H rfl rfl Try.func214 rfl rfl rfl) ?_
          rintro _ w_15 ⟨v_36, rfl, H⟩
          refine ⟨AllHeld.nil, ?_⟩
          refine xa_pure (v := (.bool (!v_36))) 14 (by decide +kernel) rfl rfl (wanted_yes (d := 20) rfl rfl (by decide) rfl hb18) (p_not rfl rfl) ?_
          refine xa_pure (v := (.bool (!v_36))) 15 (by decide +kernel) rfl rfl (wanted_none rfl _) (p_pickT rfl rfl hb18 rfl) ?_
          refine xa_end (by decide +kernel) ?_
          refine r_upd (i := 0) (v := (Sl.v data0)) rfl ?_
          refine r_upd (i := 1) (v := (.int .i64 a1)) rfl ?_
          refine r_upd (i := 2) (v := (.int .i64 b2)) rfl ?_
          refine r_upd (i := 7) (v := (.int .i64 i7)) rfl ?_
          refine r_upd (i := 8) (v := (.int .i64 j8)) rfl ?_
          refine r_upd (i := 32) (v := (.bool (!v_36))) rfl ?_
          exact J5 (data0, a1, b2, i7, j8, (!v_36)) _ _ H
        · clear H; intro hb18 H
          refine xa_skip 4 (by decide +kernel) rfl rfl (wanted_no (d := 20) rfl rfl (by decide) rfl hb18) ?_
          refine xa_skip 5 (by decide +kernel) rfl rfl (wanted_no (d := 20) rfl rfl (by decide) rfl hb18) ?_
          refine xa_skip 6 (by decide +kernel) rfl rfl (wanted_no (d := 20) rfl rfl (by decide) rfl hb18) ?_
          refine xa_skip 7 (by decide +kernel) rfl rfl (wanted_no (d := 20) rfl rfl (by decide) rfl hb18) ?_
          refine xa_skip 8 (by decide +kernel) rfl rfl (wanted_no (d := 20) rfl rfl (by decide) rfl hb18) ?_
          refine xa_skip 9 (by decide +kernel) rfl rfl (wanted_no (d := 20) rfl rfl (by decide) rfl hb18) ?_
          refine xa_skip 10 (by decide +kernel) rfl rfl (wanted_no (d := 20) rfl rfl (by decide) rfl hb18) ?_
          refine xa_skip 11 (by decide +kernel) rfl rfl (wanted_no (d := 20) rfl rfl (by decide) rfl hb18) ?_
          refine xa_skip 12 (by decide +kernel) rfl rfl (wanted_no (d := 20) rfl rfl (by decide) rfl hb18) ?_
          refine xa_skip 13 (by decide +kernel) rfl rfl (wanted_no (d := 20) rfl rfl (by decide) rfl hb18) ?_
          refine xa_skip 14 (by decide +kernel) rfl rfl (wanted_no (d := 20) rfl rfl (by decide) rfl hb18) ?_
          refine xa_pure (v := (.bool false)) 15 (by decide +kernel) rfl rfl (wanted_none rfl _) (p_pickF rfl rfl hb18 rfl) ?_
          refine xa_end (by decide +kernel) ?_
          refine r_upd (i := 0) (v := (Sl.v data0)) rfl ?_
          refine r_upd (i := 1) (v := (.int .i64 a1)) rfl ?_
          refine r_upd (i := 2) (v := (.int .i64 b2)) rfl ?_
          refine r_upd (i := 7) (v := (.int .i64 i7)) rfl ?_
          refine r_upd (i := 8) (v := (.int .i64 j8)) rfl ?_
          refine r_upd (i := 32) (v := (.bool false)) rfl ?_
          exact J5 (data0, a1, b2, i7, j8, false) _ _ H
  · clear H; intro hb2 H
    refine r_exit rfl ?_
    refine r_seq ?_
    refine r_region ?_
    refine xo_pure (v := (.bool false)) rfl (wanted_none rfl _) (p_assign rfl rfl) ?_
    refine xo_end ?_
    exact r_ret (fn := Try.f213) Try.func213 (res_1 rfl ⟨by decide, rfl⟩) H

/-! 214 cmp.Less[string] -/
def cmp_Less_string (R : Value → World → Prop) (x0 : ByteArray) (y1 : ByteArray) (w : World) : Prop :=
  CallF Try.prog 246 #[(.string x0)] w fun u_1 w_1 => As Value.bool u_1 fun v_2 =>
  IfB v_2 (
    CallF Try.prog 246 #[(.string y1)] w_1 fun u_3 w_2 => As Value.bool u_3 fun v_4 =>
    IfB (!v_4) (
      R (.bool true) w_2) (
      R (.bool (slt x0 y1)) w_2)) (
    R (.bool (slt x0 y1)) w_1)

theorem cmp_Less_string_ok (R : Value → World → Prop) (x0 : ByteArray) (y1 : ByteArray) (w : World) (H : cmp_Less_string R x0 y1 w) : CallF Try.prog 214 #[(.string x0), (.string y1)] w R := by
  refine calls_of_runs (fn := Try.f214) Try.func214 rfl (Nat.le_of_ble_eq_true rfl) ?_
  show Runs _ _ 17 _ _ _ _
  unfold cmp_Less_string at H
  refine r_upd (i := 0) (v := (.string x0)) rfl ?_
  refine r_upd (i := 1) (v := (.string y1)) rfl ?_
  refine r_seq ?_
  refine r_region ?_
  refine xo_pure (v := (.bool false)) rfl (wanted_none rfl _) (p_assign rfl rfl) ?_
  refine xo_end ?_
  refine r_seq ?_
  refine r_region ?_
  refine xo_pure (v := (.string x0)) rfl (wanted_none rfl _) (p_move rfl rfl) ?_
  refine xo_eff rfl (wanted_none rfl _) (e_call (fn := Try.f246) H rfl rfl Try.func246 rfl rfl rfl) ?_
  rintro _ w_1 ⟨v_2, rfl, H⟩
  refine xo_pure (v := (.bool v_2)) rfl (wanted_none rfl _) (p_move rfl rfl) ?_
  refine ifB_cases H ?_ ?_
  · clear H; intro hb1 H
    refine xo_pure (v := (.string y1)) rfl (wanted_yes (d := 7) rfl rfl (by decide) rfl hb1) (p_move rfl rfl) ?_
    refine xo_eff rfl (wanted_yes (d := 7) rfl rfl (by decide) rfl hb1) (e_call (fn := Try.f246) H rfl rfl Try.func246 rfl rfl rfl) ?_
    rintro _ w_2 ⟨v_4, rfl, H⟩
    refine xo_pure (v := (.bool (!v_4))) rfl (wanted_yes (d := 7) rfl rfl (by decide) rfl hb1) (p_not rfl rfl) ?_
    refine xo_pure (v := (.bool (!v_4))) rfl (wanted_none rfl _) (p_pickT rfl rfl hb1 rfl) ?_
    refine xo_pure (v := (.bool (!v_4))) rfl (wanted_none rfl _) (p_move rfl rfl) ?_
    refine ifB_cases H ?_ ?_
    · clear H; intro hb2 H
      refine xo_skip rfl (wanted_no (d := 12) rfl rfl (by decide) rfl hb2) ?_
      refine xo_skip rfl (wanted_no (d := 12) rfl rfl (by decide) rfl hb2) ?_
      refine xo_skip rfl (wanted_no (d := 12) rfl rfl (by decide) rfl hb2) ?_
      refine xo_pure (v := (.bool true)) rfl (wanted_none rfl _) (p_pickT rfl rfl hb2 rfl) ?_
      refine xo_pure (v := (.bool true)) rfl (wanted_none rfl _) (p_assign rfl rfl) ?_
      refine xo_end ?_
      exact r_ret (fn := Try.f214) Try.func214 (res_1 rfl ⟨by decide, rfl⟩) H
    · clear H; intro hb2 H
      refine xo_pure (v := (.string x0)) rfl (wanted_yes (d := 12) rfl rfl (by decide) rfl hb2) (p_move rfl rfl) ?_
      refine xo_pure (v := (.string y1)) rfl (wanted_yes (d := 12) rfl rfl (by decide) rfl hb2) (p_move rfl rfl) ?_
      refine xo_pure (v := (.bool (slt x0 y1))) rfl (wanted_yes (d := 12) rfl rfl (by decide) rfl hb2) (p_slt rfl rfl rfl) ?_
      refine xo_pure (v := (.bool (slt x0 y1))) rfl (wanted_none rfl _) (p_pickF rfl rfl hb2 rfl) ?_
      refine xo_pure (v := (.bool (slt x0 y1))) rfl (wanted_none rfl _) (p_assign rfl rfl) ?_
      refine xo_end ?_
      exact r_ret (fn := Try.f214) Try.func214 (res_1 rfl ⟨by decide, rfl⟩) H
  · clear H; intro hb1 H
    refine xo_skip rfl (wanted_no (d := 7) rfl rfl (by decide) rfl hb1) ?_
    refine xo_skip rfl (wanted_no (d := 7) rfl rfl (by decide) rfl hb1) ?_
    refine xo_skip rfl (wanted_no (d := 7) rfl rfl (by decide) rfl hb1) ?_
    refine xo_pure (v := (.bool false)) rfl (wanted_none rfl _) (p_pickF rfl rfl hb1 rfl) ?_
    refine xo_pure (v := (.bool false)) rfl (wanted_none rfl _) (p_move rfl rfl) ?_
    refine xo_pure (v := (.string x0)) rfl (wanted_yes (d := 12) rfl rfl (by decide) rfl rfl) (p_move rfl rfl) ?_
    refine xo_pure (v := (.string y1)) rfl (wanted_yes (d := 12) rfl rfl (by decide) rfl rfl) (p_move rfl rfl) ?_
    refine xo_pure (v := (.bool (slt x0 y1))) rfl (wanted_yes (d := 12) rfl rfl (by decide) rfl rfl) (p_slt rfl rfl rfl) ?_
    refine xo_pure (v := (.bool (slt x0 y1))) rfl (wanted_none rfl _) (p_pickF rfl rfl rfl rfl) ?_
    refine xo_pure (v := (.bool (slt x0 y1))) rfl (wanted_none rfl _) (p_assign rfl rfl) ?_
    refine xo_end ?_
    exact r_ret (fn := Try.f214) Try.func214 (res_1 rfl ⟨by decide, rfl⟩) H
end Go.Proofs
