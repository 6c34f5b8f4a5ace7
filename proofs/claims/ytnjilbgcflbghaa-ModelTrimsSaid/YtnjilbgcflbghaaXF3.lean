/- Laid by program. -/
import Derived.Test.YtnjilbgcflbghaaXFT
set_option linter.all false
set_option linter.unusedVariables false
set_option linter.unusedSimpArgs false
set_option maxRecDepth 20000
set_option maxHeartbeats 4000000
namespace Go.Proofs
open Go Go.X
/-! 215 slices.partitionEqualOrdered[string] -/
def slices_partitionEqualOrdered_string_k4 (R : Value → World → Prop) (ag1 : (Sl × Int × Int × Int) → World → Prop) (ag2 : (Sl × Int × Int × Int) → World → Prop) (ag5 : (Sl × Int × Int × Int) → World → Prop) (data0 : Sl) (a1 : Int) (i9 : Int) (j10 : Int) (t59 : Bool) (w : World) : Prop :=
  IfB t59 (
    ag5 (data0, a1, i9, (IntKind.i64.wrap (j10 - 1))) w) (
    IfB (decide (j10 < i9)) (
      R (.int .i64 i9) w) (
      Ix data0 j10 fun p_7 =>
      Ld Value.string (some (p_7.add (j10.toNat * 1))) (World.drew w) fun v_8 =>
      Ix data0 i9 fun p_9 =>
      Ld Value.string (some (p_9.add (i9.toNat * 1))) (World.drew w) fun v_10 =>
      Ix data0 i9 fun p_11 =>
      St (some (p_11.add (i9.toNat * 1))) (.string v_8) (World.drew w) fun w_5 =>
      Ix data0 j10 fun p_12 =>
      St (some (p_12.add (j10.toNat * 1))) (.string v_10) w_5 fun w_6 =>
      ag1 (data0, a1, (IntKind.i64.wrap (i9 + 1)), (IntKind.i64.wrap (j10 - 1))) w_6))

def slices_partitionEqualOrdered_string_b3 (R : Value → World → Prop) (ag1 : (Sl × Int × Int × Int) → World → Prop) (ag2 : (Sl × Int × Int × Int) → World → Prop) (ag5 : (Sl × Int × Int × Int) → World → Prop) (data0 : Sl) (a1 : Int) (i9 : Int) (j10 : Int) (w : World) : Prop :=
  IfB (decide (i9 ≤ j10)) (
    Ix data0 a1 fun p_13 =>
    Ld Value.string (some (p_13.add (a1.toNat * 1))) (World.drew w) fun v_14 =>
    Ix data0 j10 fun p_15 =>
    Ld Value.string (some (p_15.add (j10.toNat * 1))) (World.drew w) fun v_16 =>
    CallF Try.prog 214 #[(.string v_14), (.string v_16)] (World.drew w) fun u_17 w_8 => As Value.bool u_17 fun v_18 =>
    slices_partitionEqualOrdered_string_k4 R ag1 ag2 ag5 data0 a1 i9 j10 v_18 w_8) (
    slices_partitionEqualOrdered_string_k4 R ag1 ag2 ag5 data0 a1 i9 j10 false (World.drew w))

def slices_partitionEqualOrdered_string_k2 (R : Value → World → Prop) (ag1 : (Sl × Int × Int × Int) → World → Prop) (ag2 : (Sl × Int × Int × Int) → World → Prop) (data0 : Sl) (a1 : Int) (i9 : Int) (j10 : Int) (t43 : Bool) (w : World) : Prop :=
  IfB t43 (
    ag2 (data0, a1, (IntKind.i64.wrap (i9 + 1)), j10) w) (
    Lp (fun ag (s : Sl × Int × Int × Int) w => slices_partitionEqualOrdered_string_b3 R ag1 ag2 ag s.1 s.2.1 s.2.2.1 s.2.2.2 w) (data0, a1, i9, j10) w)

def slices_partitionEqualOrdered_string_b1 (R : Value → World → Prop) (ag1 : (Sl × Int × Int × Int) → World → Prop) (ag2 : (Sl × Int × Int × Int) → World → Prop) (data0 : Sl) (a1 : Int) (i9 : Int) (j10 : Int) (w : World) : Prop :=
  IfB (decide (i9 ≤ j10)) (
    Ix data0 a1 fun p_19 =>
    Ld Value.string (some (p_19.add (a1.toNat * 1))) (World.drew w) fun v_20 =>
    Ix data0 i9 fun p_21 =>
    Ld Value.string (some (p_21.add (i9.toNat * 1))) (World.drew w) fun v_22 =>
    CallF Try.prog 214 #[(.string v_20), (.string v_22)] (World.drew w) fun u_23 w_10 => As Value.bool u_23 fun v_24 =>
    slices_partitionEqualOrdered_string_k2 R ag1 ag2 data0 a1 i9 j10 (!v_24) w_10) (
    slices_partitionEqualOrdered_string_k2 R ag1 ag2 data0 a1 i9 j10 false (World.drew w))

def slices_partitionEqualOrdered_string_b0 (R : Value → World → Prop) (ag1 : (Sl × Int × Int × Int) → World → Prop) (data0 : Sl) (a1 : Int) (i9 : Int) (j10 : Int) (w : World) : Prop :=
  Lp (fun ag (s : Sl × Int × Int × Int) w => slices_partitionEqualOrdered_string_b1 R ag1 ag s.1 s.2.1 s.2.2.1 s.2.2.2 w) (data0, a1, i9, j10) w

def slices_partitionEqualOrdered_string (R : Value → World → Prop) (data0 : Sl) (a1 : Int) (b2 : Int) (pivot3 : Int) (w : World) : Prop :=
  Ix data0 pivot3 fun p_1 =>
  Ld Value.string (some (p_1.add (pivot3.toNat * 1))) (World.drew w) fun v_2 =>
  Ix data0 a1 fun p_3 =>
  Ld Value.string (some (p_3.add (a1.toNat * 1))) (World.drew w) fun v_4 =>
  Ix data0 a1 fun p_5 =>
  St (some (p_5.add (a1.toNat * 1))) (.string v_2) (World.drew w) fun w_2 =>
  Ix data0 pivot3 fun p_6 =>
  St (some (p_6.add (pivot3.toNat * 1))) (.string v_4) w_2 fun w_3 =>
  Lp (fun ag (s : Sl × Int × Int × Int) w => slices_partitionEqualOrdered_string_b0 R ag s.1 s.2.1 s.2.2.1 s.2.2.2 w) (data0, a1, (IntKind.i64.wrap (a1 + 1)), (IntKind.i64.wrap (b2 - 1))) w_3

theorem slices_partitionEqualOrdered_string_ok (R : Value → World → Prop) (data0 : Sl) (a1 : Int) (b2 : Int) (pivot3 : Int) (w : World) (H : slices_partitionEqualOrdered_string R data0 a1 b2 pivot3 w) : CallF Try.prog 215 #[(Sl.v data0), (.int .i64 a1), (.int .i64 b2), (.int .i64 pivot3)] w R := by
  refine calls_of_runs (fn := Try.f215) Try.func215 rfl (Nat.le_of_ble_eq_true rfl) ?_
  show Runs _ _ 84 _ _ _ _
  unfold slices_partitionEqualOrdered_string at H
  refine r_upd (i := 0) (v := (Sl.v data0)) rfl ?_
  refine r_upd (i := 1) (v := (.int .i64 a1)) rfl ?_
  refine r_upd (i := 2) (v := (.int .i64 b2)) rfl ?_
  refine r_upd (i := 3) (v := (.int .i64 pivot3)) rfl ?_
  refine r_seq ?_
  refine r_region ?_
  refine xo_pure (v := (.int .i64 0)) rfl (wanted_none rfl _) (p_assign rfl rfl) ?_
  refine xo_end ?_
  refine r_seq ?_
  refine r_draw #[[], [], [], [], [], [], [4, 5], [4, 5, 6], [], [], [8, 9], [8, 9, 10], [0, 1, 4, 5, 6, 7, 8, 9, 10, 11], [0, 1, 4, 5, 6, 7, 8, 9, 10, 11, 12], [0, 1, 2, 3, 4, 5, 6, 7, 8, 9, 10, 11, 12, 13], [0, 1, 2, 3, 4, 5, 6, 7, 8, 9, 10, 11, 12, 13, 14]] 16 rfl rfl ?_
  refine xa_pure (v := (Sl.v data0)) 0 (by decide +kernel) rfl rfl (wanted_none rfl _) (p_move rfl rfl) ?_
  refine xa_pure (v := (.int .i64 a1)) 1 (by decide +kernel) rfl rfl (wanted_none rfl _) (p_move rfl rfl) ?_
  refine xa_pure (v := (Sl.v data0)) 2 (by decide +kernel) rfl rfl (wanted_none rfl _) (p_move rfl rfl) ?_
  refine xa_pure (v := (.int .i64 pivot3)) 3 (by decide +kernel) rfl rfl (wanted_none rfl _) (p_move rfl rfl) ?_
  refine xa_pure (v := (Sl.v data0)) 4 (by decide +kernel) rfl rfl (wanted_none rfl _) (p_move rfl rfl) ?_
  refine xa_pure (v := (.int .i64 pivot3)) 5 (by decide +kernel) rfl rfl (wanted_none rfl _) (p_move rfl rfl) ?_
  obtain ⟨p_1, hap_1, hlp_1, hup_1, H⟩ := H
  refine xa_pure (v := (.pointer (some (p_1.add (pivot3.toNat * 1))))) 6 (by decide +kernel) rfl rfl (wanted_none rfl _) (p_indexAddr (s := data0) (ad := p_1) (size := 1) rfl Try.underlying71 Try.ti9 rfl rfl hap_1 hlp_1 hup_1) ?_
  obtain ⟨adv_2, v_2, hev_2, hcv_2, H⟩ := H
  refine xa_read (v := (.string v_2)) (S := (fun w => w.cell? adv_2 = some (.string v_2))) 7 (by decide +kernel) rfl rfl (wanted_none rfl _) (fun w hc => rd_load (ad := adv_2) rfl Try.underlying9 rfl (by show Value.pointer _ = _; rw [hev_2]) hc) hcv_2 ?_
  refine xa_pure (v := (Sl.v data0)) 8 (by decide +kernel) rfl rfl (wanted_none rfl _) (p_move rfl rfl) ?_
  refine xa_pure (v := (.int .i64 a1)) 9 (by decide +kernel) rfl rfl (wanted_none rfl _) (p_move rfl rfl) ?_
  obtain ⟨p_3, hap_3, hlp_3, hup_3, H⟩ := H
  refine xa_pure (v := (.pointer (some (p_3.add (a1.toNat * 1))))) 10 (by decide +kernel) rfl rfl (wanted_none rfl _) (p_indexAddr (s := data0) (ad := p_3) (size := 1) rfl Try.underlying71 Try.ti9 rfl rfl hap_3 hlp_3 hup_3) ?_
  obtain ⟨adv_4, v_4, hev_4, hcv_4, H⟩ := H
  refine xa_read (v := (.string v_4)) (S := (fun w => w.cell? adv_4 = some (.string v_4))) 11 (by decide +kernel) rfl rfl (wanted_none rfl _) (fun w hc => rd_load (ad := adv_4) rfl Try.underlying9 rfl (by show Value.pointer _ = _; rw [hev_4]) hc) hcv_4 ?_
  obtain ⟨p_5, hap_5, hlp_5, hup_5, H⟩ := H
  refine xa_pure (v := (.pointer (some (p_5.add (a1.toNat * 1))))) 12 (by decide +kernel) rfl rfl (wanted_none rfl _) (p_indexAddr (s := data0) (ad := p_5) (size := 1) rfl Try.underlying71 Try.ti9 rfl rfl hap_5 hlp_5 hup_5) ?_
  refine xa_effN 13 [] (by decide +kernel) rfl rfl rfl (wanted_none rfl _) (e_store rfl Try.ti9 rfl rfl rfl H) ?_
  intro _ w_2 H
  refine ⟨AllHeld.nil, ?_⟩
  obtain ⟨p_6, hap_6, hlp_6, hup_6, H⟩ := H
  refine xa_pure (v := (.pointer (some (p_6.add (pivot3.toNat * 1))))) 14 (by decide +kernel) rfl rfl (wanted_none rfl _) (p_indexAddr (s := data0) (ad := p_6) (size := 1) rfl Try.underlying71 Try.ti9 rfl rfl hap_6 hlp_6 hup_6) ?_
  refine xa_effN 15 [] (by decide +kernel) rfl rfl rfl (wanted_none rfl _) (e_store rfl Try.ti9 rfl rfl rfl H) ?_
  intro _ w_3 H
  refine ⟨AllHeld.nil, ?_⟩
  refine xa_end (by decide +kernel) ?_
  refine r_seq ?_
  refine r_region ?_
  refine xo_pure (v := (.int .i64 a1)) rfl (wanted_none rfl _) (p_move rfl rfl) ?_
  refine xo_pure (v := (.int .i64 (IntKind.i64.wrap (a1 + 1)))) rfl (wanted_none rfl _) (p_add rfl rfl rfl) ?_
  refine xo_pure (v := (.int .i64 b2)) rfl (wanted_none rfl _) (p_move rfl rfl) ?_
  refine xo_pure (v := (.int .i64 (IntKind.i64.wrap (b2 - 1)))) rfl (wanted_none rfl _) (p_sub rfl rfl rfl) ?_
  refine xo_pure (v := (.int .i64 (IntKind.i64.wrap (a1 + 1)))) rfl (wanted_none rfl _) (p_assign rfl rfl) ?_
  refine xo_pure (v := (.int .i64 (IntKind.i64.wrap (b2 - 1)))) rfl (wanted_none rfl _) (p_assign rfl rfl) ?_
  refine xo_end ?_
  refine r_seq ?_
  refine r_block ?_
  refine r_upd (i := 0) (v := (Sl.v data0)) rfl ?_
  refine r_upd (i := 1) (v := (.int .i64 a1)) rfl ?_
  refine r_upd (i := 9) (v := (.int .i64 (IntKind.i64.wrap (a1 + 1)))) rfl ?_
  refine r_upd (i := 10) (v := (.int .i64 (IntKind.i64.wrap (b2 - 1)))) rfl ?_
  refine r_loopJ (fun (s : Sl × Int × Int × Int) σ => upd 10 (.int .i64 s.2.2.2) (upd 9 (.int .i64 s.2.2.1) (upd 1 (.int .i64 s.2.1) (upd 0 (Sl.v s.1) (σ))))) (s := (data0, a1, (IntKind.i64.wrap (a1 + 1)), (IntKind.i64.wrap (b2 - 1)))) H ?_
  clear H
  rintro ag1 ⟨data0, a1, i9, j10⟩ σ w H hag1
  replace H : slices_partitionEqualOrdered_string_b0 R ag1 data0 a1 i9 j10 w := H
  show Runs _ _ _ _ _ (upd 10 (.int .i64 j10) (upd 9 (.int .i64 i9) (upd 1 (.int .i64 a1) (upd 0 (Sl.v data0) (σ))))) _
  unfold slices_partitionEqualOrdered_string_b0 at H
  refine r_block ?_
  refine r_seq ?_
  refine r_block ?_
  refine r_upd (i := 0) (v := (Sl.v data0)) rfl ?_
  refine r_upd (i := 1) (v := (.int .i64 a1)) rfl ?_
  refine r_upd (i := 9) (v := (.int .i64 i9)) rfl ?_
  refine r_upd (i := 10) (v := (.int .i64 j10)) rfl ?_
  refine r_loopJ (fun (s : Sl × Int × Int × Int) σ => upd 10 (.int .i64 s.2.2.2) (upd 9 (.int .i64 s.2.2.1) (upd 1 (.int .i64 s.2.1) (upd 0 (Sl.v s.1) (σ))))) (s := (data0, a1, i9, j10)) H ?_
  clear H
  rintro ag2 ⟨data0, a1, i9, j10⟩ σ w H hag2
  replace H : slices_partitionEqualOrdered_string_b1 R ag1 ag2 data0 a1 i9 j10 w := H
  show Runs _ _ _ _ _ (upd 10 (.int .i64 j10) (upd 9 (.int .i64 i9) (upd 1 (.int .i64 a1) (upd 0 (Sl.v data0) (σ))))) _
  unfold slices_partitionEqualOrdered_string_b1 at H
  refine r_seq ?_
  refine r_seq ?_
  refine r_topJ (fun (s : Sl × Int × Int × Int × Bool) σ => upd 43 (.bool s.2.2.2.2) (upd 10 (.int .i64 s.2.2.2.1) (upd 9 (.int .i64 s.2.2.1) (upd 1 (.int .i64 s.2.1) (upd 0 (Sl.v s.1) (σ)))))) (fun (s : Sl × Int × Int × Int × Bool) w => slices_partitionEqualOrdered_string_k2 R ag1 ag2 s.1 s.2.1 s.2.2.1 s.2.2.2.1 s.2.2.2.2 w) ?_ ?_
  · rintro ⟨data0, a1, i9, j10, t43⟩ σ w H
    replace H : slices_partitionEqualOrdered_string_k2 R ag1 ag2 data0 a1 i9 j10 t43 w := H
    show Runs _ _ _ _ _ (upd 43 (.bool t43) (upd 10 (.int .i64 j10) (upd 9 (.int .i64 i9) (upd 1 (.int .i64 a1) (upd 0 (Sl.v data0) (σ)))))) _
    unfold slices_partitionEqualOrdered_string_k2 at H
    refine r_condB (b := t43) rfl H ?_ ?_
    · clear H; intro hb4 H
      refine r_skip ?_
      refine r_block ?_
      refine r_region ?_
      refine xo_pure (v := (.int .i64 i9)) rfl (wanted_none rfl _) (p_move rfl rfl) ?_
      refine xo_pure (v := (.int .i64 (IntKind.i64.wrap (i9 + 1)))) rfl (wanted_none rfl _) (p_add rfl rfl rfl) ?_
      refine xo_pure (v := (.int .i64 (IntKind.i64.wrap (i9 + 1)))) rfl (wanted_none rfl _) (p_assign rfl rfl) ?_
      refine xo_end ?_
      refine r_inBlock ?_
      refine r_upd (i := 0) (v := (Sl.v data0)) rfl ?_
      refine r_upd (i := 1) (v := (.int .i64 a1)) rfl ?_
      refine r_upd (i := 9) (v := (.int .i64 (IntKind.i64.wrap (i9 + 1)))) rfl ?_
      refine r_upd (i := 10) (v := (.int .i64 j10)) rfl ?_
      exact hag2 (data0, a1, (IntKind.i64.wrap (i9 + 1)), j10) _ _ H
    · clear H; intro hb4 H
      refine r_exit rfl ?_
      refine r_seq ?_
      refine r_block ?_
      refine r_upd (i := 0) (v := (Sl.v data0)) rfl ?_
      refine r_upd (i := 1) (v := (.int .i64 a1)) rfl ?_
      refine r_upd (i := 9) (v := (.int .i64 i9)) rfl ?_
      refine r_upd (i := 10) (v := (.int .i64 j10)) rfl ?_
      refine r_loopJ (fun (s : Sl × Int × Int × Int) σ => upd 10 (.int .i64 s.2.2.2) (upd 9 (.int .i64 s.2.2.1) (upd 1 (.int .i64 s.2.1) (upd 0 (Sl.v s.1) (σ))))) (s := (data0, a1, i9, j10)) H ?_
      clear H
      rintro ag5 ⟨data0, a1, i9, j10⟩ σ w H hag5
      replace H : slices_partitionEqualOrdered_string_b3 R ag1 ag2 ag5 data0 a1 i9 j10 w := H
      show Runs _ _ _ _ _ (upd 10 (.int .i64 j10) (upd 9 (.int .i64 i9) (upd 1 (.int .i64 a1) (upd 0 (Sl.v data0) (σ))))) _
      unfold slices_partitionEqualOrdered_string_b3 at H
      refine r_seq ?_
      refine r_seq ?_
      refine r_topJ (fun (s : Sl × Int × Int × Int × Bool) σ => upd 59 (.bool s.2.2.2.2) (upd 10 (.int .i64 s.2.2.2.1) (upd 9 (.int .i64 s.2.2.1) (upd 1 (.int .i64 s.2.1) (upd 0 (Sl.v s.1) (σ)))))) (fun (s : Sl × Int × Int × Int × Bool) w => slices_partitionEqualOrdered_string_k4 R ag1 ag2 ag5 s.1 s.2.1 s.2.2.1 s.2.2.2.1 s.2.2.2.2 w) ?_ ?_
      · rintro ⟨data0, a1, i9, j10, t59⟩ σ w H
        replace H : slices_partitionEqualOrdered_string_k4 R ag1 ag2 ag5 data0 a1 i9 j10 t59 w := H
        show Runs _ _ _ _ _ (upd 59 (.bool t59) (upd 10 (.int .i64 j10) (upd 9 (.int .i64 i9) (upd 1 (.int .i64 a1) (upd 0 (Sl.v data0) (σ)))))) _
        unfold slices_partitionEqualOrdered_string_k4 at H
        refine r_condB (b := t59) rfl H ?_ ?_
        · clear H; intro hb7 H
          refine r_skip ?_
          refine r_block ?_
          refine r_region ?_
          refine xo_pure (v := (.int .i64 j10)) rfl (wanted_none rfl _) (p_move rfl rfl) ?_
          refine xo_pure (v := (.int .i64 (IntKind.i64.wrap (j10 - 1)))) rfl (wanted_none rfl _) (p_sub rfl rfl rfl) ?_
          refine xo_pure (v := (.int .i64 (IntKind.i64.wrap (j10 - 1)))) rfl (wanted_none rfl _) (p_assign rfl rfl) ?_
          refine xo_end ?_
          refine r_inBlock ?_
          refine r_upd (i := 0) (v := (Sl.v data0)) rfl ?_
          refine r_upd (i := 1) (v := (.int .i64 a1)) rfl ?_
          refine r_upd (i := 9) (v := (.int .i64 i9)) rfl ?_
          refine r_upd (i := 10) (v := (.int .i64 (IntKind.i64.wrap (j10 - 1)))) rfl ?_
          exact hag5 (data0, a1, i9, (IntKind.i64.wrap (j10 - 1))) _ _ H
        · clear H; intro hb7 H
          refine r_exit rfl ?_
          refine r_seq ?_
          refine r_seq ?_
          refine r_region ?_
          refine xo_pure (v := (.int .i64 i9)) rfl (wanted_none rfl _) (p_move rfl rfl) ?_
          refine xo_pure (v := (.int .i64 j10)) rfl (wanted_none rfl _) (p_move rfl rfl) ?_
          refine xo_pure (v := (.bool (decide (j10 < i9)))) rfl (wanted_none rfl _) (p_gt rfl rfl rfl) ?_
          refine xo_end ?_
          refine r_condB (b := (decide (j10 < i9))) rfl H ?_ ?_
          · clear H; intro hb8 H
            refine r_exit rfl ?_
            refine r_seq ?_
            refine r_region ?_
            refine xo_pure (v := (.int .i64 i9)) rfl (wanted_none rfl _) (p_move rfl rfl) ?_
            refine xo_pure (v := (.int .i64 i9)) rfl (wanted_none rfl _) (p_assign rfl rfl) ?_
            refine xo_end ?_
            exact r_ret (fn := Try.f215) Try.func215 (res_1 rfl ⟨by decide, rfl⟩) H
          · clear H; intro hb8 H
            refine r_skip ?_
            refine r_seq ?_
            refine r_draw #[[], [], [], [], [], [], [4, 5], [4, 5, 6], [], [], [8, 9], [8, 9, 10], [0, 1, 4, 5, 6, 7, 8, 9, 10, 11], [0, 1, 4, 5, 6, 7, 8, 9, 10, 11, 12], [0, 1, 2, 3, 4, 5, 6, 7, 8, 9, 10, 11, 12, 13], [0, 1, 2, 3, 4, 5, 6, 7, 8, 9, 10, 11, 12, 13, 14]] 16 rfl rfl ?_
            refine xa_pure (v := (Sl.v data0)) 0 (by decide +kernel) rfl rfl (wanted_none rfl _) (p_move rfl rfl) ?_
            refine xa_pure (v := (.int .i64 i9)) 1 (by decide +kernel) rfl rfl (wanted_none rfl _) (p_move rfl rfl) ?_
            refine xa_pure (v := (Sl.v data0)) 2 (by decide +kernel) rfl rfl (wanted_none rfl _) (p_move rfl rfl) ?_
            refine xa_pure (v := (.int .i64 j10)) 3 (by decide +kernel) rfl rfl (wanted_none rfl _) (p_move rfl rfl) ?_
            refine xa_pure (v := (Sl.v data0)) 4 (by decide +kernel) rfl rfl (wanted_none rfl _) (p_move rfl rfl) ?_
            refine xa_pure (v := (.int .i64 j10)) 5 (by decide +kernel) rfl rfl (wanted_none rfl _) (p_move rfl rfl) ?_
            obtain ⟨p_7, hap_7, hlp_7, hup_7, H⟩ := H
            refine xa_pure (v := (.pointer (some (p_7.add (j10.toNat * 1))))) 6 (by decide +kernel) rfl rfl (wanted_none rfl _) (p_indexAddr (s := data0) (ad := p_7) (size := 1) rfl Try.underlying71 Try.ti9 rfl rfl hap_7 hlp_7 hup_7) ?_
            obtain ⟨adv_8, v_8, hev_8, hcv_8, H⟩ := H
            refine xa_read (v := (.string v_8)) (S := (fun w => w.cell? adv_8 = some (.string v_8))) 7 (by decide +kernel) rfl rfl (wanted_none rfl _) (fun w hc => rd_load (ad := adv_8) rfl Try.underlying9 rfl (by show Value.pointer _ = _; rw [hev_8]) hc) hcv_8 ?_
            refine xa_pure (v := (Sl.v data0)) 8 (by decide +kernel) rfl rfl (wanted_none rfl _) (p_move rfl rfl) ?_
            refine xa_pure (v := (.int .i64 i9)) 9 (by decide +kernel) rfl rfl (wanted_none rfl _) (p_move rfl rfl) ?_
            obtain ⟨p_9, hap_9, hlp_9, hup_9, H⟩ := H
            refine xa_pure (v := (.pointer (some (p_9.add (i9.toNat * 1))))) 10 (by decide +kernel) rfl rfl (wanted_none rfl _) (p_indexAddr (s := data0) (ad := p_9) (size := 1) rfl Try.underlying71 Try.ti9 rfl rfl hap_9 hlp_9 hup_9) ?_
            obtain ⟨adv_10, v_10, hev_10, hcv_10, H⟩ := H
            refine xa_read (v := (.string v_10)) (S := (fun w => w.cell? adv_10 = some (.string v_10))) 11 (by decide +kernel) rfl rfl (wanted_none rfl _) (fun w hc => rd_load (ad := adv_10) rfl Try.underlying9 rfl (by show Value.pointer _ = _; rw [hev_10]) hc) hcv_10 ?_
            obtain ⟨p_11, hap_11, hlp_11, hup_11, H⟩ := H
            refine xa_pure (v := (.pointer (some (p_11.add (i9.toNat * 1))))) 12 (by decide +kernel) rfl rfl (wanted_none rfl _) (p_indexAddr (s := data0) (ad := p_11) (size := 1) rfl Try.underlying71 Try.ti9 rfl rfl hap_11 hlp_11 hup_11) ?_
            refine xa_effN 13 [] (by decide +kernel) rfl rfl rfl (wanted_none rfl _) (e_store rfl Try.ti9 rfl rfl rfl H) ?_
            intro _ w_5 H
            refine ⟨AllHeld.nil, ?_⟩
            obtain ⟨p_12, hap_12, hlp_12, hup_12, H⟩ := H
            refine xa_pure (v := (.pointer (some (p_12.add (j10.toNat * 1))))) 14 (by decide +kernel) rfl rfl (wanted_none rfl _) (p_indexAddr (s := data0) (ad := p_12) (size := 1) rfl Try.underlying71 Try.ti9 rfl rfl hap_12 hlp_12 hup_12) ?_
            refine xa_effN 15 [] (by decide +kernel) rfl rfl rfl (wanted_none rfl _) (e_store rfl Try.ti9 rfl rfl rfl H) ?_
            intro _ w_6 H
            refine ⟨AllHeld.nil, ?_⟩
            refine xa_end (by decide +kernel) ?_
            refine r_seq ?_
            refine r_region ?_
            refine xo_pure (v := (.int .i64 i9)) rfl (wanted_none rfl _) (p_move rfl rfl) ?_
            refine xo_pure (v := (.int .i64 (IntKind.i64.wrap (i9 + 1)))) rfl (wanted_none rfl _) (p_add rfl rfl rfl) ?_
            refine xo_pure (v := (.int .i64 (IntKind.i64.wrap (i9 + 1)))) rfl (wanted_none rfl _) (p_assign rfl rfl) ?_
            refine xo_end ?_
            refine r_region ?_
            refine xo_pure (v := (.int .i64 j10)) rfl (wanted_none rfl _) (p_move rfl rfl) ?_
            refine xo_pure (v := (.int .i64 (IntKind.i64.wrap (j10 - 1)))) rfl (wanted_none rfl _) (p_sub rfl rfl rfl) ?_
            refine xo_pure (v := (.int .i64 (IntKind.i64.wrap (j10 - 1)))) rfl (wanted_none rfl _) (p_assign rfl rfl) ?_
            refine xo_end ?_
            refine r_inBlock ?_
            refine r_upd (i := 0) (v := (Sl.v data0)) rfl ?_
            refine r_upd (i := 1) (v := (.int .i64 a1)) rfl ?_
            refine r_upd (i := 9) (v := (.int .i64 (IntKind.i64.wrap (i9 + 1)))) rfl ?_
            refine r_upd (i := 10) (v := (.int .i64 (IntKind.i64.wrap (j10 - 1)))) rfl ?_
            exact hag1 (data0, a1, (IntKind.i64.wrap (i9 + 1)), (IntKind.i64.wrap (j10 - 1))) _ _ H
      · intro J6
        refine r_draw #[[], [], [0, 1], [0, 1, 2], [0, 1, 2, 3], [0, 1, 2, 3], [0, 1, 2, 3, 4, 5], [0, 1, 2, 3, 4, 5, 6], [0, 1, 2, 3], [0, 1, 2, 3], [0, 1, 2, 3, 8, 9], [0, 1, 2, 3, 8, 9, 10], [0, 1, 2, 3, 4, 5, 6, 7, 8, 9, 10, 11], [0, 1, 2, 3, 4, 5, 6, 7, 8, 9, 10, 11, 12]] 14 rfl rfl ?_
        refine xa_pure (v := (.int .i64 i9)) 0 (by decide +kernel) rfl rfl (wanted_none rfl _) (p_move rfl rfl) ?_
        refine xa_pure (v := (.int .i64 j10)) 1 (by decide +kernel) rfl rfl (wanted_none rfl _) (p_move rfl rfl) ?_
        refine xa_pure (v := (.bool (decide (i9 ≤ j10)))) 2 (by decide +kernel) rfl rfl (wanted_none rfl _) (p_le rfl rfl rfl) ?_
        refine xa_pure (v := (.bool (decide (i9 ≤ j10)))) 3 (by decide +kernel) rfl rfl (wanted_none rfl _) (p_move rfl rfl) ?_
        refine ifB_cases H ?_ ?_
        · clear H; intro hb9 H
          refine xa_pure (v := (Sl.v data0)) 4 (by decide +kernel) rfl rfl (wanted_yes (d := 49) rfl rfl (by decide) rfl hb9) (p_move rfl rfl) ?_
          refine xa_pure (v := (.int .i64 a1)) 5 (by decide +kernel) rfl rfl (wanted_yes (d := 49) rfl rfl (by decide) rfl hb9) (p_move rfl rfl) ?_
          obtain ⟨p_13, hap_13, hlp_13, hup_13, H⟩ := H
          refine xa_pure (v := (.pointer (some (p_13.add (a1.toNat * 1))))) 6 (by decide +kernel) rfl rfl (wanted_yes (d := 49) rfl rfl (by decide) rfl hb9) (p_indexAddr (s := data0) (ad := p_13) (size := 1) rfl Try.underlying71 Try.ti9 rfl rfl hap_13 hlp_13 hup_13) ?_
          obtain ⟨adv_14, v_14, hev_14, hcv_14, H⟩ := H
          refine xa_read (v := (.string v_14)) (S := (fun w => w.cell? adv_14 = some (.string v_14))) 7 (by decide +kernel) rfl rfl (wanted_yes (d := 49) rfl rfl (by decide) rfl hb9) (fun w hc => rd_load (ad := adv_14) rfl Try.underlying9 rfl (by show Value.pointer _ = _; rw [hev_14]) hc) hcv_14 ?_
          refine xa_pure (v := (Sl.v data0)) 8 (by decide +kernel) rfl rfl (wanted_yes (d := 49) rfl rfl (by decide) rfl hb9) (p_move rfl rfl) ?_
          refine xa_pure (v := (.int .i64 j10)) 9 (by decide +kernel) rfl rfl (wanted_yes (d := 49) rfl rfl (by decide) rfl hb9) (p_move rfl rfl) ?_
          obtain ⟨p_15, hap_15, hlp_15, hup_15, H⟩ := H
          refine xa_pure (v := (.pointer (some (p_15.add (j10.toNat * 1))))) 10 (by decide +kernel) rfl rfl (wanted_yes (d := 49) rfl rfl (by decide) rfl hb9) (p_indexAddr (s := data0) (ad := p_15) (size := 1) rfl Try.underlying71 Try.ti9 rfl rfl hap_15 hlp_15 hup_15) ?_
          obtain ⟨adv_16, v_16, hev_16, hcv_16, H⟩ := H
          refine xa_read (v := (.string v_16)) (S := (fun w => w.cell? adv_16 = some (.string v_16))) 11 (by decide +kernel) rfl rfl (wanted_yes (d := 49) rfl rfl (by decide) rfl hb9) (fun w hc => rd_load (ad := adv_16) rfl Try.underlying9 rfl (by show Value.pointer _ = _; rw [hev_16]) hc) hcv_16 ?_
          refine xa_eff 12 [] (by decide +kernel) rfl rfl rfl (wanted_yes (d := 49) rfl rfl (by decide) rfl hb9) (e_call (fn := Try.f214) H rfl rfl Try.func214 rfl rfl rfl) ?_
          rintro _ w_8 ⟨v_18, rfl, H⟩
          refine ⟨AllHeld.nil, ?_⟩
          refine xa_pure (v := (.bool v_18)) 13 (by decide +kernel) rfl rfl (wanted_none rfl _) (p_pickT rfl rfl hb9 rfl) ?_
          refine xa_end (by decide +kernel) ?_
          refine r_upd (i := 0) (v := (Sl.v data0)) rfl ?_
          refine r_upd (i := 1) (v := (.int .i64 a1)) rfl ?_
          refine r_upd (i := 9) (v := (.int .i64 i9)) rfl ?_
          refine r_upd (i := 10) (v := (.int .i64 j10)) rfl ?_
          refine r_upd (i := 59) (v := (.bool v_18)) rfl ?_
          exact J6 (data0, a1, i9, j10, v_18) _ _ H
        · clear H; intro hb9 H
          refine xa_skip 4 (by decide +kernel) rfl rfl (wanted_no (d := 49) rfl rfl (by decide) rfl hb9) ?_
          refine xa_skip 5 (by decide +kernel) rfl rfl (wanted_no (d := 49) rfl rfl (by decide) rfl hb9) ?_
          refine xa_skip 6 (by decide +kernel) rfl rfl (wanted_no (d := 49) rfl rfl (by decide) rfl hb9) ?_
          refine xa_skip 7 (by decide +kernel) rfl rfl (wanted_no (d := 49) rfl rfl (by decide) rfl hb9) ?_
          refine xa_skip 8 (by decide +kernel) rfl rfl (wanted_no (d := 49) rfl rfl (by decide) rfl hb9) ?_
          refine xa_skip 9 (by decide +kernel) rfl rfl (wanted_no (d := 49) rfl rfl (by decide) rfl hb9) ?_
          refine xa_skip 10 (by decide +kernel) rfl rfl (wanted_no (d := 49) rfl rfl (by decide) rfl hb9) ?_
          refine xa_skip 11 (by decide +kernel) rfl rfl (wanted_no (d := 49) rfl rfl (by decide) rfl hb9) ?_
          refine xa_skip 12 (by decide +kernel) rfl rfl (wanted_no (d := 49) rfl rfl (by decide) rfl hb9) ?_
          refine xa_pure (v := (.bool false)) 13 (by decide +kernel) rfl rfl (wanted_none rfl _) (p_pickF rfl rfl hb9 rfl) ?_
          refine xa_end (by decide +kernel) ?_
          refine r_upd (i := 0) (v := (Sl.v data0)) rfl ?_
          refine r_upd (i := 1) (v := (.int .i64 a1)) rfl ?_
          refine r_upd (i := 9) (v := (.int .i64 i9)) rfl ?_
          refine r_upd (i := 10) (v := (.int .i64 j10)) rfl ?_
          refine r_upd (i := 59) (v := (.bool false)) rfl ?_
          exact J6 (data0, a1, i9, j10, false) _ _ H
  · intro J3
    refine r_draw #[[], [], [0, 1], [0, 1, 2], [0, 1, 2, 3], [0, 1, 2, 3], [0, 1, 2, 3, 4, 5], [0, 1, 2, 3, 4, 5, 6], [0, 1, 2, 3], [0, 1, 2, 3], [0, 1, 2, 3, 8, 9], [0, 1, 2, 3, 8, 9, 10], [0, 1, 2, 3, 4, 5, 6, 7, 8, 9, 10, 11], [0, 1, 2, 3, 4, 5, 6, 7, 8, 9, 10, 11, 12], [0, 1, 2, 3, 4, 5, 6, 7, 8, 9, 10, 11, 12, 13]] 15 rfl rfl ?_
    refine xa_pure (v := (.int .i64 i9)) 0 (by decide +kernel) rfl rfl (wanted_none rfl _) (p_move rfl rfl) ?_
    refine xa_pure (v := (.int .i64 j10)) 1 (by decide +kernel) rfl rfl (wanted_none rfl _) (p_move rfl rfl) ?_
    refine xa_pure (v := (.bool (decide (i9 ≤ j10)))) 2 (by decide +kernel) rfl rfl (wanted_none rfl _) (p_le rfl rfl rfl) ?_
    refine xa_pure (v := (.bool (decide (i9 ≤ j10)))) 3 (by decide +kernel) rfl rfl (wanted_none rfl _) (p_move rfl rfl) ?_
    refine ifB_cases H ?_ ?_
    · clear H; intro hb10 H
      refine xa_pure (v := (Sl.v data0)) 4 (by decide +kernel) rfl rfl (wanted_yes (d := 32) rfl rfl (by decide) rfl hb10) (p_move rfl rfl) ?_
      refine xa_pure (v := (.int .i64 a1)) 5 (by decide +kernel) rfl rfl (wanted_yes (d := 32) rfl rfl (by decide) rfl hb10) (p_move rfl rfl) ?_
      obtain ⟨p_19, hap_19, hlp_19, hup_19, H⟩ := H
      refine xa_pure (v := (.pointer (some (p_19.add (a1.toNat * 1))))) 6 (by decide +kernel) rfl rfl (wanted_yes (d := 32) rfl rfl (by decide) rfl hb10) (p_indexAddr (s := data0) (ad := p_19) (size := 1) rfl Try.underlying71 Try.ti9 rfl rfl hap_19 hlp_19 hup_19) ?_
      obtain ⟨adv_20, v_20, hev_20, hcv_20, H⟩ := H
      refine xa_read (v := (.string v_20)) (S := (fun w => w.cell? adv_20 = some (.string v_20))) 7 (by decide +kernel) rfl rfl (wanted_yes (d := 32) rfl rfl (by decide) rfl hb10) (fun w hc => rd_load (ad := adv_20) rfl Try.underlying9 rfl (by show Value.pointer _ = _; rw [hev_20]) hc) hcv_20 ?_
      refine xa_pure (v := (Sl.v data0)) 8 (by decide +kernel) rfl rfl (wanted_yes (d := 32) rfl rfl (by decide) rfl hb10) (p_move rfl rfl) ?_
      refine xa_pure (v := (.int .i64 i9)) 9 (by decide +kernel) rfl rfl (wanted_yes (d := 32) rfl rfl (by decide) rfl hb10) (p_move rfl rfl) ?_
      obtain ⟨p_21, hap_21, hlp_21, hup_21, H⟩ := H
      refine xa_pure (v := (.pointer (some (p_21.add (i9.toNat * 1))))) 10 (by decide +kernel) rfl rfl (wanted_yes (d := 32) rfl rfl (by decide) rfl hb10) (p_indexAddr (s := data0) (ad := p_21) (size := 1) rfl Try.underlying71 Try.ti9 rfl rfl hap_21 hlp_21 hup_21) ?_
      obtain ⟨adv_22, v_22, hev_22, hcv_22, H⟩ := H
      refine xa_read (v := (.string v_22)) (S := (fun w => w.cell? adv_22 = some (.string v_22))) 11 (by decide +kernel) rfl rfl (wanted_yes (d := 32) rfl rfl (by decide) rfl hb10) (fun w hc => rd_load (ad := adv_22) rfl Try.underlying9 rfl (by show Value.pointer _ = _; rw [hev_22]) hc) hcv_22 ?_
      refine xa_eff 12 [] (by decide +kernel) rfl rfl rfl (wanted_yes (d := 32) rfl rfl (by decide) rfl hb10) (e_call (fn := Try.f214) H rfl rfl Try.func214 rfl rfl rfl) ?_
      rintro _ w_10 ⟨v_24, rfl, H⟩
      refine ⟨AllHeld.nil, ?_⟩
      refine xa_pure (v := (.bool (!v_24))) 13 (by decide +kernel) rfl rfl (wanted_yes (d := 32) rfl rfl (by decide) rfl hb10) (p_not rfl rfl) ?_
      refine xa_pure (v := (.bool (!v_24))) 14 (by decide +kernel) rfl rfl (wanted_none rfl _) (p_pickT rfl rfl hb10 rfl) ?_
      refine xa_end (by decide +kernel) ?_
      refine r_upd (i := 0) (v := (Sl.v data0)) rfl ?_
      refine r_upd (i := 1) (v := (.int .i64 a1)) rfl ?_
      refine r_upd (i := 9) (v := (.int .i64 i9)) rfl ?_
      refine r_upd (i := 10) (v := (.int .i64 j10)) rfl ?_
      refine r_upd (i := 43) (v := (.bool (!v_24))) rfl ?_
      exact J3 (data0, a1, i9, j10, (!v_24)) _ _ H
    · clear H; intro hb10 H
      refine xa_skip 4 (by decide +kernel) rfl rfl (wanted_no (d := 32) rfl rfl (by decide) rfl hb10) ?_
      refine xa_skip 5 (by decide +kernel) rfl rfl (wanted_no (d := 32) rfl rfl (by decide) rfl hb10) ?_
      refine xa_skip 6 (by decide +kernel) rfl rfl (wanted_no (d := 32) rfl rfl (by decide) rfl hb10) ?_
      refine xa_skip 7 (by decide +kernel) rfl rfl (wanted_no (d := 32) rfl rfl (by decide) rfl hb10) ?_
      refine xa_skip 8 (by decide +kernel) rfl rfl (wanted_no (d := 32) rfl rfl (by decide) rfl hb10) ?_
      refine xa_skip 9 (by decide +kernel) rfl rfl (wanted_no (d := 32) rfl rfl (by decide) rfl hb10) ?_
      refine xa_skip 10 (by decide +kernel) rfl rfl (wanted_no (d := 32) rfl rfl (by decide) rfl hb10) ?_
      refine xa_skip 11 (by decide +kernel) rfl rfl (wanted_no (d := 32) rfl rfl (by decide) rfl hb10) ?_
      refine xa_skip 12 (by decide +kernel) rfl rfl (wanted_no (d := 32) rfl rfl (by decide) rfl hb10) ?_
      refine xa_skip 13 (by decide +kernel) rfl rfl (wanted_no (d := 32) rfl rfl (by decide) rfl hb10) ?_
      refine xa_pure (v := (.bool false)) 14 (by decide +kernel) rfl rfl (wanted_none rfl _) (p_pickF rfl rfl hb10 rfl) ?_
      refine xa_end (by decide +kernel) ?_
      refine r_upd (i := 0) (v := (Sl.v data0)) rfl ?_
      refine r_upd (i := 1) (v := (.int .i64 a1)) rfl ?_
      refine r_upd (i := 9) (v := (.int .i64 i9)) rfl ?_
      refine r_upd (i := 10) (v := (.int .i64 j10)) rfl ?_
      refine r_upd (i := 43) (v := (.bool false)) rfl ?_
      exact J3 (data0, a1, i9, j10, false) _ _ H

/-! 216 slices.partitionOrdered[string] -/
def slices_partitionOrdered_string_k8 (R : Value → World → Prop) (ag1 : (Sl × Int × Int × Int) → World → Prop) (ag4 : (Sl × Int × Int × Int) → World → Prop) (ag8 : (Sl × Int × Int × Int) → World → Prop) (ag9 : (Sl × Int × Int × Int) → World → Prop) (ag12 : (Sl × Int × Int × Int) → World → Prop) (data0 : Sl) (a1 : Int) (i10 : Int) (j11 : Int) (t129 : Bool) (w : World) : Prop :=
  IfB t129 (
    ag12 (data0, a1, i10, (IntKind.i64.wrap (j11 - 1))) w) (
    IfB (decide (j11 < i10)) (
      Ix data0 a1 fun p_19 =>
      Ld Value.string (some (p_19.add (a1.toNat * 1))) (World.drew w) fun v_20 =>
      Ix data0 j11 fun p_21 =>
      Ld Value.string (some (p_21.add (j11.toNat * 1))) (World.drew w) fun v_22 =>
      Ix data0 j11 fun p_23 =>
      St (some (p_23.add (j11.toNat * 1))) (.string v_20) (World.drew w) fun w_11 =>
      Ix data0 a1 fun p_24 =>
      St (some (p_24.add (a1.toNat * 1))) (.string v_22) w_11 fun w_12 =>
      R (.tuple #[(.int .i64 j11), (.bool false)]) w_12) (
      Ix data0 j11 fun p_25 =>
      Ld Value.string (some (p_25.add (j11.toNat * 1))) (World.drew w) fun v_26 =>
      Ix data0 i10 fun p_27 =>
      Ld Value.string (some (p_27.add (i10.toNat * 1))) (World.drew w) fun v_28 =>
      Ix data0 i10 fun p_29 =>
      St (some (p_29.add (i10.toNat * 1))) (.string v_26) (World.drew w) fun w_14 =>
      Ix data0 j11 fun p_30 =>
      St (some (p_30.add (j11.toNat * 1))) (.string v_28) w_14 fun w_15 =>
      ag8 (data0, a1, (IntKind.i64.wrap (i10 + 1)), (IntKind.i64.wrap (j11 - 1))) w_15))

def slices_partitionOrdered_string_b7 (R : Value → World → Prop) (ag1 : (Sl × Int × Int × Int) → World → Prop) (ag4 : (Sl × Int × Int × Int) → World → Prop) (ag8 : (Sl × Int × Int × Int) → World → Prop) (ag9 : (Sl × Int × Int × Int) → World → Prop) (ag12 : (Sl × Int × Int × Int) → World → Prop) (data0 : Sl) (a1 : Int) (i10 : Int) (j11 : Int) (w : World) : Prop :=
  IfB (decide (i10 ≤ j11)) (
    Ix data0 j11 fun p_31 =>
    Ld Value.string (some (p_31.add (j11.toNat * 1))) (World.drew w) fun v_32 =>
    Ix data0 a1 fun p_33 =>
    Ld Value.string (some (p_33.add (a1.toNat * 1))) (World.drew w) fun v_34 =>
    CallF Try.prog 214 #[(.string v_32), (.string v_34)] (World.drew w) fun u_35 w_17 => As Value.bool u_35 fun v_36 =>
    slices_partitionOrdered_string_k8 R ag1 ag4 ag8 ag9 ag12 data0 a1 i10 j11 (!v_36) w_17) (
    slices_partitionOrdered_string_k8 R ag1 ag4 ag8 ag9 ag12 data0 a1 i10 j11 false (World.drew w))

def slices_partitionOrdered_string_k6 (R : Value → World → Prop) (ag1 : (Sl × Int × Int × Int) → World → Prop) (ag4 : (Sl × Int × Int × Int) → World → Prop) (ag8 : (Sl × Int × Int × Int) → World → Prop) (ag9 : (Sl × Int × Int × Int) → World → Prop) (data0 : Sl) (a1 : Int) (i10 : Int) (j11 : Int) (t112 : Bool) (w : World) : Prop :=
  IfB t112 (
    ag9 (data0, a1, (IntKind.i64.wrap (i10 + 1)), j11) w) (
    Lp (fun ag (s : Sl × Int × Int × Int) w => slices_partitionOrdered_string_b7 R ag1 ag4 ag8 ag9 ag s.1 s.2.1 s.2.2.1 s.2.2.2 w) (data0, a1, i10, j11) w)

def slices_partitionOrdered_string_b5 (R : Value → World → Prop) (ag1 : (Sl × Int × Int × Int) → World → Prop) (ag4 : (Sl × Int × Int × Int) → World → Prop) (ag8 : (Sl × Int × Int × Int) → World → Prop) (ag9 : (Sl × Int × Int × Int) → World → Prop) (data0 : Sl) (a1 : Int) (i10 : Int) (j11 : Int) (w : World) : Prop :=
  IfB (decide (i10 ≤ j11)) (
    Ix data0 i10 fun p_37 =>
    Ld Value.string (some (p_37.add (i10.toNat * 1))) (World.drew w) fun v_38 =>
    Ix data0 a1 fun p_39 =>
    Ld Value.string (some (p_39.add (a1.toNat * 1))) (World.drew w) fun v_40 =>
    CallF Try.prog 214 #[(.string v_38), (.string v_40)] (World.drew w) fun u_41 w_19 => As Value.bool u_41 fun v_42 =>
    slices_partitionOrdered_string_k6 R ag1 ag4 ag8 ag9 data0 a1 i10 j11 v_42 w_19) (
    slices_partitionOrdered_string_k6 R ag1 ag4 ag8 ag9 data0 a1 i10 j11 false (World.drew w))

def slices_partitionOrdered_string_b4 (R : Value → World → Prop) (ag1 : (Sl × Int × Int × Int) → World → Prop) (ag4 : (Sl × Int × Int × Int) → World → Prop) (ag8 : (Sl × Int × Int × Int) → World → Prop) (data0 : Sl) (a1 : Int) (i10 : Int) (j11 : Int) (w : World) : Prop :=
  Lp (fun ag (s : Sl × Int × Int × Int) w => slices_partitionOrdered_string_b5 R ag1 ag4 ag8 ag s.1 s.2.1 s.2.2.1 s.2.2.2 w) (data0, a1, i10, j11) w

def slices_partitionOrdered_string_k3 (R : Value → World → Prop) (ag1 : (Sl × Int × Int × Int) → World → Prop) (ag4 : (Sl × Int × Int × Int) → World → Prop) (data0 : Sl) (a1 : Int) (i10 : Int) (j11 : Int) (t60 : Bool) (w : World) : Prop :=
  IfB t60 (
    ag4 (data0, a1, i10, (IntKind.i64.wrap (j11 - 1))) w) (
    IfB (decide (j11 < i10)) (
      Ix data0 a1 fun p_7 =>
      Ld Value.string (some (p_7.add (a1.toNat * 1))) (World.drew w) fun v_8 =>
      Ix data0 j11 fun p_9 =>
      Ld Value.string (some (p_9.add (j11.toNat * 1))) (World.drew w) fun v_10 =>
      Ix data0 j11 fun p_11 =>
      St (some (p_11.add (j11.toNat * 1))) (.string v_8) (World.drew w) fun w_5 =>
      Ix data0 a1 fun p_12 =>
      St (some (p_12.add (a1.toNat * 1))) (.string v_10) w_5 fun w_6 =>
      R (.tuple #[(.int .i64 j11), (.bool true)]) w_6) (
      Ix data0 j11 fun p_13 =>
      Ld Value.string (some (p_13.add (j11.toNat * 1))) (World.drew w) fun v_14 =>
      Ix data0 i10 fun p_15 =>
      Ld Value.string (some (p_15.add (i10.toNat * 1))) (World.drew w) fun v_16 =>
      Ix data0 i10 fun p_17 =>
      St (some (p_17.add (i10.toNat * 1))) (.string v_14) (World.drew w) fun w_8 =>
      Ix data0 j11 fun p_18 =>
      St (some (p_18.add (j11.toNat * 1))) (.string v_16) w_8 fun w_9 =>
      Lp (fun ag (s : Sl × Int × Int × Int) w => slices_partitionOrdered_string_b4 R ag1 ag4 ag s.1 s.2.1 s.2.2.1 s.2.2.2 w) (data0, a1, (IntKind.i64.wrap (i10 + 1)), (IntKind.i64.wrap (j11 - 1))) w_9))

def slices_partitionOrdered_string_b2 (R : Value → World → Prop) (ag1 : (Sl × Int × Int × Int) → World → Prop) (ag4 : (Sl × Int × Int × Int) → World → Prop) (data0 : Sl) (a1 : Int) (i10 : Int) (j11 : Int) (w : World) : Prop :=
  IfB (decide (i10 ≤ j11)) (
    Ix data0 j11 fun p_43 =>
    Ld Value.string (some (p_43.add (j11.toNat * 1))) (World.drew w) fun v_44 =>
    Ix data0 a1 fun p_45 =>
    Ld Value.string (some (p_45.add (a1.toNat * 1))) (World.drew w) fun v_46 =>
    CallF Try.prog 214 #[(.string v_44), (.string v_46)] (World.drew w) fun u_47 w_21 => As Value.bool u_47 fun v_48 =>
    slices_partitionOrdered_string_k3 R ag1 ag4 data0 a1 i10 j11 (!v_48) w_21) (
    slices_partitionOrdered_string_k3 R ag1 ag4 data0 a1 i10 j11 false (World.drew w))

def slices_partitionOrdered_string_k1 (R : Value → World → Prop) (ag1 : (Sl × Int × Int × Int) → World → Prop) (data0 : Sl) (a1 : Int) (i10 : Int) (j11 : Int) (t43 : Bool) (w : World) : Prop :=
  IfB t43 (
    ag1 (data0, a1, (IntKind.i64.wrap (i10 + 1)), j11) w) (
    Lp (fun ag (s : Sl × Int × Int × Int) w => slices_partitionOrdered_string_b2 R ag1 ag s.1 s.2.1 s.2.2.1 s.2.2.2 w) (data0, a1, i10, j11) w)

def slices_partitionOrdered_string_b0 (R : Value → World → Prop) (ag1 : (Sl × Int × Int × Int) → World → Prop) (data0 : Sl) (a1 : Int) (i10 : Int) (j11 : Int) (w : World) : Prop :=
  IfB (decide (i10 ≤ j11)) (
    Ix data0 i10 fun p_49 =>
    Ld Value.string (some (p_49.add (i10.toNat * 1))) (World.drew w) fun v_50 =>
    Ix data0 a1 fun p_51 =>
    Ld Value.string (some (p_51.add (a1.toNat * 1))) (World.drew w) fun v_52 =>
    CallF Try.prog 214 #[(.string v_50), (.string v_52)] (World.drew w) fun u_53 w_23 => As Value.bool u_53 fun v_54 =>
    slices_partitionOrdered_string_k1 R ag1 data0 a1 i10 j11 v_54 w_23) (
    slices_partitionOrdered_string_k1 R ag1 data0 a1 i10 j11 false (World.drew w))

def slices_partitionOrdered_string (R : Value → World → Prop) (data0 : Sl) (a1 : Int) (b2 : Int) (pivot3 : Int) (w : World) : Prop :=
  Ix data0 pivot3 fun p_1 =>
  Ld Value.string (some (p_1.add (pivot3.toNat * 1))) (World.drew w) fun v_2 =>
  Ix data0 a1 fun p_3 =>
  Ld Value.string (some (p_3.add (a1.toNat * 1))) (World.drew w) fun v_4 =>
  Ix data0 a1 fun p_5 =>
  St (some (p_5.add (a1.toNat * 1))) (.string v_2) (World.drew w) fun w_2 =>
  Ix data0 pivot3 fun p_6 =>
  St (some (p_6.add (pivot3.toNat * 1))) (.string v_4) w_2 fun w_3 =>
  Lp (fun ag (s : Sl × Int × Int × Int) w => slices_partitionOrdered_string_b0 R ag s.1 s.2.1 s.2.2.1 s.2.2.2 w) (data0, a1, (IntKind.i64.wrap (a1 + 1)), (IntKind.i64.wrap (b2 - 1))) w_3

theorem slices_partitionOrdered_string_ok (R : Value → World → Prop) (data0 : Sl) (a1 : Int) (b2 : Int) (pivot3 : Int) (w : World) (H : slices_partitionOrdered_string R data0 a1 b2 pivot3 w) : CallF Try.prog 216 #[(Sl.v data0), (.int .i64 a1), (.int .i64 b2), (.int .i64 pivot3)] w R := by
  refine calls_of_runs (fn := Try.f216) Try.func216 rfl (Nat.le_of_ble_eq_true rfl) ?_
  show Runs _ _ 168 _ _ _ _
  unfold slices_partitionOrdered_string at H
  refine r_upd (i := 0) (v := (Sl.v data0)) rfl ?_
  refine r_upd (i := 1) (v := (.int .i64 a1)) rfl ?_
  refine r_upd (i := 2) (v := (.int .i64 b2)) rfl ?_
  refine r_upd (i := 3) (v := (.int .i64 pivot3)) rfl ?_
  refine r_seq ?_
  refine r_region ?_
  refine xo_pure (v := (.int .i64 0)) rfl (wanted_none rfl _) (p_assign rfl rfl) ?_
  refine xo_pure (v := (.bool false)) rfl (wanted_none rfl _) (p_assign rfl rfl) ?_
  refine xo_end ?_
  refine r_seq ?_
  refine r_draw #[[], [], [], [], [], [], [4, 5], [4, 5, 6], [], [], [8, 9], [8, 9, 10], [0, 1, 4, 5, 6, 7, 8, 9, 10, 11], [0, 1, 4, 5, 6, 7, 8, 9, 10, 11, 12], [0, 1, 2, 3, 4, 5, 6, 7, 8, 9, 10, 11, 12, 13], [0, 1, 2, 3, 4, 5, 6, 7, 8, 9, 10, 11, 12, 13, 14]] 16 rfl rfl ?_
  refine xa_pure (v := (Sl.v data0)) 0 (by decide +kernel) rfl rfl (wanted_none rfl _) (p_move rfl rfl) ?_
  refine xa_pure (v := (.int .i64 a1)) 1 (by decide +kernel) rfl rfl (wanted_none rfl _) (p_move rfl rfl) ?_
  refine xa_pure (v := (Sl.v data0)) 2 (by decide +kernel) rfl rfl (wanted_none rfl _) (p_move rfl rfl) ?_
  refine xa_pure (v := (.int .i64 pivot3)) 3 (by decide +kernel) rfl rfl (wanted_none rfl _) (p_move rfl rfl) ?_
  refine xa_pure (v := (Sl.v data0)) 4 (by decide +kernel) rfl rfl (wanted_none rfl _) (p_move rfl rfl) ?_
  refine xa_pure (v := (.int .i64 pivot3)) 5 (by decide +kernel) rfl rfl (wanted_none rfl _) (p_move rfl rfl) ?_
  obtain ⟨p_1, hap_1, hlp_1, hup_1, H⟩ := H
  refine xa_pure (v := (.pointer (some (p_1.add (pivot3.toNat * 1))))) 6 (by decide +kernel) rfl rfl (wanted_none rfl _) (p_indexAddr (s := data0) (ad := p_1) (size := 1) rfl Try.underlying71 Try.ti9 rfl rfl hap_1 hlp_1 hup_1) ?_
  obtain ⟨adv_2, v_2, hev_2, hcv_2, H⟩ := H
  refine xa_read (v := (.string v_2)) (S := (fun w => w.cell? adv_2 = some (.string v_2))) 7 (by decide +kernel) rfl rfl (wanted_none rfl _) (fun w hc => rd_load (ad := adv_2) rfl Try.underlying9 rfl (by show Value.pointer _ = _; rw [hev_2]) hc) hcv_2 ?_
  refine xa_pure (v := (Sl.v data0)) 8 (by decide +kernel) rfl rfl (wanted_none rfl _) (p_move rfl rfl) ?_
  refine xa_pure (v := (.int .i64 a1)) 9 (by decide +kernel) rfl rfl (wanted_none rfl _) (p_move rfl rfl) ?_
  obtain ⟨p_3, hap_3, hlp_3, hup_3, H⟩ := H
  refine xa_pure (v := (.pointer (some (p_3.add (a1.toNat * 1))))) 10 (by decide +kernel) rfl rfl (wanted_none rfl _) (p_indexAddr (s := data0) (ad := p_3) (size := 1) rfl Try.underlying71 Try.ti9 rfl rfl hap_3 hlp_3 hup_3) ?_
  obtain ⟨adv_4, v_4, hev_4, hcv_4, H⟩ := H
  refine xa_read (v := (.string v_4)) (S := (fun w => w.cell? adv_4 = some (.string v_4))) 11 (by decide +kernel) rfl rfl (wanted_none rfl _) (fun w hc => rd_load (ad := adv_4) rfl Try.underlying9 rfl (by show Value.pointer _ = _; rw [hev_4]) hc) hcv_4 ?_
  obtain ⟨p_5, hap_5, hlp_5, hup_5, H⟩ := H
  refine xa_pure (v := (.pointer (some (p_5.add (a1.toNat * 1))))) 12 (by decide +kernel) rfl rfl (wanted_none rfl _) (p_indexAddr (s := data0) (ad := p_5) (size := 1) rfl Try.underlying71 Try.ti9 rfl rfl hap_5 hlp_5 hup_5) ?_
  refine xa_effN 13 [] (by decide +kernel) rfl rfl rfl (wanted_none rfl _) (e_store rfl Try.ti9 rfl rfl rfl H) ?_
  intro _ w_2 H
  refine ⟨AllHeld.nil, ?_⟩
  obtain ⟨p_6, hap_6, hlp_6, hup_6, H⟩ := H
  refine xa_pure (v := (.pointer (some (p_6.add (pivot3.toNat * 1))))) 14 (by decide +kernel) rfl rfl (wanted_none rfl _) (p_indexAddr (s := data0) (ad := p_6) (size := 1) rfl Try.underlying71 Try.ti9 rfl rfl hap_6 hlp_6 hup_6) ?_
  refine xa_effN 15 [] (by decide +kernel) rfl rfl rfl (wanted_none rfl _) (e_store rfl Try.ti9 rfl rfl rfl H) ?_
  intro _ w_3 H
  refine ⟨AllHeld.nil, ?_⟩
  refine xa_end (by decide +kernel) ?_
  refine r_seq ?_
  refine r_region ?_
  refine xo_pure (v := (.int .i64 a1)) rfl (wanted_none rfl _) (p_move rfl rfl) ?_
  refine xo_pure (v := (.int .i64 (IntKind.i64.wrap (a1 + 1)))) rfl (wanted_none rfl _) (p_add rfl rfl rfl) ?_
  refine xo_pure (v := (.int .i64 b2)) rfl (wanted_none rfl _) (p_move rfl rfl) ?_
  refine xo_pure (v := (.int .i64 (IntKind.i64.wrap (b2 - 1)))) rfl (wanted_none rfl _) (p_sub rfl rfl rfl) ?_
  refine xo_pure (v := (.int .i64 (IntKind.i64.wrap (a1 + 1)))) rfl (wanted_none rfl _) (p_assign rfl rfl) ?_
  refine xo_pure (v := (.int .i64 (IntKind.i64.wrap (b2 - 1)))) rfl (wanted_none rfl _) (p_assign rfl rfl) ?_
  refine xo_end ?_
  refine r_seq ?_
  refine r_block ?_
  refine r_upd (i := 0) (v := (Sl.v data0)) rfl ?_
  refine r_upd (i := 1) (v := (.int .i64 a1)) rfl ?_
  refine r_upd (i := 10) (v := (.int .i64 (IntKind.i64.wrap (a1 + 1)))) rfl ?_
  refine r_upd (i := 11) (v := (.int .i64 (IntKind.i64.wrap (b2 - 1)))) rfl ?_
  refine r_loopJ (fun (s : Sl × Int × Int × Int) σ => upd 11 (.int .i64 s.2.2.2) (upd 10 (.int .i64 s.2.2.1) (upd 1 (.int .i64 s.2.1) (upd 0 (Sl.v s.1) (σ))))) (s := (data0, a1, (IntKind.i64.wrap (a1 + 1)), (IntKind.i64.wrap (b2 - 1)))) H ?_
  clear H
  rintro ag1 ⟨data0, a1, i10, j11⟩ σ w H hag1
  replace H : slices_partitionOrdered_string_b0 R ag1 data0 a1 i10 j11 w := H
  show Runs _ _ _ _ _ (upd 11 (.int .i64 j11) (upd 10 (.int .i64 i10) (upd 1 (.int .i64 a1) (upd 0 (Sl.v data0) (σ))))) _
  unfold slices_partitionOrdered_string_b0 at H
  refine r_seq ?_
  refine r_seq ?_
  refine r_topJ (fun (s : Sl × Int × Int × Int × Bool) σ => upd 43 (.bool s.2.2.2.2) (upd 11 (.int .i64 s.2.2.2.1) (upd 10 (.int .i64 s.2.2.1) (upd 1 (.int .i64 s.2.1) (upd 0 (Sl.v s.1) (σ)))))) (fun (s : Sl × Int × Int × Int × Bool) w => slices_partitionOrdered_string_k1 R ag1 s.1 s.2.1 s.2.2.1 s.2.2.2.1 s.2.2.2.2 w) ?_ ?_
  · rintro ⟨data0, a1, i10, j11, t43⟩ σ w H
    replace H : slices_partitionOrdered_string_k1 R ag1 data0 a1 i10 j11 t43 w := H
    show Runs _ _ _ _ _ (upd 43 (.bool t43) (upd 11 (.int .i64 j11) (upd 10 (.int .i64 i10) (upd 1 (.int .i64 a1) (upd 0 (Sl.v data0) (σ)))))) _
    unfold slices_partitionOrdered_string_k1 at H
    refine r_condB (b := t43) rfl H ?_ ?_
    · clear H; intro hb3 H
      refine r_skip ?_
      refine r_block ?_
      refine r_region ?_
      refine xo_pure (v := (.int .i64 i10)) rfl (wanted_none rfl _) (p_move rfl rfl) ?_
      refine xo_pure (v := (.int .i64 (IntKind.i64.wrap (i10 + 1)))) rfl (wanted_none rfl _) (p_add rfl rfl rfl) ?_
      refine xo_pure (v := (.int .i64 (IntKind.i64.wrap (i10 + 1)))) rfl (wanted_none rfl _) (p_assign rfl rfl) ?_
      refine xo_end ?_
      refine r_inBlock ?_
      refine r_upd (i := 0) (v := (Sl.v data0)) rfl ?_
      refine r_upd (i := 1) (v := (.int .i64 a1)) rfl ?_
      refine r_upd (i := 10) (v := (.int .i64 (IntKind.i64.wrap (i10 + 1)))) rfl ?_
      refine r_upd (i := 11) (v := (.int .i64 j11)) rfl ?_
      exact hag1 (data0, a1, (IntKind.i64.wrap (i10 + 1)), j11) _ _ H
    · clear H; intro hb3 H
      refine r_exit rfl ?_
      refine r_seq ?_
      refine r_block ?_
      refine r_upd (i := 0) (v := (Sl.v data0)) rfl ?_
      refine r_upd (i := 1) (v := (.int .i64 a1)) rfl ?_
      refine r_upd (i := 10) (v := (.int .i64 i10)) rfl ?_
      refine r_upd (i := 11) (v := (.int .i64 j11)) rfl ?_
      refine r_loopJ (fun (s : Sl × Int × Int × Int) σ => upd 11 (.int .i64 s.2.2.2) (upd 10 (.int .i64 s.2.2.1) (upd 1 (.int .i64 s.2.1) (upd 0 (Sl.v s.1) (σ))))) (s := (data0, a1, i10, j11)) H ?_
      clear H
      rintro ag4 ⟨data0, a1, i10, j11⟩ σ w H hag4
      replace H : slices_partitionOrdered_string_b2 R ag1 ag4 data0 a1 i10 j11 w := H
      show Runs _ _ _ _ _ (upd 11 (.int .i64 j11) (upd 10 (.int .i64 i10) (upd 1 (.int .i64 a1) (upd 0 (Sl.v data0) (σ))))) _
      unfold slices_partitionOrdered_string_b2 at H
      refine r_seq ?_
      refine r_seq ?_
      refine r_topJ (fun (s : Sl × Int × Int × Int × Bool) σ => upd 60 (.bool s.2.2.2.2) (upd 11 (.int .i64 s.2.2.2.1) (upd 10 (.int .i64 s.2.2.1) (upd 1 (.int .i64 s.2.1) (upd 0 (Sl.v s.1) (σ)))))) (fun (s : Sl × Int × Int × Int × Bool) w => slices_partitionOrdered_string_k3 R ag1 ag4 s.1 s.2.1 s.2.2.1 s.2.2.2.1 s.2.2.2.2 w) ?_ ?_
      · rintro ⟨data0, a1, i10, j11, t60⟩ σ w H
        replace H : slices_partitionOrdered_string_k3 R ag1 ag4 data0 a1 i10 j11 t60 w := H
        show Runs _ _ _ _ _ (upd 60 (.bool t60) (upd 11 (.int .i64 j11) (upd 10 (.int .i64 i10) (upd 1 (.int .i64 a1) (upd 0 (Sl.v data0) (σ)))))) _
        unfold slices_partitionOrdered_string_k3 at H
        refine r_condB (b := t60) rfl H ?_ ?_
        · clear H; intro hb6 H
          refine r_skip ?_
          refine r_block ?_
          refine r_region ?_
          refine xo_pure (v := (.int .i64 j11)) rfl (wanted_none rfl _) (p_move rfl rfl) ?_
          refine xo_pure (v := (.int .i64 (IntKind.i64.wrap (j11 - 1)))) rfl (wanted_none rfl _) (p_sub rfl rfl rfl) ?_
          refine xo_pure (v := (.int .i64 (IntKind.i64.wrap (j11 - 1)))) rfl (wanted_none rfl _) (p_assign rfl rfl) ?_
          refine xo_end ?_
          refine r_inBlock ?_
          refine r_upd (i := 0) (v := (Sl.v data0)) rfl ?_
          refine r_upd (i := 1) (v := (.int .i64 a1)) rfl ?_
          refine r_upd (i := 10) (v := (.int .i64 i10)) rfl ?_
          refine r_upd (i := 11) (v := (.int .i64 (IntKind.i64.wrap (j11 - 1)))) rfl ?_
          exact hag4 (data0, a1, i10, (IntKind.i64.wrap (j11 - 1))) _ _ H
        · clear H; intro hb6 H
          refine r_exit rfl ?_
          refine r_seq ?_
          refine r_seq ?_
          refine r_region ?_
          refine xo_pure (v := (.int .i64 i10)) rfl (wanted_none rfl _) (p_move rfl rfl) ?_
          refine xo_pure (v := (.int .i64 j11)) rfl (wanted_none rfl _) (p_move rfl rfl) ?_
          refine xo_pure (v := (.bool (decide (j11 < i10)))) rfl (wanted_none rfl _) (p_gt rfl rfl rfl) ?_
          refine xo_end ?_
          refine r_condB (b := (decide (j11 < i10))) rfl H ?_ ?_
          · clear H; intro hb7 H
            refine r_seq ?_
            refine r_draw #[[], [], [], [], [], [], [4, 5], [4, 5, 6], [], [], [8, 9], [8, 9, 10], [0, 1, 4, 5, 6, 7, 8, 9, 10, 11], [0, 1, 4, 5, 6, 7, 8, 9, 10, 11, 12], [0, 1, 2, 3, 4, 5, 6, 7, 8, 9, 10, 11, 12, 13], [0, 1, 2, 3, 4, 5, 6, 7, 8, 9, 10, 11, 12, 13, 14]] 16 rfl rfl ?_
            refine xa_pure (v := (Sl.v data0)) 0 (by decide +kernel) rfl rfl (wanted_none rfl _) (p_move rfl rfl) ?_
            refine xa_pure (v := (.int .i64 j11)) 1 (by decide +kernel) rfl rfl (wanted_none rfl _) (p_move rfl rfl) ?_
            refine xa_pure (v := (Sl.v data0)) 2 (by decide +kernel) rfl rfl (wanted_none rfl _) (p_move rfl rfl) ?_
            refine xa_pure (v := (.int .i64 a1)) 3 (by decide +kernel) rfl rfl (wanted_none rfl _) (p_move rfl rfl) ?_
            refine xa_pure (v := (Sl.v data0)) 4 (by decide +kernel) rfl rfl (wanted_none rfl _) (p_move rfl rfl) ?_
            refine xa_pure (v := (.int .i64 a1)) 5 (by decide +kernel) rfl rfl (wanted_none rfl _) (p_move rfl rfl) ?_
            obtain ⟨p_7, hap_7, hlp_7, hup_7, H⟩ := H
            refine xa_pure (v := (.pointer (some (p_7.add (a1.toNat * 1))))) 6 (by decide +kernel) rfl rfl (wanted_none rfl _) (p_indexAddr (s := data0) (ad := p_7) (size := 1) rfl Try.underlying71 Try.ti9 rfl rfl hap_7 hlp_7 hup_7) ?_
            obtain ⟨adv_8, v_8, hev_8, hcv_8, H⟩ := H
            refine xa_read (v := (.string v_8)) (S := (fun w => w.cell? adv_8 = some (.string v_8))) 7 (by decide +kernel) rfl rfl (wanted_none rfl _) (fun w hc => rd_load (ad := adv_8) rfl Try.underlying9 rfl (by show Value.pointer _ = _; rw [hev_8]) hc) hcv_8 ?_
            refine xa_pure (v := (Sl.v data0)) 8 (by decide +kernel) rfl rfl (wanted_none rfl _) (p_move rfl rfl) ?_
            refine xa_pure (v := (.int .i64 j11)) 9 (by decide +kernel) rfl rfl (wanted_none rfl _) (p_move rfl rfl) ?_
            obtain ⟨p_9, hap_9, hlp_9, hup_9, H⟩ := H
            refine xa_pure (v := (.pointer (some (p_9.add (j11.toNat * 1))))) 10 (by decide +kernel) rfl rfl (wanted_none rfl _) (p_indexAddr (s := data0) (ad := p_9) (size := 1) rfl Try.underlying71 Try.ti9 rfl rfl hap_9 hlp_9 hup_9) ?_
            obtain ⟨adv_10, v_10, hev_10, hcv_10, H⟩ := H
            refine xa_read (v := (.string v_10)) (S := (fun w => w.cell? adv_10 = some (.string v_10))) 11 (by decide +kernel) rfl rfl (wanted_none rfl _) (fun w hc => rd_load (ad := adv_10) rfl Try.underlying9 rfl (by show Value.pointer _ = _; rw [hev_10]) hc) hcv_10 ?_
            obtain ⟨p_11, hap_11, hlp_11, hup_11, H⟩ := H
            refine xa_pure (v := (.pointer (some (p_11.add (j11.toNat * 1))))) 12 (by decide +kernel) rfl rfl (wanted_none rfl _) (p_indexAddr (s := data0) (ad := p_11) (size := 1) rfl Try.underlying71 Try.ti9 rfl rfl hap_11 hlp_11 hup_11) ?_
            refine xa_effN 13 [] (by decide +kernel) rfl rfl rfl (wanted_none rfl _) (e_store rfl Try.ti9 rfl rfl rfl H) ?_
            intro _ w_5 H
            refine ⟨AllHeld.nil, ?_⟩
            obtain ⟨p_12, hap_12, hlp_12, hup_12, H⟩ := H
            refine xa_pure (v := (.pointer (some (p_12.add (a1.toNat * 1))))) 14 (by decide +kernel) rfl rfl (wanted_none rfl _) (p_indexAddr (s := data0) (ad := p_12) (size := 1) rfl Try.underlying71 Try.ti9 rfl rfl hap_12 hlp_12 hup_12) ?_
            refine xa_effN 15 [] (by decide +kernel) rfl rfl rfl (wanted_none rfl _) (e_store rfl Try.ti9 rfl rfl rfl H) ?_
            intro _ w_6 H
            refine ⟨AllHeld.nil, ?_⟩
            refine xa_end (by decide +kernel) ?_
            refine r_seq ?_
            refine r_region ?_
            refine xo_pure (v := (.int .i64 j11)) rfl (wanted_none rfl _) (p_move rfl rfl) ?_
            refine xo_pure (v := (.int .i64 j11)) rfl (wanted_none rfl _) (p_assign rfl rfl) ?_
            refine xo_pure (v := (.bool true)) rfl (wanted_none rfl _) (p_assign rfl rfl) ?_
            refine xo_end ?_
            exact r_ret (fn := Try.f216) Try.func216 (res_2 rfl ⟨by decide, rfl⟩ ⟨by decide, rfl⟩) H
          · clear H; intro hb7 H
            refine r_skip ?_
            refine r_seq ?_
            refine r_draw #[[], [], [], [], [], [], [4, 5], [4, 5, 6], [], [], [8, 9], [8, 9, 10], [0, 1, 4, 5, 6, 7, 8, 9, 10, 11], [0, 1, 4, 5, 6, 7, 8, 9, 10, 11, 12], [0, 1, 2, 3, 4, 5, 6, 7, 8, 9, 10, 11, 12, 13], [0, 1, 2, 3, 4, 5, 6, 7, 8, 9, 10, 11, 12, 13, 14]] 16 rfl rfl ?_
            refine xa_pure (v := (Sl.v data0)) 0 (by decide +kernel) rfl rfl (wanted_none rfl _) (p_move rfl rfl) ?_
            refine xa_pure (v := (.int .i64 i10)) 1 (by decide +kernel) rfl rfl (wanted_none rfl _) (p_move rfl rfl) ?_
            refine xa_pure (v := (Sl.v data0)) 2 (by decide +kernel) rfl rfl (wanted_none rfl _) (p_move rfl rfl) ?_
            refine xa_pure (v := (.int .i64 j11)) 3 (by decide +kernel) rfl rfl (wanted_none rfl _) (p_move rfl rfl) ?_
            refine xa_pure (v := (Sl.v data0)) 4 (by decide +kernel) rfl rfl (wanted_none rfl _) (p_move rfl rfl) ?_
            refine xa_pure (v := (.int .i64 j11)) 5 (by decide +kernel) rfl rfl (wanted_none rfl _) (p_move rfl rfl) ?_
            obtain ⟨p_13, hap_13, hlp_13, hup_13, H⟩ := H
            refine xa_pure (v := (.pointer (some (p_13.add (j11.toNat * 1))))) 6 (by decide +kernel) rfl rfl (wanted_none rfl _) (p_indexAddr (s := data0) (ad := p_13) (size := 1) rfl Try.underlying71 Try.ti9 rfl rfl hap_13 hlp_13 hup_13) ?_
            obtain ⟨adv_14, v_14, hev_14, hcv_14, H⟩ := H
            refine xa_read (v := (.string v_14)) (S := (fun w => w.cell? adv_14 = some (.string v_14))) 7 (by decide +kernel) rfl rfl (wanted_none rfl _) (fun w hc => rd_load (ad := adv_14) rfl Try.underlying9 rfl (by show Value.pointer _ = _; rw [hev_14]) hc) hcv_14 ?_
            refine xa_pure (v := (Sl.v data0)) 8 (by decide +kernel) rfl rfl (wanted_none rfl _) (p_move rfl rfl) ?_
            refine xa_pure (v := (.int .i64 i10)) 9 (by decide +kernel) rfl rfl (wanted_none rfl _) (p_move rfl rfl) ?_
            obtain ⟨p_15, hap_15, hlp_15, hup_15, H⟩ := H
            refine xa_pure (v := (.pointer (some (p_15.add (i10.toNat * 1))))) 10 (by decide +kernel) rfl rfl (wanted_none rfl _) (p_indexAddr (s := data0) (ad := p_15) (size := 1) rfl Try.underlying71 Try.ti9 rfl rfl hap_15 hlp_15 hup_15) ?_
            obtain ⟨adv_16, v_16, hev_16, hcv_16, H⟩ := H
            refine xa_read (v := (.string v_16)) (S := (fun w => w.cell? adv_16 = some (.string v_16))) 11 (by decide +kernel) rfl rfl (wanted_none rfl _) (fun w hc => rd_load (ad := adv_16) rfl Try.underlying9 rfl (by show Value.pointer _ = _; rw [hev_16]) hc) hcv_16 ?_
            obtain ⟨p_17, hap_17, hlp_17, hup_17, H⟩ := H
            refine xa_pure (v := (.pointer (some (p_17.add (i10.toNat * 1))))) 12 (by decide +kernel) rfl rfl (wanted_none rfl _) (p_indexAddr (s := data0) (ad := p_17) (size := 1) rfl Try.underlying71 Try.ti9 rfl rfl hap_17 hlp_17 hup_17) ?_
            refine xa_effN 13 [] (by decide +kernel) rfl rfl rfl (wanted_none rfl _) (e_store rfl Try.ti9 rfl rfl rfl H) ?_
            intro _ w_8 H
            refine ⟨AllHeld.nil, ?_⟩
            obtain ⟨p_18, hap_18, hlp_18, hup_18, H⟩ := H
            refine xa_pure (v := (.pointer (some (p_18.add (j11.toNat * 1))))) 14 (by decide +kernel) rfl rfl (wanted_none rfl _) (p_indexAddr (s := data0) (ad := p_18) (size := 1) rfl Try.underlying71 Try.ti9 rfl rfl hap_18 hlp_18 hup_18) ?_
            refine xa_effN 15 [] (by decide +kernel) rfl rfl rfl (wanted_none rfl _) (e_store rfl Try.ti9 rfl rfl rfl H) ?_
            intro _ w_9 H
            refine ⟨AllHeld.nil, ?_⟩
            refine xa_end (by decide +kernel) ?_
            refine r_seq ?_
            refine r_region ?_
            refine xo_pure (v := (.int .i64 i10)) rfl (wanted_none rfl _) (p_move rfl rfl) ?_
            refine xo_pure (v := (.int .i64 (IntKind.i64.wrap (i10 + 1)))) rfl (wanted_none rfl _) (p_add rfl rfl rfl) ?_
            refine xo_pure (v := (.int .i64 (IntKind.i64.wrap (i10 + 1)))) rfl (wanted_none rfl _) (p_assign rfl rfl) ?_
            refine xo_end ?_
            refine r_seq ?_
            refine r_region ?_
            refine xo_pure (v := (.int .i64 j11)) rfl (wanted_none rfl _) (p_move rfl rfl) ?_
            refine xo_pure (v := (.int .i64 (IntKind.i64.wrap (j11 - 1)))) rfl (wanted_none rfl _) (p_sub rfl rfl rfl) ?_
            refine xo_pure (v := (.int .i64 (IntKind.i64.wrap (j11 - 1)))) rfl (wanted_none rfl _) (p_assign rfl rfl) ?_
            refine xo_end ?_
            refine r_seq ?_
            refine r_block ?_
            refine r_upd (i := 0) (v := (Sl.v data0)) rfl ?_
            refine r_upd (i := 1) (v := (.int .i64 a1)) rfl ?_
            refine r_upd (i := 10) (v := (.int .i64 (IntKind.i64.wrap (i10 + 1)))) rfl ?_
            refine r_upd (i := 11) (v := (.int .i64 (IntKind.i64.wrap (j11 - 1)))) rfl ?_
            refine r_loopJ (fun (s : Sl × Int × Int × Int) σ => upd 11 (.int .i64 s.2.2.2) (upd 10 (.int .i64 s.2.2.1) (upd 1 (.int .i64 s.2.1) (upd 0 (Sl.v s.1) (σ))))) (s := (data0, a1, (IntKind.i64.wrap (i10 + 1)), (IntKind.i64.wrap (j11 - 1)))) H ?_
            clear H
            rintro ag8 ⟨data0, a1, i10, j11⟩ σ w H hag8
            replace H : slices_partitionOrdered_string_b4 R ag1 ag4 ag8 data0 a1 i10 j11 w := H
            show Runs _ _ _ _ _ (upd 11 (.int .i64 j11) (upd 10 (.int .i64 i10) (upd 1 (.int .i64 a1) (upd 0 (Sl.v data0) (σ))))) _
            unfold slices_partitionOrdered_string_b4 at H
            refine r_block ?_
            refine r_seq ?_
            refine r_block ?_
            refine r_upd (i := 0) (v := (Sl.v data0)) rfl ?_
            refine r_upd (i := 1) (v := (.int .i64 a1)) rfl ?_
            refine r_upd (i := 10) (v := (.int .i64 i10)) rfl ?_
            refine r_upd (i := 11) (v := (.int .i64 j11)) rfl ?_
            refine r_loopJ (fun (s : Sl × Int × Int × Int) σ => upd 11 (.int .i64 s.2.2.2) (upd 10 (.int .i64 s.2.2.1) (upd 1 (.int .i64 s.2.1) (upd 0 (Sl.v s.1) (σ))))) (s := (data0, a1, i10, j11)) H ?_
            clear H
            rintro ag9 ⟨data0, a1, i10, j11⟩ σ w H hag9
            replace H : slices_partitionOrdered_string_b5 R ag1 ag4 ag8 ag9 data0 a1 i10 j11 w := H
            show Runs _ _ _ _ _ (upd 11 (.int .i64 j11) (upd 10 (.int .i64 i10) (upd 1 (.int .i64 a1) (upd 0 (Sl.v data0) (σ))))) _
            unfold slices_partitionOrdered_string_b5 at H
            refine r_seq ?_
            refine r_seq ?_
            refine r_topJ (fun (s : Sl × Int × Int × Int × Bool) σ => upd 112 (.bool s.2.2.2.2) (upd 11 (.int .i64 s.2.2.2.1) (upd 10 (.int .i64 s.2.2.1) (upd 1 (.int .i64 s.2.1) (upd 0 (Sl.v s.1) (σ)))))) (fun (s : Sl × Int × Int × Int × Bool) w => slices_partitionOrdered_string_k6 R ag1 ag4 ag8 ag9 s.1 s.2.1 s.2.2.1 s.2.2.2.1 s.2.2.2.2 w) ?_ ?_
            · rintro ⟨data0, a1, i10, j11, t112⟩ σ w H
              replace H : slices_partitionOrdered_string_k6 R ag1 ag4 ag8 ag9 data0 a1 i10 j11 t112 w := H
              show Runs _ _ _ _ _ (upd 112 (.bool t112) (upd 11 (.int .i64 j11) (upd 10 (.int .i64 i10) (upd 1 (.int .i64 a1) (upd 0 (Sl.v data0) (σ)))))) _
              unfold slices_partitionOrdered_string_k6 at H
              refine r_condB (b := t112) rfl H ?_ ?_
              · clear H; intro hb11 H
                refine r_skip ?_
                refine r_block ?_
                refine r_region ?_
                refine xo_pure (v := (.int .i64 i10)) rfl (wanted_none rfl _) (p_move rfl rfl) ?_
                refine xo_pure (v := (.int .i64 (IntKind.i64.wrap (i10 + 1)))) rfl (wanted_none rfl _) (p_add rfl rfl rfl) ?_
                refine xo_pure (v := (.int .i64 (IntKind.i64.wrap (i10 + 1)))) rfl (wanted_none rfl _) (p_assign rfl rfl) ?_
                refine xo_end ?_
                refine r_inBlock ?_
                refine r_upd (i := 0) (v := (Sl.v data0)) rfl ?_
                refine r_upd (i := 1) (v := (.int .i64 a1)) rfl ?_
                refine r_upd (i := 10) (v := (.int .i64 (IntKind.i64.wrap (i10 + 1)))) rfl ?_
                refine r_upd (i := 11) (v := (.int .i64 j11)) rfl ?_
                exact hag9 (data0, a1, (IntKind.i64.wrap (i10 + 1)), j11) _ _ H
              · clear H; intro hb11 H
                refine r_exit rfl ?_
                refine r_seq ?_
                refine r_block ?_
                refine r_upd (i := 0) (v := (Sl.v data0)) rfl ?_
                refine r_upd (i := 1) (v := (.int .i64 a1)) rfl ?_
                refine r_upd (i := 10) (v := (.int .i64 i10)) rfl ?_
                refine r_upd (i := 11) (v := (.int .i64 j11)) rfl ?_
                refine r_loopJ (fun (s : Sl × Int × Int × Int) σ => upd 11 (.int .i64 s.2.2.2) (upd 10 (.int .i64 s.2.2.1) (upd 1 (.int .i64 s.2.1) (upd 0 (Sl.v s.1) (σ))))) (s := (data0, a1, i10, j11)) H ?_
                clear H
                rintro ag12 ⟨data0, a1, i10, j11⟩ σ w H hag12
                replace H : slices_partitionOrdered_string_b7 R ag1 ag4 ag8 ag9 ag12 data0 a1 i10 j11 w := H
                show Runs _ _ _ _ _ (upd 11 (.int .i64 j11) (upd 10 (.int .i64 i10) (upd 1 (.int .i64 a1) (upd 0 (Sl.v data0) (σ))))) _
                unfold slices_partitionOrdered_string_b7 at H
                refine r_seq ?_
                refine r_seq ?_
                refine r_topJ (fun (s : Sl × Int × Int × Int × Bool) σ => upd 129 (.bool s.2.2.2.2) (upd 11 (.int .i64 s.2.2.2.1) (upd 10 (.int .i64 s.2.2.1) (upd 1 (.int .i64 s.2.1) (upd 0 (Sl.v s.1) (σ)))))) (fun (s : Sl × Int × Int × Int × Bool) w => slices_partitionOrdered_string_k8 R ag1 ag4 ag8 ag9 ag12 s.1 s.2.1 s.2.2.1 s.2.2.2.1 s.2.2.2.2 w) ?_ ?_
                · rintro ⟨data0, a1, i10, j11, t129⟩ σ w H
                  replace H : slices_partitionOrdered_string_k8 R ag1 ag4 ag8 ag9 ag12 data0 a1 i10 j11 t129 w := H
                  show Runs _ _ _ _ _ (upd 129 (.bool t129) (upd 11 (.int .i64 j11) (upd 10 (.int .i64 i10) (upd 1 (.int .i64 a1) (upd 0 (Sl.v data0) (σ)))))) _
                  unfold slices_partitionOrdered_string_k8 at H
                  refine r_condB (b := t129) rfl H ?_ ?_
                  · clear H; intro hb14 H
                    refine r_skip ?_
                    refine r_block ?_
                    refine r_region ?_
                    refine xo_pure (v := (.int .i64 j11)) rfl (wanted_none rfl _) (p_move rfl rfl) ?_
                    refine xo_pure (v := (.int .i64 (IntKind.i64.wrap (j11 - 1)))) rfl (wanted_none rfl _) (p_sub rfl rfl rfl) ?_
                    refine xo_pure (v := (.int .i64 (IntKind.i64.wrap (j11 - 1)))) rfl (wanted_none rfl _) (p_assign rfl rfl) ?_
                    refine xo_end ?_
                    refine r_inBlock ?_
                    refine r_upd (i := 0) (v := (Sl.v data0)) rfl ?_
                    refine r_upd (i := 1) (v := (.int .i64 a1)) rfl ?_
                    refine r_upd (i := 10) (v := (.int .i64 i10)) rfl ?_
                    refine r_upd (i := 11) (v := (.int .i64 (IntKind.i64.wrap (j11 - 1)))) rfl ?_
                    exact hag12 (data0, a1, i10, (IntKind.i64.wrap (j11 - 1))) _ _ H
                  · clear H; intro hb14 H
                    refine r_exit rfl ?_
                    refine r_seq ?_
                    refine r_seq ?_
                    refine r_region ?_
                    refine xo_pure (v := (.int .i64 i10)) rfl (wanted_none rfl _) (p_move rfl rfl) ?_
                    refine xo_pure (v := (.int .i64 j11)) rfl (wanted_none rfl _) (p_move rfl rfl) ?_
                    refine xo_pure (v := (.bool (decide (j11 < i10)))) rfl (wanted_none rfl _) (p_gt rfl rfl rfl) ?_
                    refine xo_end ?_
                    refine r_condB (b := (decide (j11 < i10))) rfl H ?_ ?_
                    · clear H; intro hb15 H
                      refine r_exit rfl ?_
                      refine r_seq ?_
                      refine r_draw #[[], [], [], [], [], [], [4, 5], [4, 5, 6], [], [], [8, 9], [8, 9, 10], [0, 1, 4, 5, 6, 7, 8, 9, 10, 11], [0, 1, 4, 5, 6, 7, 8, 9, 10, 11, 12], [0, 1, 2, 3, 4, 5, 6, 7, 8, 9, 10, 11, 12, 13], [0, 1, 2, 3, 4, 5, 6, 7, 8, 9, 10, 11, 12, 13, 14]] 16 rfl rfl ?_
                      refine xa_pure (v := (Sl.v data0)) 0 (by decide +kernel) rfl rfl (wanted_none rfl _) (p_move rfl rfl) ?_
                      refine xa_pure (v := (.int .i64 j11)) 1 (by decide +kernel) rfl rfl (wanted_none rfl _) (p_move rfl rfl) ?_
                      refine xa_pure (v := (Sl.v data0)) 2 (by decide +kernel) rfl rfl (wanted_none rfl _) (p_move rfl rfl) ?_
                      refine xa_pure (v := (.int .i64 a1)) 3 (by decide +kernel) rfl rfl (wanted_none rfl _) (p_move rfl rfl) ?_
                      refine xa_pure (v := (Sl.v data0)) 4 (by decide +kernel) rfl rfl (wanted_none rfl _) (p_move rfl rfl) ?_
                      refine xa_pure (v := (.int .i64 a1)) 5 (by decide +kernel) rfl rfl (wanted_none rfl _) (p_move rfl rfl) ?_
                      obtain ⟨p_19, hap_19, hlp_19, hup_19, H⟩ := H
                      refine xa_pure (v := (.pointer (some (p_19.add (a1.toNat * 1))))) 6 (by decide +kernel) rfl rfl (wanted_none rfl _) (p_indexAddr (s := data0) (ad := p_19) (size := 1) rfl Try.underlying71 Try.ti9 rfl rfl hap_19 hlp_19 hup_19) ?_
                      obtain ⟨adv_20, v_20, hev_20, hcv_20, H⟩ := H
                      refine xa_read (v := (.string v_20)) (S := (fun w => w.cell? adv_20 = some (.string v_20))) 7 (by decide +kernel) rfl rfl (wanted_none rfl _) (fun w hc => rd_load (ad := adv_20) rfl Try.underlying9 rfl (by show Value.pointer _ = _; rw [hev_20]) hc) hcv_20 ?_
                      refine xa_pure (v := (Sl.v data0)) 8 (by decide +kernel) rfl rfl (wanted_none rfl _) (p_move rfl rfl) ?_
                      refine xa_pure (v := (.int .i64 j11)) 9 (by decide +kernel) rfl rfl (wanted_none rfl _) (p_move rfl rfl) ?_
                      obtain ⟨p_21, hap_21, hlp_21, hup_21, H⟩ := H
                      refine xa_pure (v := (.pointer (some (p_21.add (j11.toNat * 1))))) 10 (by decide +kernel) rfl rfl (wanted_none rfl _) (p_indexAddr (s := data0) (ad := p_21) (size := 1) rfl Try.underlying71 Try.ti9 rfl rfl hap_21 hlp_21 hup_21) ?_
                      obtain ⟨adv_22, v_22, hev_22, hcv_22, H⟩ := H
                      refine xa_read (v := (.string v_22)) (S := (fun w => w.cell? adv_22 = some (.string v_22))) 11 (by decide +kernel) rfl rfl (wanted_none rfl _) (fun w hc => rd_load (ad := adv_22) rfl Try.underlying9 rfl (by show Value.pointer _ = _; rw [hev_22]) hc) hcv_22 ?_
                      obtain ⟨p_23, hap_23, hlp_23, hup_23, H⟩ := H
                      refine xa_pure (v := (.pointer (some (p_23.add (j11.toNat * 1))))) 12 (by decide +kernel) rfl rfl (wanted_none rfl _) (p_indexAddr (s := data0) (ad := p_23) (size := 1) rfl Try.underlying71 Try.ti9 rfl rfl hap_23 hlp_23 hup_23) ?_
                      refine xa_effN 13 [] (by decide +kernel) rfl rfl rfl (wanted_none rfl _) (e_store rfl Try.ti9 rfl rfl rfl H) ?_
                      intro _ w_11 H
                      refine ⟨AllHeld.nil, ?_⟩
                      obtain ⟨p_24, hap_24, hlp_24, hup_24, H⟩ := H
                      refine xa_pure (v := (.pointer (some (p_24.add (a1.toNat * 1))))) 14 (by decide +kernel) rfl rfl (wanted_none rfl _) (p_indexAddr (s := data0) (ad := p_24) (size := 1) rfl Try.underlying71 Try.ti9 rfl rfl hap_24 hlp_24 hup_24) ?_
                      refine xa_effN 15 [] (by decide +kernel) rfl rfl rfl (wanted_none rfl _) (e_store rfl Try.ti9 rfl rfl rfl H) ?_
                      intro _ w_12 H
                      refine ⟨AllHeld.nil, ?_⟩
                      refine xa_end (by decide +kernel) ?_
                      refine r_seq ?_
                      refine r_region ?_
                      refine xo_pure (v := (.int .i64 j11)) rfl (wanted_none rfl _) (p_move rfl rfl) ?_
                      refine xo_pure (v := (.int .i64 j11)) rfl (wanted_none rfl _) (p_assign rfl rfl) ?_
                      refine xo_pure (v := (.bool false)) rfl (wanted_none rfl _) (p_assign rfl rfl) ?_
                      refine xo_end ?_
                      exact r_ret (fn := Try.f216) Try.func216 (res_2 rfl ⟨by decide, rfl⟩ ⟨by decide, rfl⟩) H
                    · clear H; intro hb15 H
                      refine r_skip ?_
                      refine r_seq ?_
                      refine r_draw #[[], [], [], [], [], [], [4, 5], [4, 5, 6], [], [], [8, 9], [8, 9, 10], [0, 1, 4, 5, 6, 7, 8, 9, 10, 11], [0, 1, 4, 5, 6, 7, 8, 9, 10, 11, 12], [0, 1, 2, 3, 4, 5, 6, 7, 8, 9, 10, 11, 12, 13], [0, 1, 2, 3, 4, 5, 6, 7, 8, 9, 10, 11, 12, 13, 14]] 16 rfl rfl ?_
                      refine xa_pure (v := (Sl.v data0)) 0 (by decide +kernel) rfl rfl (wanted_none rfl _) (p_move rfl rfl) ?_
                      refine xa_pure (v := (.int .i64 i10)) 1 (by decide +kernel) rfl rfl (wanted_none rfl _) (p_move rfl rfl) ?_
                      refine xa_pure (v := (Sl.v data0)) 2 (by decide +kernel) rfl rfl (wanted_none rfl _) (p_move rfl rfl) ?_
                      refine xa_pure (v := (.int .i64 j11)) 3 (by decide +kernel) rfl rfl (wanted_none rfl _) (p_move rfl rfl) ?_
                      refine xa_pure (v := (Sl.v data0)) 4 (by decide +kernel) rfl rfl (wanted_none rfl _) (p_move rfl rfl) ?_
                      refine xa_pure (v := (.int .i64 j11)) 5 (by decide +kernel) rfl rfl (wanted_none rfl _) (p_move rfl rfl) ?_
                      obtain ⟨p_25, hap_25, hlp_25, hup_25, H⟩ := H
                      refine xa_pure (v := (.pointer (some (p_25.add (j11.toNat * 1))))) 6 (by decide +kernel) rfl rfl (wanted_none rfl _) (p_indexAddr (s := data0) (ad := p_25) (size := 1) rfl Try.underlying71 Try.ti9 rfl rfl hap_25 hlp_25 hup_25) ?_
                      obtain ⟨adv_26, v_26, hev_26, hcv_26, H⟩ := H
                      refine xa_read (v := (.string v_26)) (S := (fun w => w.cell? adv_26 = some (.string v_26))) 7 (by decide +kernel) rfl rfl (wanted_none rfl _) (fun w hc => rd_load (ad := adv_26) rfl Try.underlying9 rfl (by show Value.pointer _ = _; rw [hev_26]) hc) hcv_26 ?_
                      refine xa_pure (v := (Sl.v data0)) 8 (by decide +kernel) rfl rfl (wanted_none rfl _) (p_move rfl rfl) ?_
                      refine xa_pure (v := (.int .i64 i10)) 9 (by decide +kernel) rfl rfl (wanted_none rfl _) (p_move rfl rfl) ?_
                      obtain ⟨p_27, hap_27, hlp_27, hup_27, H⟩ := H
                      refine xa_pure (v := (.pointer (some (p_27.add (i10.toNat * 1))))) 10 (by decide +kernel) rfl rfl (wanted_none rfl _) (p_indexAddr (s := data0) (ad := p_27) (size := 1) rfl Try.underlying71 Try.ti9 rfl rfl hap_27 hlp_27 hup_27) ?_
                      obtain ⟨adv_28, v_28, hev_28, hcv_28, H⟩ := H
                      refine xa_read (v := (.string v_28)) (S := (fun w => w.cell? adv_28 = some (.string v_28))) 11 (by decide +kernel) rfl rfl (wanted_none rfl _) (fun w hc => rd_load (ad := adv_28) rfl Try.underlying9 rfl (by show Value.pointer _ = _; rw [hev_28]) hc) hcv_28 ?_
                      obtain ⟨p_29, hap_29, hlp_29, hup_29, H⟩ := H
                      refine xa_pure (v := (.pointer (some (p_29.add (i10.toNat * 1))))) 12 (by decide +kernel) rfl rfl (wanted_none rfl _) (p_indexAddr (s := data0) (ad := p_29) (size := 1) rfl Try.underlying71 Try.ti9 rfl rfl hap_29 hlp_29 hup_29) ?_
                      refine xa_effN 13 [] (by decide +kernel) rfl rfl rfl (wanted_none rfl _) (e_store rfl Try.ti9 rfl rfl rfl H) ?_
                      intro _ w_14 H
                      refine ⟨AllHeld.nil, ?_⟩
                      obtain ⟨p_30, hap_30, hlp_30, hup_30, H⟩ := H
                      refine xa_pure (v := (.pointer (some (p_30.add (j11.toNat * 1))))) 14 (by decide +kernel) rfl rfl (wanted_none rfl _) (p_indexAddr (s := data0) (ad := p_30) (size := 1) rfl Try.underlying71 Try.ti9 rfl rfl hap_30 hlp_30 hup_30) ?_
                      refine xa_effN 15 [] (by decide +kernel) rfl rfl rfl (wanted_none rfl _) (e_store rfl Try.ti9 rfl rfl rfl H) ?_
                      intro _ w_15 H
                      refine ⟨AllHeld.nil, ?_⟩
                      refine xa_end (by decide +kernel) ?_
                      refine r_seq ?_
                      refine r_region ?_
                      refine xo_pure (v := (.int .i64 i10)) rfl (wanted_none rfl _) (p_move rfl rfl) ?_
                      refine xo_pure (v := (.int .i64 (IntKind.i64.wrap (i10 + 1)))) rfl (wanted_none rfl _) (p_add rfl rfl rfl) ?_
                      refine xo_pure (v := (.int .i64 (IntKind.i64.wrap (i10 + 1)))) rfl (wanted_none rfl _) (p_assign rfl rfl) ?_
                      refine xo_end ?_
                      refine r_region ?_
                      refine xo_pure (v := (.int .i64 j11)) rfl (wanted_none rfl _) (p_move rfl rfl) ?_
                      refine xo_pure (v := (.int .i64 (IntKind.i64.wrap (j11 - 1)))) rfl (wanted_none rfl _) (p_sub rfl rfl rfl) ?_
                      refine xo_pure (v := (.int .i64 (IntKind.i64.wrap (j11 - 1)))) rfl (wanted_none rfl _) (p_assign rfl rfl) ?_
                      refine xo_end ?_
                      refine r_inBlock ?_
                      refine r_upd (i := 0) (v := (Sl.v data0)) rfl ?_
                      refine r_upd (i := 1) (v := (.int .i64 a1)) rfl ?_
                      refine r_upd (i := 10) (v := (.int .i64 (IntKind.i64.wrap (i10 + 1)))) rfl ?_
                      refine r_upd (i := 11) (v := (.int .i64 (IntKind.i64.wrap (j11 - 1)))) rfl ?_
                      exact hag8 (data0, a1, (IntKind.i64.wrap (i10 + 1)), (IntKind.i64.wrap (j11 - 1))) _ _ H
                · intro J13
                  refine r_draw #[[], [], [0, 1], [0, 1, 2], [0, 1, 2, 3], [0, 1, 2, 3], [0, 1, 2, 3, 4, 5], [0, 1, 2, 3, 4, 5, 6], [0, 1, 2, 3], [0, 1, 2, 3], [0, 1, 2, 3, 8, 9], [0, 1, 2, 3, 8, 9, 10], [0, 1, 2, 3, 4, 5, 6, 7, 8, 9, 10, 11], [0, 1, 2, 3, 4, 5, 6, 7, 8, 9, 10, 11, 12], [0, 1, 2, 3, 4, 5, 6, 7, 8, 9, 10, 11, 12, 13]] 15 rfl rfl ?_
                  refine xa_pure (v := (.int .i64 i10)) 0 (by decide +kernel) rfl rfl (wanted_none rfl _) (p_move rfl rfl) ?_
                  refine xa_pure (v := (.int .i64 j11)) 1 (by decide +kernel) rfl rfl (wanted_none rfl _) (p_move rfl rfl) ?_
                  refine xa_pure (v := (.bool (decide (i10 ≤ j11)))) 2 (by decide +kernel) rfl rfl (wanted_none rfl _) (p_le rfl rfl rfl) ?_
                  refine xa_pure (v := (.bool (decide (i10 ≤ j11)))) 3 (by decide +kernel) rfl rfl (wanted_none rfl _) (p_move rfl rfl) ?_
                  refine ifB_cases H ?_ ?_
                  · clear H; intro hb16 H
                    refine xa_pure (v := (Sl.v data0)) 4 (by decide +kernel) rfl rfl (wanted_yes (d := 118) rfl rfl (by decide) rfl hb16) (p_move rfl rfl) ?_
                    refine xa_pure (v := (.int .i64 j11)) 5 (by decide +kernel) rfl rfl (wanted_yes (d := 118) rfl rfl (by decide) rfl hb16) (p_move rfl rfl) ?_
                    obtain ⟨p_31, hap_31, hlp_31, hup_31, H⟩ := H
                    refine xa_pure (v := (.pointer (some (p_31.add (j11.toNat * 1))))) 6 (by decide +kernel) rfl rfl (wanted_yes (d := 118) rfl rfl (by decide) rfl hb16) (p_indexAddr (s := data0) (ad := p_31) (size := 1) rfl Try.underlying71 Try.ti9 rfl rfl hap_31 hlp_31 hup_31) ?_
                    obtain ⟨adv_32, v_32, hev_32, hcv_32, H⟩ := H
                    refine xa_read (v := (.string v_32)) (S := (fun w => w.cell? adv_32 = some (.string v_32))) 7 (by decide +kernel) rfl rfl (wanted_yes (d := 118) rfl rfl (by decide) rfl hb16) (fun w hc => rd_load (ad := adv_32) rfl Try.underlying9 rfl (by show Value.pointer _ = _; rw [hev_32]) hc) hcv_32 ?_
                    refine xa_pure (v := (Sl.v data0)) 8 (by decide +kernel) rfl rfl (wanted_yes (d := 118) rfl rfl (by decide) rfl hb16) (p_move rfl rfl) ?_
                    refine xa_pure (v := (.int .i64 a1)) 9 (by decide +kernel) rfl rfl (wanted_yes (d := 118) rfl rfl (by decide) rfl hb16) (p_move rfl rfl) ?_
                    obtain ⟨p_33, hap_33, hlp_33, hup_33, H⟩ := H
                    refine xa_pure (v := (.pointer (some (p_33.add (a1.toNat * 1))))) 10 (by decide +kernel) rfl rfl (wanted_yes (d := 118) rfl rfl (by decide) rfl hb16) (p_indexAddr (s := data0) (ad := p_33) (size := 1) rfl Try.underlying71 Try.ti9 rfl rfl hap_33 hlp_33 hup_33) ?_
                    obtain ⟨adv_34, v_34, hev_34, hcv_34, H⟩ := H
                    refine xa_read (v := (.string v_34)) (S := (fun w => w.cell? adv_34 = some (.string v_34))) 11 (by decide +kernel) rfl rfl (wanted_yes (d := 118) rfl rfl (by decide) rfl hb16) (fun w hc => rd_load (ad := adv_34) rfl Try.underlying9 rfl (by show Value.pointer _ = _; rw [hev_34]) hc) hcv_34 ?_
                    refine xa_eff 12 [] (by decide +kernel) rfl rfl rfl (wanted_yes (d := 118) rfl rfl (by decide) rfl hb16) (e_call (fn := Try.f214) H rfl rfl Try.func214 rfl rfl rfl) ?_
                    rintro _ w_17 ⟨v_36, rfl, H⟩
                    refine ⟨AllHeld.nil, ?_⟩
                    refine xa_pure (v := (.bool (!v_36))) 13 (by decide +kernel) rfl rfl (wanted_yes (d := 118) rfl rfl (by decide) rfl hb16) (p_not rfl rfl) ?_
                    refine xa_pure (v := (.bool (!v_36))) 14 (by decide +kernel) rfl rfl (wanted_none rfl _) (p_pickT rfl rfl hb16 rfl) ?_
                    refine xa_end (by decide +kernel) ?_
                    refine r_upd (i := 0) (v := (Sl.v data0)) rfl ?_
                    refine r_upd (i := 1) (v := (.int .i64 a1)) rfl ?_
                    refine r_upd (i := 10) (v := (.int .i64 i10)) rfl ?_
                    refine r_upd (i := 11) (v := (.int .i64 j11)) rfl ?_
                    refine r_upd (i := 129) (v := (.bool (!v_36))) rfl ?_
                    exact J13 (data0, a1, i10, j11, (!v_36)) _ _ H
                  · clear H; intro hb16 H
                    refine xa_skip 4 (by decide +kernel) rfl rfl (wanted_no (d := 118) rfl rfl (by decide) rfl hb16) ?_
                    refine xa_skip 5 (by decide +kernel) rfl rfl (wanted_no (d := 118) rfl rfl (by decide) rfl hb16) ?_
                    refine xa_skip 6 (by decide +kernel) rfl rfl (wanted_no (d := 118) rfl rfl (by decide) rfl hb16) ?_
                    refine xa_skip 7 (by decide +kernel) rfl rfl (wanted_no (d := 118) rfl rfl (by decide) rfl hb16) ?_
                    refine xa_skip 8 (by decide +kernel) rfl rfl (wanted_no (d := 118) rfl rfl (by decide) rfl hb16) ?_
                    refine xa_skip 9 (by decide +kernel) rfl rfl (wanted_no (d := 118) rfl rfl (by decide) rfl hb16) ?_
                    refine xa_skip 10 (by decide +kernel) rfl rfl (wanted_no (d := 118) rfl rfl (by decide) rfl hb16) ?_
                    refine xa_skip 11 (by decide +kernel) rfl rfl (wanted_no (d := 118) rfl rfl (by decide) rfl hb16) ?_
                    refine xa_skip 12 (by decide +kernel) rfl rfl (wanted_no (d := 118) rfl rfl (by decide) rfl hb16) ?_
                    refine xa_skip 13 (by decide +kernel) rfl rfl (wanted_no (d := 118) rfl rfl (by decide) rfl hb16) ?_
                    refine xa_pure (v := (.bool false)) 14 (by decide +kernel) rfl rfl (wanted_none rfl _) (p_pickF rfl rfl hb16 rfl) ?_
                    refine xa_end (by decide +kernel) ?_
                    refine r_upd (i := 0) (v := (Sl.v data0)) rfl ?_
                    refine r_upd (i := 1) (v := (.int .i64 a1)) rfl ?_
                    refine r_upd (i := 10) (v := (.int .i64 i10)) rfl ?_
                    refine r_upd (i := 11) (v := (.int .i64 j11)) rfl ?_
                    refine r_upd (i := 129) (v := (.bool false)) rfl ?_
                    exact J13 (data0, a1, i10, j11, false) _ _ H
            · intro J10
              refine r_draw #[[], [], [0, 1], [0, 1, 2], [0, 1, 2, 3], [0, 1, 2, 3], [0, 1, 2, 3, 4, 5], [0, 1, 2, 3, 4, 5, 6], [0, 1, 2, 3], [0, 1, 2, 3], [0, 1, 2, 3, 8, 9], [0, 1, 2, 3, 8, 9, 10], [0, 1, 2, 3, 4, 5, 6, 7, 8, 9, 10, 11], [0, 1, 2, 3, 4, 5, 6, 7, 8, 9, 10, 11, 12]] 14 rfl rfl ?_
              refine xa_pure (v := (.int .i64 i10)) 0 (by decide +kernel) rfl rfl (wanted_none rfl _) (p_move rfl rfl) ?_
              refine xa_pure (v := (.int .i64 j11)) 1 (by decide +kernel) rfl rfl (wanted_none rfl _) (p_move rfl rfl) ?_
              refine xa_pure (v := (.bool (decide (i10 ≤ j11)))) 2 (by decide +kernel) rfl rfl (wanted_none rfl _) (p_le rfl rfl rfl) ?_
              refine xa_pure (v := (.bool (decide (i10 ≤ j11)))) 3 (by decide +kernel) rfl rfl (wanted_none rfl _) (p_move rfl rfl) ?_
              refine ifB_cases H ?_ ?_
              · clear H; intro hb17 H
                refine xa_pure (v := (Sl.v data0)) 4 (by decide +kernel) rfl rfl (wanted_yes (d := 102) rfl rfl (by decide) rfl hb17) (p_move rfl rfl) ?_
                refine xa_pure (v := (.int .i64 i10)) 5 (by decide +kernel) rfl rfl (wanted_yes (d := 102) rfl rfl (by decide) rfl hb17) (p_move rfl rfl) ?_
                obtain ⟨p_37, hap_37, hlp_37, hup_37, H⟩ := H
                refine xa_pure (v := (.pointer (some (p_37.add (i10.toNat * 1))))) 6 (by decide +kernel) rfl rfl (wanted_yes (d := 102) rfl rfl (by decide) rfl hb17) (p_indexAddr (s := data0) (ad := p_37) (size := 1) rfl Try.underlying71 Try.ti9 rfl rfl hap_37 hlp_37 hup_37) ?_
                obtain ⟨adv_38, v_38, hev_38, hcv_38, H⟩ := H
                refine xa_read (v := (.string v_38)) (S := (fun w => w.cell? adv_38 = some (.string v_38))) 7 (by decide +kernel) rfl rfl (wanted_yes (d := 102) rfl rfl (by decide) rfl hb17) (fun w hc => rd_load (ad := adv_38) rfl Try.underlying9 rfl (by show Value.pointer _ = _; rw [hev_38]) hc) hcv_38 ?_
                refine xa_pure (v := (Sl.v data0)) 8 (by decide +kernel) rfl rfl (wanted_yes (d := 102) rfl rfl (by decide) rfl hb17) (p_move rfl rfl) ?_
                refine xa_pure (v := (.int .i64 a1)) 9 (by decide +kernel) rfl rfl (wanted_yes (d := 102) rfl rfl (by decide) rfl hb17) (p_move rfl rfl) ?_
                obtain ⟨p_39, hap_39, hlp_39, hup_39, H⟩ := H
                refine xa_pure (v := (.pointer (some (p_39.add (a1.toNat * 1))))) 10 (by decide +kernel) rfl rfl (wanted_yes (d := 102) rfl rfl (by decide) rfl hb17) (p_indexAddr (s := data0) (ad := p_39) (size := 1) rfl Try.underlying71 Try.ti9 rfl rfl hap_39 hlp_39 hup_39) ?_
                obtain ⟨adv_40, v_40, hev_40, hcv_40, H⟩ := H
                refine xa_read (v := (.string v_40)) (S := (fun w => w.cell? adv_40 = some (.string v_40))) 11 (by decide +kernel) rfl rfl (wanted_yes (d := 102) rfl rfl (by decide) rfl hb17) (fun w hc => rd_load (ad := adv_40) rfl Try.underlying9 rfl (by show Value.pointer _ = _; rw [hev_40]) hc) hcv_40 ?_
                refine xa_eff 12 [] (by decide +kernel) rfl rfl rfl (wanted_yes (d := 102) rfl rfl (by decide) rfl hb17) (e_call (fn := Try.f214) H rfl rfl Try.func214 rfl rfl rfl) ?_
                rintro _ w_19 ⟨v_42, rfl, H⟩
                refine ⟨AllHeld.nil, ?_⟩
                refine xa_pure (v := (.bool v_42)) 13 (by decide +kernel) rfl rfl (wanted_none rfl _) (p_pickT rfl rfl hb17 rfl) ?_
                refine xa_end (by decide +kernel) ?_
                refine r_upd (i := 0) (v := (Sl.v data0)) rfl ?_
                refine r_upd (i := 1) (v := (.int .i64 a1)) rfl ?_
                refine r_upd (i := 10) (v := (.int .i64 i10)) rfl ?_
                refine r_upd (i := 11) (v := (.int .i64 j11)) rfl ?_
                refine r_upd (i := 112) (v := (.bool v_42)) rfl ?_
                exact J10 (data0, a1, i10, j11, v_42) _ _ H
              · clear H; intro hb17 H
                refine xa_skip 4 (by decide +kernel) rfl rfl (wanted_no (d := 102) rfl rfl (by decide) rfl hb17) ?_
                refine xa_skip 5 (by decide +kernel) rfl rfl (wanted_no (d := 102) rfl rfl (by decide) rfl hb17) ?_
                refine xa_skip 6 (by decide +kernel) rfl rfl (wanted_no (d := 102) rfl rfl (by decide) rfl hb17) ?_
                refine xa_skip 7 (by decide +kernel) rfl rfl (wanted_no (d := 102) rfl rfl (by decide) rfl hb17) ?_
                refine xa_skip 8 (by decide +kernel) rfl rfl (wanted_no (d := 102) rfl rfl (by decide) rfl hb17) ?_
                refine xa_skip 9 (by decide +kernel) rfl rfl (wanted_no (d := 102) rfl rfl (by decide) rfl hb17) ?_
                refine xa_skip 10 (by decide +kernel) rfl rfl (wanted_no (d := 102) rfl rfl (by decide) rfl hb17) ?_
                refine xa_skip 11 (by decide +kernel) rfl rfl (wanted_no (d := 102) rfl rfl (by decide) rfl hb17) ?_
                refine xa_skip 12 (by decide +kernel) rfl rfl (wanted_no (d := 102) rfl rfl (by decide) rfl hb17) ?_
                refine xa_pure (v := (.bool false)) 13 (by decide +kernel) rfl rfl (wanted_none rfl _) (p_pickF rfl rfl hb17 rfl) ?_
                refine xa_end (by decide +kernel) ?_
                refine r_upd (i := 0) (v := (Sl.v data0)) rfl ?_
                refine r_upd (i := 1) (v := (.int .i64 a1)) rfl ?_
                refine r_upd (i := 10) (v := (.int .i64 i10)) rfl ?_
                refine r_upd (i := 11) (v := (.int .i64 j11)) rfl ?_
                refine r_upd (i := 112) (v := (.bool false)) rfl ?_
                exact J10 (data0, a1, i10, j11, false) _ _ H
      · intro J5
        refine r_draw #[[], [], [0, 1], [0, 1, 2], [0, 1, 2, 3], [0, 1, 2, 3], [0, 1, 2, 3, 4, 5], [0, 1, 2, 3, 4, 5, 6], [0, 1, 2, 3], [0, 1, 2, 3], [0, 1, 2, 3, 8, 9], [0, 1, 2, 3, 8, 9, 10], [0, 1, 2, 3, 4, 5, 6, 7, 8, 9, 10, 11], [0, 1, 2, 3, 4, 5, 6, 7, 8, 9, 10, 11, 12], [0, 1, 2, 3, 4, 5, 6, 7, 8, 9, 10, 11, 12, 13]] 15 rfl rfl ?_
        refine xa_pure (v := (.int .i64 i10)) 0 (by decide +kernel) rfl rfl (wanted_none rfl _) (p_move rfl rfl) ?_
        refine xa_pure (v := (.int .i64 j11)) 1 (by decide +kernel) rfl rfl (wanted_none rfl _) (p_move rfl rfl) ?_
        refine xa_pure (v := (.bool (decide (i10 ≤ j11)))) 2 (by decide +kernel) rfl rfl (wanted_none rfl _) (p_le rfl rfl rfl) ?_
        refine xa_pure (v := (.bool (decide (i10 ≤ j11)))) 3 (by decide +kernel) rfl rfl (wanted_none rfl _) (p_move rfl rfl) ?_
        refine ifB_cases H ?_ ?_
        · clear H; intro hb18 H
          refine xa_pure (v := (Sl.v data0)) 4 (by decide +kernel) rfl rfl (wanted_yes (d := 49) rfl rfl (by decide) rfl hb18) (p_move rfl rfl) ?_
          refine xa_pure (v := (.int .i64 j11)) 5 (by decide +kernel) rfl rfl (wanted_yes (d := 49) rfl rfl (by decide) rfl hb18) (p_move rfl rfl) ?_
          obtain ⟨p_43, hap_43, hlp_43, hup_43, H⟩ := H
          refine xa_pure (v := (.pointer (some (p_43.add (j11.toNat * 1))))) 6 (by decide +kernel) rfl rfl (wanted_yes (d := 49) rfl rfl (by decide) rfl hb18) (p_indexAddr (s := data0) (ad := p_43) (size := 1) rfl Try.underlying71 Try.ti9 rfl rfl hap_43 hlp_43 hup_43) ?_
          obtain ⟨adv_44, v_44, hev_44, hcv_44, H⟩ := H
          refine xa_read (v := (.string v_44)) (S := (fun w => w.cell? adv_44 = some (.string v_44))) 7 (by decide +kernel) rfl rfl (wanted_yes (d := 49) rfl rfl (by decide) rfl hb18) (fun w hc => rd_load (ad := adv_44) rfl Try.underlying9 rfl (by show Value.pointer _ = _; rw [hev_44]) hc) hcv_44 ?_
          refine xa_pure (v := (Sl.v data0)) 8 (by decide +kernel) rfl rfl (wanted_yes (d := 49) rfl rfl (by decide) rfl hb18) (p_move rfl rfl) ?_
          refine xa_pure (v := (.int .i64 a1)) 9 (by decide +kernel) rfl rfl (wanted_yes (d := 49) rfl rfl (by decide) rfl hb18) (p_move rfl rfl) ?_
          obtain ⟨p_45, hap_45, hlp_45, hup_45, H⟩ := H
          refine xa_pure (v := (.pointer (some (p_45.add (a1.toNat * 1))))) 10 (by decide +kernel) rfl rfl (wanted_yes (d := 49) rfl rfl (by decide) rfl hb18) (p_indexAddr (s := data0) (ad := p_45) (size := 1) rfl Try.underlying71 Try.ti9 rfl rfl hap_45 hlp_45 hup_45) ?_
          obtain ⟨adv_46, v_46, hev_46, hcv_46, H⟩ := H
          refine xa_read (v := (.string v_46)) (S := (fun w => w.cell? adv_46 = some (.string v_46))) 11 (by decide +kernel) rfl rfl (wanted_yes (d := 49) rfl rfl (by decide) rfl hb18) (fun w hc => rd_load (ad := adv_46) rfl Try.underlying9 rfl (by show Value.pointer _ = _; rw [hev_46]) hc) hcv_46 ?_
          refine xa_eff 12 [] (by decide +kernel) rfl rfl rfl (wanted_yes (d := 49) rfl rfl (by decide) rfl hb18) (e_call (fn := Try.f214) H rfl rfl Try.func214 rfl rfl rfl) ?_
          rintro _ w_21 ⟨v_48, rfl, H⟩
          refine ⟨AllHeld.nil, ?_⟩
          refine xa_pure (v := (.bool (!v_48))) 13 (by decide +kernel) rfl rfl (wanted_yes (d := 49) rfl rfl (by decide) rfl hb18) (p_not rfl rfl) ?_
          refine xa_pure (v := (.bool (!v_48))) 14 (by decide +kernel) rfl rfl (wanted_none rfl _) (p_pickT rfl rfl hb18 rfl) ?_
          refine xa_end (by decide +kernel) ?_
          refine r_upd (i := 0) (v := (Sl.v data0)) rfl ?_
          refine r_upd (i := 1) (v := (.int .i64 a1)) rfl ?_
          refine r_upd (i := 10) (v := (.int .i64 i10)) rfl ?_
          refine r_upd (i := 11) (v := (.int .i64 j11)) rfl ?_
          refine r_upd (i := 60) (v := (.bool (!v_48))) rfl ?_
          exact J5 (data0, a1, i10, j11, (!v_48)) _ _ H
        · clear H; intro hb18 H
          refine xa_skip 4 (by decide +kernel) rfl rfl (wanted_no (d := 49) rfl rfl (by decide) rfl hb18) ?_
          refine xa_skip 5 (by decide +kernel) rfl rfl (wanted_no (d := 49) rfl rfl (by decide) rfl hb18) ?_
          refine xa_skip 6 (by decide +kernel) rfl rfl (wanted_no (d := 49) rfl rfl (by decide) rfl hb18) ?_
          refine xa_skip 7 (by decide +kernel) rfl rfl (wanted_no (d := 49) rfl rfl (by decide) rfl hb18) ?_
          refine xa_skip 8 (by decide +kernel) rfl rfl (wanted_no (d := 49) rfl rfl (by decide) rfl hb18) ?_
          refine xa_skip 9 (by decide +kernel) rfl rfl (wanted_no (d := 49) rfl rfl (by decide) rfl hb18) ?_
          refine xa_skip 10 (by decide +kernel) rfl rfl (wanted_no (d := 49) rfl rfl (by decide) rfl hb18) ?_
          refine xa_skip 11 (by decide +kernel) rfl rfl (wanted_no (d := 49) rfl rfl (by decide) rfl hb18) ?_
          refine xa_skip 12 (by decide +kernel) rfl rfl (wanted_no (d := 49) rfl rfl (by decide) rfl hb18) ?_
          refine xa_skip 13 (by decide +kernel) rfl rfl (wanted_no (d := 49) rfl rfl (by decide) rfl hb18) ?_
          refine xa_pure (v := (.bool false)) 14 (by decide +kernel) rfl rfl (wanted_none rfl _) (p_pickF rfl rfl hb18 rfl) ?_
          refine xa_end (by decide +kernel) ?_
          refine r_upd (i := 0) (v := (Sl.v data0)) rfl ?_
          refine r_upd (i := 1) (v := (.int .i64 a1)) rfl ?_
          refine r_upd (i := 10) (v := (.int .i64 i10)) rfl ?_
          refine r_upd (i := 11) (v := (.int .i64 j11)) rfl ?_
          refine r_upd (i := 60) (v := (.bool false)) rfl ?_
          exact J5 (data0, a1, i10, j11, false) _ _ H
  · intro J2
    refine r_draw #[[], [], [0, 1], [0, 1, 2], [0, 1, 2, 3], [0, 1, 2, 3], [0, 1, 2, 3, 4, 5], [0, 1, 2, 3, 4, 5, 6], [0, 1, 2, 3], [0, 1, 2, 3], [0, 1, 2, 3, 8, 9], [0, 1, 2, 3, 8, 9, 10], [0, 1, 2, 3, 4, 5, 6, 7, 8, 9, 10, 11], [0, 1, 2, 3, 4, 5, 6, 7, 8, 9, 10, 11, 12]] 14 rfl rfl ?_
    refine xa_pure (v := (.int .i64 i10)) 0 (by decide +kernel) rfl rfl (wanted_none rfl _) (p_move rfl rfl) ?_
    refine xa_pure (v := (.int .i64 j11)) 1 (by decide +kernel) rfl rfl (wanted_none rfl _) (p_move rfl rfl) ?_
    refine xa_pure (v := (.bool (decide (i10 ≤ j11)))) 2 (by decide +kernel) rfl rfl (wanted_none rfl _) (p_le rfl rfl rfl) ?_
    refine xa_pure (v := (.bool (decide (i10 ≤ j11)))) 3 (by decide +kernel) rfl rfl (wanted_none rfl _) (p_move rfl rfl) ?_
    refine ifB_cases H ?_ ?_
    · clear H; intro hb19 H
      refine xa_pure (v := (Sl.v data0)) 4 (by decide +kernel) rfl rfl (wanted_yes (d := 33) rfl rfl (by decide) rfl hb19) (p_move rfl rfl) ?_
      refine xa_pure (v := (.int .i64 i10)) 5 (by decide +kernel) rfl rfl (wanted_yes (d := 33) rfl rfl (by decide) rfl hb19) (p_move rfl rfl) ?_
      obtain ⟨p_49, hap_49, hlp_49, hup_49, H⟩ := H
      refine xa_pure (v := (.pointer (some (p_49.add (i10.toNat * 1))))) 6 (by decide +kernel) rfl rfl (wanted_yes (d := 33) rfl rfl (by decide) rfl hb19) (p_indexAddr (s := data0) (ad := p_49) (size := 1) rfl Try.underlying71 Try.ti9 rfl rfl hap_49 hlp_49 hup_49) ?_
      obtain ⟨adv_50, v_50, hev_50, hcv_50, H⟩ := H
      refine xa_read (v := (.string v_50)) (S := (fun w => w.cell? adv_50 = some (.string v_50))) 7 (by decide +kernel) rfl rfl (wanted_yes (d := 33) rfl rfl (by decide) rfl hb19) (fun w hc => rd_load (ad := adv_50) rfl Try.underlying9 rfl (by show Value.pointer _ = _; rw [hev_50]) hc) hcv_50 ?_
      refine xa_pure (v := (Sl.v data0)) 8 (by decide +kernel) rfl rfl (wanted_yes (d := 33) rfl rfl (by decide) rfl hb19) (p_move rfl rfl) ?_
      refine xa_pure (v := (.int .i64 a1)) 9 (by decide +kernel) rfl rfl (wanted_yes (d := 33) rfl rfl (by decide) rfl hb19) (p_move rfl rfl) ?_
      obtain ⟨p_51, hap_51, hlp_51, hup_51, H⟩ := H
      refine xa_pure (v := (.pointer (some (p_51.add (a1.toNat * 1))))) 10 (by decide +kernel) rfl rfl (wanted_yes (d := 33) rfl rfl (by decide) rfl hb19) (p_indexAddr (s := data0) (ad := p_51) (size := 1) rfl Try.underlying71 Try.ti9 rfl rfl hap_51 hlp_51 hup_51) ?_
      obtain ⟨adv_52, v_52, hev_52, hcv_52, H⟩ := H
      refine xa_read (v := (.string v_52)) (S := (fun w => w.cell? adv_52 = some (.string v_52))) 11 (by decide +kernel) rfl rfl (wanted_yes (d := 33) rfl rfl (by decide) rfl hb19) (fun w hc => rd_load (ad := adv_52) rfl Try.underlying9 rfl (by show Value.pointer _ = _; rw [hev_52]) hc) hcv_52 ?_
      refine xa_eff 12 [] (by decide +kernel) rfl rfl rfl (wanted_yes (d := 33) rfl rfl (by decide) rfl hb19) (e_call (fn := Try.f214) H rfl rfl Try.func214 rfl rfl rfl) ?_
      rintro _ w_23 ⟨v_54, rfl, H⟩
      refine ⟨AllHeld.nil, ?_⟩
      refine xa_pure (v := (.bool v_54)) 13 (by decide +kernel) rfl rfl (wanted_none rfl _) (p_pickT rfl rfl hb19 rfl) ?_
      refine xa_end (by decide +kernel) ?_
      refine r_upd (i := 0) (v := (Sl.v data0)) rfl ?_
      refine r_upd (i := 1) (v := (.int .i64 a1)) rfl ?_
      refine r_upd (i := 10) (v := (.int .i64 i10)) rfl ?_
      refine r_upd (i := 11) (v := (.int .i64 j11)) rfl ?_
      refine r_upd (i := 43) (v := (.bool v_54)) rfl ?_
      exact J2 (data0, a1, i10, j11, v_54) _ _ H
    · clear H; intro hb19 H
      refine xa_skip 4 (by decide +kernel) rfl rfl (wanted_no (d := 33) rfl rfl (by decide) rfl hb19) ?_
      refine xa_skip 5 (by decide +kernel) rfl rfl (wanted_no (d := 33) rfl rfl (by decide) rfl hb19) ?_
      refine xa_skip 6 (by decide +kernel) rfl rfl (wanted_no (d := 33) rfl rfl (by decide) rfl hb19) ?_
      refine xa_skip 7 (by decide +kernel) rfl rfl (wanted_no (d := 33) rfl rfl (by decide) rfl hb19) ?_
      refine xa_skip 8 (by decide +kernel) rfl rfl (wanted_no (d := 33) rfl rfl (by decide) rfl hb19) ?_
      refine xa_skip 9 (by decide +kernel) rfl rfl (wanted_no (d := 33) rfl rfl (by decide) rfl hb19) ?_
      refine xa_skip 10 (by decide +kernel) rfl rfl (wanted_no (d := 33) rfl rfl (by decide) rfl hb19) ?_
      refine xa_skip 11 (by decide +kernel) rfl rfl (wanted_no (d := 33) rfl rfl (by decide) rfl hb19) ?_
      refine xa_skip 12 (by decide +kernel) rfl rfl (wanted_no (d := 33) rfl rfl (by decide) rfl hb19) ?_
      refine xa_pure (v := (.bool false)) 13 (by decide +kernel) rfl rfl (wanted_none rfl _) (p_pickF rfl rfl hb19 rfl) ?_
      refine xa_end (by decide +kernel) ?_
      refine r_upd (i := 0) (v := (Sl.v data0)) rfl ?_
      refine r_upd (i := 1) (v := (.int .i64 a1)) rfl ?_
      refine r_upd (i := 10) (v := (.int .i64 i10)) rfl ?_
      refine r_upd (i := 11) (v := (.int .i64 j11)) rfl ?_
      refine r_upd (i := 43) (v := (.bool false)) rfl ?_
      exact J2 (data0, a1, i10, j11, false) _ _ H

/-! 218 math/bits.Len64 -/
def math_bits_Len64_k2 (R : Value → World → Prop) (x0 : Int) (n2 : Int) (w : World) : Prop :=
  IxA (ByteArray.mk #[0, 1, 2, 2, 3, 3, 3, 3, 4, 4, 4, 4, 4, 4, 4, 4, 5, 5, 5, 5, 5, 5, 5, 5, 5, 5, 5, 5, 5, 5, 5, 5, 6, 6, 6, 6, 6, 6, 6, 6, 6, 6, 6, 6, 6, 6, 6, 6, 6, 6, 6, 6, 6, 6, 6, 6, 6, 6, 6, 6, 6, 6, 6, 6, 7, 7, 7, 7, 7, 7, 7, 7, 7, 7, 7, 7, 7, 7, 7, 7, 7, 7, 7, 7, 7, 7, 7, 7, 7, 7, 7, 7, 7, 7, 7, 7, 7, 7, 7, 7, 7, 7, 7, 7, 7, 7, 7, 7, 7, 7, 7, 7, 7, 7, 7, 7, 7, 7, 7, 7, 7, 7, 7, 7, 7, 7, 7, 7, 8, 8, 8, 8, 8, 8, 8, 8, 8, 8, 8, 8, 8, 8, 8, 8, 8, 8, 8, 8, 8, 8, 8, 8, 8, 8, 8, 8, 8, 8, 8, 8, 8, 8, 8, 8, 8, 8, 8, 8, 8, 8, 8, 8, 8, 8, 8, 8, 8, 8, 8, 8, 8, 8, 8, 8, 8, 8, 8, 8, 8, 8, 8, 8, 8, 8, 8, 8, 8, 8, 8, 8, 8, 8, 8, 8, 8, 8, 8, 8, 8, 8, 8, 8, 8, 8, 8, 8, 8, 8, 8, 8, 8, 8, 8, 8, 8, 8, 8, 8, 8, 8, 8, 8, 8, 8, 8, 8, 8, 8, 8, 8, 8, 8, 8, 8, 8, 8, 8, 8, 8, 8, 8, 8, 8, 8, 8, 8]).size (IntKind.u8.wrap x0) (
  R (.int .i64 (IntKind.i64.wrap (n2 + (IntKind.i64.wrap (((ByteArray.mk #[0, 1, 2, 2, 3, 3, 3, 3, 4, 4, 4, 4, 4, 4, 4, 4, 5, 5, 5, 5, 5, 5, 5, 5, 5, 5, 5, 5, 5, 5, 5, 5, 6, 6, 6, 6, 6, 6, 6, 6, 6, 6, 6, 6, 6, 6, 6, 6, 6, 6, 6, 6, 6, 6, 6, 6, 6, 6, 6, 6, 6, 6, 6, 6, 7, 7, 7, 7, 7, 7, 7, 7, 7, 7, 7, 7, 7, 7, 7, 7, 7, 7, 7, 7, 7, 7, 7, 7, 7, 7, 7, 7, 7, 7, 7, 7, 7, 7, 7, 7, 7, 7, 7, 7, 7, 7, 7, 7, 7, 7, 7, 7, 7, 7, 7, 7, 7, 7, 7, 7, 7, 7, 7, 7, 7, 7, 7, 7, 8, 8, 8, 8, 8, 8, 8, 8, 8, 8, 8, 8, 8, 8, 8, 8, 8, 8, 8, 8, 8, 8, 8, 8, 8, 8, 8, 8, 8, 8, 8, 8, 8, 8, 8, 8, 8, 8, 8, 8, 8, 8, 8, 8, 8, 8, 8, 8, 8, 8, 8, 8, 8, 8, 8, 8, 8, 8, 8, 8, 8, 8, 8, 8, 8, 8, 8, 8, 8, 8, 8, 8, 8, 8, 8, 8, 8, 8, 8, 8, 8, 8, 8, 8, 8, 8, 8, 8, 8, 8, 8, 8, 8, 8, 8, 8, 8, 8, 8, 8, 8, 8, 8, 8, 8, 8, 8, 8, 8, 8, 8, 8, 8, 8, 8, 8, 8, 8, 8, 8, 8, 8, 8, 8, 8, 8, 8, 8]).data.toList.getD ((IntKind.u8.wrap x0)).toNat 0).toNat : Int))))) w)

def math_bits_Len64_k1 (R : Value → World → Prop) (x0 : Int) (n2 : Int) (w : World) : Prop :=
  IfB (decide (256 ≤ x0)) (
    math_bits_Len64_k2 R (shrK .u64 x0 8) (IntKind.i64.wrap (n2 + 8)) w) (
    math_bits_Len64_k2 R x0 n2 w)

def math_bits_Len64_k0 (R : Value → World → Prop) (x0 : Int) (n2 : Int) (w : World) : Prop :=
  IfB (decide (65536 ≤ x0)) (
    math_bits_Len64_k1 R (shrK .u64 x0 16) (IntKind.i64.wrap (n2 + 16)) w) (
    math_bits_Len64_k1 R x0 n2 w)

def math_bits_Len64 (R : Value → World → Prop) (x0 : Int) (w : World) : Prop :=
  IfB (decide (4294967296 ≤ x0)) (
    math_bits_Len64_k0 R (shrK .u64 x0 32) 32 w) (
    math_bits_Len64_k0 R x0 0 w)

theorem math_bits_Len64_ok (R : Value → World → Prop) (x0 : Int) (w : World) (H : math_bits_Len64 R x0 w) : CallF Try.prog 218 #[(.int .u64 x0)] w R := by
  refine calls_of_runs (fn := Try.f218) Try.func218 rfl (Nat.le_of_ble_eq_true rfl) ?_
  show Runs _ _ 25 _ _ _ _
  unfold math_bits_Len64 at H
  refine r_upd (i := 0) (v := (.int .u64 x0)) rfl ?_
  refine r_seq ?_
  refine r_region ?_
  refine xo_pure (v := (.int .i64 0)) rfl (wanted_none rfl _) (p_assign rfl rfl) ?_
  refine xo_end ?_
  refine r_seqJ (fun (s : Int × Int) σ => upd 2 (.int .i64 s.2) (upd 0 (.int .u64 s.1) (σ))) (fun (s : Int × Int) w => math_bits_Len64_k0 R s.1 s.2 w) ?_ ?_
  · rintro ⟨x0, n2⟩ σ w H
    replace H : math_bits_Len64_k0 R x0 n2 w := H
    show Runs _ _ _ _ _ (upd 2 (.int .i64 n2) (upd 0 (.int .u64 x0) (σ))) _
    unfold math_bits_Len64_k0 at H
    refine r_seqJ (fun (s : Int × Int) σ => upd 2 (.int .i64 s.2) (upd 0 (.int .u64 s.1) (σ))) (fun (s : Int × Int) w => math_bits_Len64_k1 R s.1 s.2 w) ?_ ?_
    · rintro ⟨x0, n2⟩ σ w H
      replace H : math_bits_Len64_k1 R x0 n2 w := H
      show Runs _ _ _ _ _ (upd 2 (.int .i64 n2) (upd 0 (.int .u64 x0) (σ))) _
      unfold math_bits_Len64_k1 at H
      refine r_seqJ (fun (s : Int × Int) σ => upd 2 (.int .i64 s.2) (upd 0 (.int .u64 s.1) (σ))) (fun (s : Int × Int) w => math_bits_Len64_k2 R s.1 s.2 w) ?_ ?_
      · rintro ⟨x0, n2⟩ σ w H
        replace H : math_bits_Len64_k2 R x0 n2 w := H
        show Runs _ _ _ _ _ (upd 2 (.int .i64 n2) (upd 0 (.int .u64 x0) (σ))) _
        unfold math_bits_Len64_k2 at H
        refine r_seq ?_
        refine r_region ?_
        refine xo_pure (v := (.int .i64 n2)) rfl (wanted_none rfl _) (p_move rfl rfl) ?_
        refine xo_pure (v := (.int .u64 x0)) rfl (wanted_none rfl _) (p_move rfl rfl) ?_
        refine xo_pure (v := (.int .u8 (IntKind.u8.wrap x0))) rfl (wanted_none rfl _) (p_conv rfl Try.underlying22 Try.underlying5 rfl) ?_
        obtain ⟨hlq_1, huq_1, H⟩ := H
        refine xo_pure (v := (.int .u8 (((ByteArray.mk #[0, 1, 2, 2, 3, 3, 3, 3, 4, 4, 4, 4, 4, 4, 4, 4, 5, 5, 5, 5, 5, 5, 5, 5, 5, 5, 5, 5, 5, 5, 5, 5, 6, 6, 6, 6, 6, 6, 6, 6, 6, 6, 6, 6, 6, 6, 6, 6, 6, 6, 6, 6, 6, 6, 6, 6, 6, 6, 6, 6, 6, 6, 6, 6, 7, 7, 7, 7, 7, 7, 7, 7, 7, 7, 7, 7, 7, 7, 7, 7, 7, 7, 7, 7, 7, 7, 7, 7, 7, 7, 7, 7, 7, 7, 7, 7, 7, 7, 7, 7, 7, 7, 7, 7, 7, 7, 7, 7, 7, 7, 7, 7, 7, 7, 7, 7, 7, 7, 7, 7, 7, 7, 7, 7, 7, 7, 7, 7, 8, 8, 8, 8, 8, 8, 8, 8, 8, 8, 8, 8, 8, 8, 8, 8, 8, 8, 8, 8, 8, 8, 8, 8, 8, 8, 8, 8, 8, 8, 8, 8, 8, 8, 8, 8, 8, 8, 8, 8, 8, 8, 8, 8, 8, 8, 8, 8, 8, 8, 8, 8, 8, 8, 8, 8, 8, 8, 8, 8, 8, 8, 8, 8, 8, 8, 8, 8, 8, 8, 8, 8, 8, 8, 8, 8, 8, 8, 8, 8, 8, 8, 8, 8, 8, 8, 8, 8, 8, 8, 8, 8, 8, 8, 8, 8, 8, 8, 8, 8, 8, 8, 8, 8, 8, 8, 8, 8, 8, 8, 8, 8, 8, 8, 8, 8, 8, 8, 8, 8, 8, 8, 8, 8, 8, 8, 8, 8]).data.toList.getD ((IntKind.u8.wrap x0)).toNat 0).toNat : Int))) rfl (wanted_none rfl _) (p_indexS rfl Try.underlying9 rfl rfl hlq_1 huq_1) ?_
        refine xo_pure (v := (.int .i64 (IntKind.i64.wrap (((ByteArray.mk #[0, 1, 2, 2, 3, 3, 3, 3, 4, 4, 4, 4, 4, 4, 4, 4, 5, 5, 5, 5, 5, 5, 5, 5, 5, 5, 5, 5, 5, 5, 5, 5, 6, 6, 6, 6, 6, 6, 6, 6, 6, 6, 6, 6, 6, 6, 6, 6, 6, 6, 6, 6, 6, 6, 6, 6, 6, 6, 6, 6, 6, 6, 6, 6, 7, 7, 7, 7, 7, 7, 7, 7, 7, 7, 7, 7, 7, 7, 7, 7, 7, 7, 7, 7, 7, 7, 7, 7, 7, 7, 7, 7, 7, 7, 7, 7, 7, 7, 7, 7, 7, 7, 7, 7, 7, 7, 7, 7, 7, 7, 7, 7, 7, 7, 7, 7, 7, 7, 7, 7, 7, 7, 7, 7, 7, 7, 7, 7, 8, 8, 8, 8, 8, 8, 8, 8, 8, 8, 8, 8, 8, 8, 8, 8, 8, 8, 8, 8, 8, 8, 8, 8, 8, 8, 8, 8, 8, 8, 8, 8, 8, 8, 8, 8, 8, 8, 8, 8, 8, 8, 8, 8, 8, 8, 8, 8, 8, 8, 8, 8, 8, 8, 8, 8, 8, 8, 8, 8, 8, 8, 8, 8, 8, 8, 8, 8, 8, 8, 8, 8, 8, 8, 8, 8, 8, 8, 8, 8, 8, 8, 8, 8, 8, 8, 8, 8, 8, 8, 8, 8, 8, 8, 8, 8, 8, 8, 8, 8, 8, 8, 8, 8, 8, 8, 8, 8, 8, 8, 8, 8, 8, 8, 8, 8, 8, 8, 8, 8, 8, 8, 8, 8, 8, 8, 8, 8]).data.toList.getD ((IntKind.u8.wrap x0)).toNat 0).toNat : Int)))) rfl (wanted_none rfl _) (p_conv rfl Try.underlying5 Try.underlying3 rfl) ?_
        refine xo_pure (v := (.int .i64 (IntKind.i64.wrap (n2 + (IntKind.i64.wrap (((ByteArray.mk #[0, 1, 2, 2, 3, 3, 3, 3, 4, 4, 4, 4, 4, 4, 4, 4, 5, 5, 5, 5, 5, 5, 5, 5, 5, 5, 5, 5, 5, 5, 5, 5, 6, 6, 6, 6, 6, 6, 6, 6, 6, 6, 6, 6, 6, 6, 6, 6, 6, 6, 6, 6, 6, 6, 6, 6, 6, 6, 6, 6, 6, 6, 6, 6, 7, 7, 7, 7, 7, 7, 7, 7, 7, 7, 7, 7, 7, 7, 7, 7, 7, 7, 7, 7, 7, 7, 7, 7, 7, 7, 7, 7, 7, 7, 7, 7, 7, 7, 7, 7, 7, 7, 7, 7, 7, 7, 7, 7, 7, 7, 7, 7, 7, 7, 7, 7, 7, 7, 7, 7, 7, 7, 7, 7, 7, 7, 7, 7, 8, 8, 8, 8, 8, 8, 8, 8, 8, 8, 8, 8, 8, 8, 8, 8, 8, 8, 8, 8, 8, 8, 8, 8, 8, 8, 8, 8, 8, 8, 8, 8, 8, 8, 8, 8, 8, 8, 8, 8, 8, 8, 8, 8, 8, 8, 8, 8, 8, 8, 8, 8, 8, 8, 8, 8, 8, 8, 8, 8, 8, 8, 8, 8, 8, 8, 8, 8, 8, 8, 8, 8, 8, 8, 8, 8, 8, 8, 8, 8, 8, 8, 8, 8, 8, 8, 8, 8, 8, 8, 8, 8, 8, 8, 8, 8, 8, 8, 8, 8, 8, 8, 8, 8, 8, 8, 8, 8, 8, 8, 8, 8, 8, 8, 8, 8, 8, 8, 8, 8, 8, 8, 8, 8, 8, 8, 8, 8]).data.toList.getD ((IntKind.u8.wrap x0)).toNat 0).toNat : Int)))))) rfl (wanted_none rfl _) (p_add rfl rfl rfl) ?_
        refine xo_pure (v := (.int .i64 (IntKind.i64.wrap (n2 + (IntKind.i64.wrap (((ByteArray.mk #[0, 1, 2, 2, 3, 3, 3, 3, 4, 4, 4, 4, 4, 4, 4, 4, 5, 5, 5, 5, 5, 5, 5, 5, 5, 5, 5, 5, 5, 5, 5, 5, 6, 6, 6, 6, 6, 6, 6, 6, 6, 6, 6, 6, 6, 6, 6, 6, 6, 6, 6, 6, 6, 6, 6, 6, 6, 6, 6, 6, 6, 6, 6, 6, 7, 7, 7, 7, 7, 7, 7, 7, 7, 7, 7, 7, 7, 7, 7, 7, 7, 7, 7, 7, 7, 7, 7, 7, 7, 7, 7, 7, 7, 7, 7, 7, 7, 7, 7, 7, 7, 7, 7, 7, 7, 7, 7, 7, 7, 7, 7, 7, 7, 7, 7, 7, 7, 7, 7, 7, 7, 7, 7, 7, 7, 7, 7, 7, 8, 8, 8, 8, 8, 8, 8, 8, 8, 8, 8, 8, 8, 8, 8, 8, 8, 8, 8, 8, 8, 8, 8, 8, 8, 8, 8, 8, 8, 8, 8, 8, 8, 8, 8, 8, 8, 8, 8, 8, 8, 8, 8, 8, 8, 8, 8, 8, 8, 8, 8, 8, 8, 8, 8, 8, 8, 8, 8, 8, 8, 8, 8, 8, 8, 8, 8, 8, 8, 8, 8, 8, 8, 8, 8, 8, 8, 8, 8, 8, 8, 8, 8, 8, 8, 8, 8, 8, 8, 8, 8, 8, 8, 8, 8, 8, 8, 8, 8, 8, 8, 8, 8, 8, 8, 8, 8, 8, 8, 8, 8, 8, 8, 8, 8, 8, 8, 8, 8, 8, 8, 8, 8, 8, 8, 8, 8, 8]).data.toList.getD ((IntKind.u8.wrap x0)).toNat 0).toNat : Int)))))) rfl (wanted_none rfl _) (p_assign rfl rfl) ?_
        refine xo_end ?_
        exact r_ret (fn := Try.f218) Try.func218 (res_1 rfl ⟨by decide, rfl⟩) H
      · intro J3
        refine r_seq ?_
        refine r_region ?_
        refine xo_pure (v := (.int .u64 x0)) rfl (wanted_none rfl _) (p_move rfl rfl) ?_
        refine xo_pure (v := (.bool (decide (256 ≤ x0)))) rfl (wanted_none rfl _) (p_ge rfl rfl rfl) ?_
        refine xo_end ?_
        refine r_condB (b := (decide (256 ≤ x0))) rfl H ?_ ?_
        · clear H; intro hb4 H
          refine r_seq ?_
          refine r_region ?_
          refine xo_pure (v := (.int .u64 x0)) rfl (wanted_none rfl _) (p_move rfl rfl) ?_
          refine xo_pure (v := (.int .u64 (shrK .u64 x0 8))) rfl (wanted_none rfl _) (p_shr rfl rfl rfl (by decide)) ?_
          refine xo_pure (v := (.int .u64 (shrK .u64 x0 8))) rfl (wanted_none rfl _) (p_assign rfl rfl) ?_
          refine xo_end ?_
          refine r_region ?_
          refine xo_pure (v := (.int .i64 n2)) rfl (wanted_none rfl _) (p_move rfl rfl) ?_
          refine xo_pure (v := (.int .i64 (IntKind.i64.wrap (n2 + 8)))) rfl (wanted_none rfl _) (p_add rfl rfl rfl) ?_
          refine xo_pure (v := (.int .i64 (IntKind.i64.wrap (n2 + 8)))) rfl (wanted_none rfl _) (p_assign rfl rfl) ?_
          refine xo_end ?_
          refine r_upd (i := 0) (v := (.int .u64 (shrK .u64 x0 8))) rfl ?_
          refine r_upd (i := 2) (v := (.int .i64 (IntKind.i64.wrap (n2 + 8)))) rfl ?_
          exact J3 ((shrK .u64 x0 8), (IntKind.i64.wrap (n2 + 8))) _ _ H
        · clear H; intro hb4 H
          refine r_skip ?_
          refine r_upd (i := 0) (v := (.int .u64 x0)) rfl ?_
          refine r_upd (i := 2) (v := (.int .i64 n2)) rfl ?_
          exact J3 (x0, n2) _ _ H
    · intro J2
      refine r_seq ?_
      refine r_region ?_
      refine xo_pure (v := (.int .u64 x0)) rfl (wanted_none rfl _) (p_move rfl rfl) ?_
      refine xo_pure (v := (.bool (decide (65536 ≤ x0)))) rfl (wanted_none rfl _) (p_ge rfl rfl rfl) ?_
      refine xo_end ?_
      refine r_condB (b := (decide (65536 ≤ x0))) rfl H ?_ ?_
      · clear H; intro hb5 H
        refine r_seq ?_
        refine r_region ?_
        refine xo_pure (v := (.int .u64 x0)) rfl (wanted_none rfl _) (p_move rfl rfl) ?_
        refine xo_pure (v := (.int .u64 (shrK .u64 x0 16))) rfl (wanted_none rfl _) (p_shr rfl rfl rfl (by decide)) ?_
        refine xo_pure (v := (.int .u64 (shrK .u64 x0 16))) rfl (wanted_none rfl _) (p_assign rfl rfl) ?_
        refine xo_end ?_
        refine r_region ?_
        refine xo_pure (v := (.int .i64 n2)) rfl (wanted_none rfl _) (p_move rfl rfl) ?_
        refine xo_pure (v := (.int .i64 (IntKind.i64.wrap (n2 + 16)))) rfl (wanted_none rfl _) (p_add rfl rfl rfl) ?_
        refine xo_pure (v := (.int .i64 (IntKind.i64.wrap (n2 + 16)))) rfl (wanted_none rfl _) (p_assign rfl rfl) ?_
        refine xo_end ?_
        refine r_upd (i := 0) (v := (.int .u64 (shrK .u64 x0 16))) rfl ?_
        refine r_upd (i := 2) (v := (.int .i64 (IntKind.i64.wrap (n2 + 16)))) rfl ?_
        exact J2 ((shrK .u64 x0 16), (IntKind.i64.wrap (n2 + 16))) _ _ H
      · clear H; intro hb5 H
        refine r_skip ?_
        refine r_upd (i := 0) (v := (.int .u64 x0)) rfl ?_
        refine r_upd (i := 2) (v := (.int .i64 n2)) rfl ?_
        exact J2 (x0, n2) _ _ H
  · intro J1
    refine r_seq ?_
    refine r_region ?_
    refine xo_pure (v := (.int .u64 x0)) rfl (wanted_none rfl _) (p_move rfl rfl) ?_
    refine xo_pure (v := (.bool (decide (4294967296 ≤ x0)))) rfl (wanted_none rfl _) (p_ge rfl rfl rfl) ?_
    refine xo_end ?_
    refine r_condB (b := (decide (4294967296 ≤ x0))) rfl H ?_ ?_
    · clear H; intro hb6 H
      refine r_seq ?_
      refine r_region ?_
      refine xo_pure (v := (.int .u64 x0)) rfl (wanted_none rfl _) (p_move rfl rfl) ?_
      refine xo_pure (v := (.int .u64 (shrK .u64 x0 32))) rfl (wanted_none rfl _) (p_shr rfl rfl rfl (by decide)) ?_
      refine xo_pure (v := (.int .u64 (shrK .u64 x0 32))) rfl (wanted_none rfl _) (p_assign rfl rfl) ?_
      refine xo_end ?_
      refine r_region ?_
      refine xo_pure (v := (.int .i64 32)) rfl (wanted_none rfl _) (p_assign rfl rfl) ?_
      refine xo_end ?_
      refine r_upd (i := 0) (v := (.int .u64 (shrK .u64 x0 32))) rfl ?_
      refine r_upd (i := 2) (v := (.int .i64 32)) rfl ?_
      exact J1 ((shrK .u64 x0 32), 32) _ _ H
    · clear H; intro hb6 H
      refine r_skip ?_
      refine r_upd (i := 0) (v := (.int .u64 x0)) rfl ?_
      refine r_upd (i := 2) (v := (.int .i64 0)) rfl ?_
      exact J1 (x0, 0) _ _ H

/-! 241 slices.siftDownOrdered[string] -/
def slices_siftDownOrdered_string_k1 (R : Value → World → Prop) (ag1 : (Sl × Int × Int × Int) → World → Prop) (data0 : Sl) (hi2 : Int) (first3 : Int) (root8 : Int) (child9 : Int) (w : World) : Prop :=
  Ix data0 (IntKind.i64.wrap (first3 + root8)) fun p_1 =>
  Ld Value.string (some (p_1.add ((IntKind.i64.wrap (first3 + root8)).toNat * 1))) (World.drew w) fun v_2 =>
  Ix data0 (IntKind.i64.wrap (first3 + child9)) fun p_3 =>
  Ld Value.string (some (p_3.add ((IntKind.i64.wrap (first3 + child9)).toNat * 1))) (World.drew w) fun v_4 =>
  CallF Try.prog 214 #[(.string v_2), (.string v_4)] (World.drew w) fun u_5 w_2 => As Value.bool u_5 fun v_6 =>
  IfB (!v_6) (
    R (.tuple #[]) w_2) (
    Ix data0 (IntKind.i64.wrap (first3 + child9)) fun p_7 =>
    Ld Value.string (some (p_7.add ((IntKind.i64.wrap (first3 + child9)).toNat * 1))) (World.drew w_2) fun v_8 =>
    Ix data0 (IntKind.i64.wrap (first3 + root8)) fun p_9 =>
    Ld Value.string (some (p_9.add ((IntKind.i64.wrap (first3 + root8)).toNat * 1))) (World.drew w_2) fun v_10 =>
    Ix data0 (IntKind.i64.wrap (first3 + root8)) fun p_11 =>
    St (some (p_11.add ((IntKind.i64.wrap (first3 + root8)).toNat * 1))) (.string v_8) (World.drew w_2) fun w_4 =>
    Ix data0 (IntKind.i64.wrap (first3 + child9)) fun p_12 =>
    St (some (p_12.add ((IntKind.i64.wrap (first3 + child9)).toNat * 1))) (.string v_10) w_4 fun w_5 =>
    ag1 (data0, hi2, first3, child9) w_5)

def slices_siftDownOrdered_string_k2 (R : Value → World → Prop) (ag1 : (Sl × Int × Int × Int) → World → Prop) (data0 : Sl) (hi2 : Int) (first3 : Int) (root8 : Int) (child9 : Int) (t36 : Bool) (w : World) : Prop :=
  IfB t36 (
    slices_siftDownOrdered_string_k1 R ag1 data0 hi2 first3 root8 (IntKind.i64.wrap (child9 + 1)) w) (
    slices_siftDownOrdered_string_k1 R ag1 data0 hi2 first3 root8 child9 w)

def slices_siftDownOrdered_string_b0 (R : Value → World → Prop) (ag1 : (Sl × Int × Int × Int) → World → Prop) (data0 : Sl) (hi2 : Int) (first3 : Int) (root8 : Int) (w : World) : Prop :=
  IfB (decide (hi2 ≤ (IntKind.i64.wrap ((IntKind.i64.wrap (2 * root8)) + 1)))) (
    R (.tuple #[]) w) (
    IfB (decide ((IntKind.i64.wrap ((IntKind.i64.wrap ((IntKind.i64.wrap (2 * root8)) + 1)) + 1)) < hi2)) (
      Ix data0 (IntKind.i64.wrap (first3 + (IntKind.i64.wrap ((IntKind.i64.wrap (2 * root8)) + 1)))) fun p_13 =>
      Ld Value.string (some (p_13.add ((IntKind.i64.wrap (first3 + (IntKind.i64.wrap ((IntKind.i64.wrap (2 * root8)) + 1)))).toNat * 1))) (World.drew w) fun v_14 =>
      Ix data0 (IntKind.i64.wrap ((IntKind.i64.wrap (first3 + (IntKind.i64.wrap ((IntKind.i64.wrap (2 * root8)) + 1)))) + 1)) fun p_15 =>
      Ld Value.string (some (p_15.add ((IntKind.i64.wrap ((IntKind.i64.wrap (first3 + (IntKind.i64.wrap ((IntKind.i64.wrap (2 * root8)) + 1)))) + 1)).toNat * 1))) (World.drew w) fun v_16 =>
      CallF Try.prog 214 #[(.string v_14), (.string v_16)] (World.drew w) fun u_17 w_7 => As Value.bool u_17 fun v_18 =>
      slices_siftDownOrdered_string_k2 R ag1 data0 hi2 first3 root8 (IntKind.i64.wrap ((IntKind.i64.wrap (2 * root8)) + 1)) v_18 w_7) (
      slices_siftDownOrdered_string_k2 R ag1 data0 hi2 first3 root8 (IntKind.i64.wrap ((IntKind.i64.wrap (2 * root8)) + 1)) false (World.drew w)))

def slices_siftDownOrdered_string (R : Value → World → Prop) (data0 : Sl) (lo1 : Int) (hi2 : Int) (first3 : Int) (w : World) : Prop :=
  Lp (fun ag (s : Sl × Int × Int × Int) w => slices_siftDownOrdered_string_b0 R ag s.1 s.2.1 s.2.2.1 s.2.2.2 w) (data0, hi2, first3, lo1) w

theorem slices_siftDownOrdered_string_ok (R : Value → World → Prop) (data0 : Sl) (lo1 : Int) (hi2 : Int) (first3 : Int) (w : World) (H : slices_siftDownOrdered_string R data0 lo1 hi2 first3 w) : CallF Try.prog 241 #[(Sl.v data0), (.int .i64 lo1), (.int .i64 hi2), (.int .i64 first3)] w R := by
  refine calls_of_runs (fn := Try.f241) Try.func241 rfl (Nat.le_of_ble_eq_true rfl) ?_
  show Runs _ _ 76 _ _ _ _
  unfold slices_siftDownOrdered_string at H
  refine r_upd (i := 0) (v := (Sl.v data0)) rfl ?_
  refine r_upd (i := 1) (v := (.int .i64 lo1)) rfl ?_
  refine r_upd (i := 2) (v := (.int .i64 hi2)) rfl ?_
  refine r_upd (i := 3) (v := (.int .i64 first3)) rfl ?_
  refine r_seq ?_
  refine r_region ?_
  refine xo_pure (v := (.int .i64 lo1)) rfl (wanted_none rfl _) (p_move rfl rfl) ?_
  refine xo_pure (v := (.int .i64 lo1)) rfl (wanted_none rfl _) (p_assign rfl rfl) ?_
  refine xo_end ?_
  refine r_block ?_
  refine r_upd (i := 0) (v := (Sl.v data0)) rfl ?_
  refine r_upd (i := 2) (v := (.int .i64 hi2)) rfl ?_
  refine r_upd (i := 3) (v := (.int .i64 first3)) rfl ?_
  refine r_upd (i := 8) (v := (.int .i64 lo1)) rfl ?_
  refine r_loopJ (fun (s : Sl × Int × Int × Int) σ => upd 8 (.int .i64 s.2.2.2) (upd 3 (.int .i64 s.2.2.1) (upd 2 (.int .i64 s.2.1) (upd 0 (Sl.v s.1) (σ))))) (s := (data0, hi2, first3, lo1)) H ?_
  clear H
  rintro ag1 ⟨data0, hi2, first3, root8⟩ σ w H hag1
  replace H : slices_siftDownOrdered_string_b0 R ag1 data0 hi2 first3 root8 w := H
  show Runs _ _ _ _ _ (upd 8 (.int .i64 root8) (upd 3 (.int .i64 first3) (upd 2 (.int .i64 hi2) (upd 0 (Sl.v data0) (σ))))) _
  unfold slices_siftDownOrdered_string_b0 at H
  refine r_block ?_
  refine r_seq ?_
  refine r_region ?_
  refine xo_pure (v := (.int .i64 root8)) rfl (wanted_none rfl _) (p_move rfl rfl) ?_
  refine xo_pure (v := (.int .i64 (IntKind.i64.wrap (2 * root8)))) rfl (wanted_none rfl _) (p_mul rfl rfl rfl) ?_
  refine xo_pure (v := (.int .i64 (IntKind.i64.wrap ((IntKind.i64.wrap (2 * root8)) + 1)))) rfl (wanted_none rfl _) (p_add rfl rfl rfl) ?_
  refine xo_pure (v := (.int .i64 (IntKind.i64.wrap ((IntKind.i64.wrap (2 * root8)) + 1)))) rfl (wanted_none rfl _) (p_assign rfl rfl) ?_
  refine xo_end ?_
  refine r_seq ?_
  refine r_seq ?_
  refine r_region ?_
  refine xo_pure (v := (.int .i64 (IntKind.i64.wrap ((IntKind.i64.wrap (2 * root8)) + 1)))) rfl (wanted_none rfl _) (p_move rfl rfl) ?_
  refine xo_pure (v := (.int .i64 hi2)) rfl (wanted_none rfl _) (p_move rfl rfl) ?_
  refine xo_pure (v := (.bool (decide (hi2 ≤ (IntKind.i64.wrap ((IntKind.i64.wrap (2 * root8)) + 1)))))) rfl (wanted_none rfl _) (p_ge rfl rfl rfl) ?_
  refine xo_end ?_
  refine r_condB (b := (decide (hi2 ≤ (IntKind.i64.wrap ((IntKind.i64.wrap (2 * root8)) + 1))))) rfl H ?_ ?_
  · clear H; intro hb2 H
    refine r_exit rfl ?_
    exact r_end (fn := Try.f241) Try.func241 (res_0 rfl ) H
  · clear H; intro hb2 H
    refine r_skip ?_
    refine r_seqJ (fun (s : Sl × Int × Int × Int × Int) σ => upd 9 (.int .i64 s.2.2.2.2) (upd 8 (.int .i64 s.2.2.2.1) (upd 3 (.int .i64 s.2.2.1) (upd 2 (.int .i64 s.2.1) (upd 0 (Sl.v s.1) (σ)))))) (fun (s : Sl × Int × Int × Int × Int) w => slices_siftDownOrdered_string_k1 R ag1 s.1 s.2.1 s.2.2.1 s.2.2.2.1 s.2.2.2.2 w) ?_ ?_
    · rintro ⟨data0, hi2, first3, root8, child9⟩ σ w H
      replace H : slices_siftDownOrdered_string_k1 R ag1 data0 hi2 first3 root8 child9 w := H
      show Runs _ _ _ _ _ (upd 9 (.int .i64 child9) (upd 8 (.int .i64 root8) (upd 3 (.int .i64 first3) (upd 2 (.int .i64 hi2) (upd 0 (Sl.v data0) (σ)))))) _
      unfold slices_siftDownOrdered_string_k1 at H
      refine r_seq ?_
      refine r_seq ?_
      refine r_draw #[[], [], [], [1, 2], [0, 1, 2, 3], [0, 1, 2, 3, 4], [], [], [], [7, 8], [6, 7, 8, 9], [6, 7, 8, 9, 10], [0, 1, 2, 3, 4, 5, 6, 7, 8, 9, 10, 11], [0, 1, 2, 3, 4, 5, 6, 7, 8, 9, 10, 11, 12]] 14 rfl rfl ?_
      refine xa_pure (v := (Sl.v data0)) 0 (by decide +kernel) rfl rfl (wanted_none rfl _) (p_move rfl rfl) ?_
      refine xa_pure (v := (.int .i64 first3)) 1 (by decide +kernel) rfl rfl (wanted_none rfl _) (p_move rfl rfl) ?_
      refine xa_pure (v := (.int .i64 root8)) 2 (by decide +kernel) rfl rfl (wanted_none rfl _) (p_move rfl rfl) ?_
      refine xa_pure (v := (.int .i64 (IntKind.i64.wrap (first3 + root8)))) 3 (by decide +kernel) rfl rfl (wanted_none rfl _) (p_add rfl rfl rfl) ?_
      obtain ⟨p_1, hap_1, hlp_1, hup_1, H⟩ := H
      refine xa_pure (v := (.pointer (some (p_1.add ((IntKind.i64.wrap (first3 + root8)).toNat * 1))))) 4 (by decide +kernel) rfl rfl (wanted_none rfl _) (p_indexAddr (s := data0) (ad := p_1) (size := 1) rfl Try.underlying71 Try.ti9 rfl rfl hap_1 hlp_1 hup_1) ?_
      obtain ⟨adv_2, v_2, hev_2, hcv_2, H⟩ := H
      refine xa_read (v := (.string v_2)) (S := (fun w => w.cell? adv_2 = some (.string v_2))) 5 (by decide +kernel) rfl rfl (wanted_none rfl _) (fun w hc => rd_load (ad := adv_2) rfl Try.underlying9 rfl (by show Value.pointer _ = _; rw [hev_2]) hc) hcv_2 ?_
      refine xa_pure (v := (Sl.v data0)) 6 (by decide +kernel) rfl rfl (wanted_none rfl _) (p_move rfl rfl) ?_
      refine xa_pure (v := (.int .i64 first3)) 7 (by decide +kernel) rfl rfl (wanted_none rfl _) (p_move rfl rfl) ?_
      refine xa_pure (v := (.int .i64 child9)) 8 (by decide +kernel) rfl rfl (wanted_none rfl _) (p_move rfl rfl) ?_
      refine xa_pure (v := (.int .i64 (IntKind.i64.wrap (first3 + child9)))) 9 (by decide +kernel) rfl rfl (wanted_none rfl _) (p_add rfl rfl rfl) ?_
      obtain ⟨p_3, hap_3, hlp_3, hup_3, H⟩ := H
      refine xa_pure (v := (.pointer (some (p_3.add ((IntKind.i64.wrap (first3 + child9)).toNat * 1))))) 10 (by decide +kernel) rfl rfl (wanted_none rfl _) (p_indexAddr (s := data0) (ad := p_3) (size := 1) rfl Try.underlying71 Try.ti9 rfl rfl hap_3 hlp_3 hup_3) ?_
      obtain ⟨adv_4, v_4, hev_4, hcv_4, H⟩ := H
      refine xa_read (v := (.string v_4)) (S := (fun w => w.cell? adv_4 = some (.string v_4))) 11 (by decide +kernel) rfl rfl (wanted_none rfl _) (fun w hc => rd_load (ad := adv_4) rfl Try.underlying9 rfl (by show Value.pointer _ = _; rw [hev_4]) hc) hcv_4 ?_
      refine xa_eff 12 [] (by decide +kernel) rfl rfl rfl (wanted_none rfl _) (e_call (fn := Try.f214) H rfl rfl Try.func214 rfl rfl rfl) ?_
      rintro _ w_2 ⟨v_6, rfl, H⟩
      refine ⟨AllHeld.nil, ?_⟩
      refine xa_pure (v := (.bool (!v_6))) 13 (by decide +kernel) rfl rfl (wanted_none rfl _) (p_not rfl rfl) ?_
      refine xa_end (by decide +kernel) ?_
      refine r_condB (b := (!v_6)) rfl H ?_ ?_
      · clear H; intro hb4 H
        exact r_ret (fn := Try.f241) Try.func241 (res_0 rfl ) H
      · clear H; intro hb4 H
        refine r_skip ?_
        refine r_seq ?_
        refine r_draw #[[], [], [], [1, 2], [], [], [], [5, 6], [], [], [], [9, 10], [8, 9, 10, 11], [8, 9, 10, 11, 12], [], [], [], [15, 16], [14, 15, 16, 17], [14, 15, 16, 17, 18], [0, 1, 2, 3, 8, 9, 10, 11, 12, 13, 14, 15, 16, 17, 18, 19], [0, 1, 2, 3, 8, 9, 10, 11, 12, 13, 14, 15, 16, 17, 18, 19, 20], [0, 1, 2, 3, 4, 5, 6, 7, 8, 9, 10, 11, 12, 13, 14, 15, 16, 17, 18, 19, 20, 21], [0, 1, 2, 3, 4, 5, 6, 7, 8, 9, 10, 11, 12, 13, 14, 15, 16, 17, 18, 19, 20, 21, 22]] 24 rfl rfl ?_
        refine xa_pure (v := (Sl.v data0)) 0 (by decide +kernel) rfl rfl (wanted_none rfl _) (p_move rfl rfl) ?_
        refine xa_pure (v := (.int .i64 first3)) 1 (by decide +kernel) rfl rfl (wanted_none rfl _) (p_move rfl rfl) ?_
        refine xa_pure (v := (.int .i64 root8)) 2 (by decide +kernel) rfl rfl (wanted_none rfl _) (p_move rfl rfl) ?_
        refine xa_pure (v := (.int .i64 (IntKind.i64.wrap (first3 + root8)))) 3 (by decide +kernel) rfl rfl (wanted_none rfl _) (p_add rfl rfl rfl) ?_
        refine xa_pure (v := (Sl.v data0)) 4 (by decide +kernel) rfl rfl (wanted_none rfl _) (p_move rfl rfl) ?_
        refine xa_pure (v := (.int .i64 first3)) 5 (by decide +kernel) rfl rfl (wanted_none rfl _) (p_move rfl rfl) ?_
        refine xa_pure (v := (.int .i64 child9)) 6 (by decide +kernel) rfl rfl (wanted_none rfl _) (p_move rfl rfl) ?_
        refine xa_pure (v := (.int .i64 (IntKind.i64.wrap (first3 + child9)))) 7 (by decide +kernel) rfl rfl (wanted_none rfl _) (p_add rfl rfl rfl) ?_
        refine xa_pure (v := (Sl.v data0)) 8 (by decide +kernel) rfl rfl (wanted_none rfl _) (p_move rfl rfl) ?_
        refine xa_pure (v := (.int .i64 first3)) 9 (by decide +kernel) rfl rfl (wanted_none rfl _) (p_move rfl rfl) ?_
        refine xa_pure (v := (.int .i64 child9)) 10 (by decide +kernel) rfl rfl (wanted_none rfl _) (p_move rfl rfl) ?_
        refine xa_pure (v := (.int .i64 (IntKind.i64.wrap (first3 + child9)))) 11 (by decide +kernel) rfl rfl (wanted_none rfl _) (p_add rfl rfl rfl) ?_
        obtain ⟨p_7, hap_7, hlp_7, hup_7, H⟩ := H
        refine xa_pure (v := (.pointer (some (p_7.add ((IntKind.i64.wrap (first3 + child9)).toNat * 1))))) 12 (by decide +kernel) rfl rfl (wanted_none rfl _) (p_indexAddr (s := data0) (ad := p_7) (size := 1) rfl Try.underlying71 Try.ti9 rfl rfl hap_7 hlp_7 hup_7) ?_
        obtain ⟨adv_8, v_8, hev_8, hcv_8, H⟩ := H
        refine xa_read (v := (.string v_8)) (S := (fun w => w.cell? adv_8 = some (.string v_8))) 13 (by decide +kernel) rfl rfl (wanted_none rfl _) (fun w hc => rd_load (ad := adv_8) rfl Try.underlying9 rfl (by show Value.pointer _ = _; rw [hev_8]) hc) hcv_8 ?_
        refine xa_pure (v := (Sl.v data0)) 14 (by decide +kernel) rfl rfl (wanted_none rfl _) (p_move rfl rfl) ?_
        refine xa_pure (v := (.int .i64 first3)) 15 (by decide +kernel) rfl rfl (wanted_none rfl _) (p_move rfl rfl) ?_
        refine xa_pure (v := (.int .i64 root8)) 16 (by decide +kernel) rfl rfl (wanted_none rfl _) (p_move rfl rfl) ?_
        refine xa_pure (v := (.int .i64 (IntKind.i64.wrap (first3 + root8)))) 17 (by decide +kernel) rfl rfl (wanted_none rfl _) (p_add rfl rfl rfl) ?_
        obtain ⟨p_9, hap_9, hlp_9, hup_9, H⟩ := H
        refine xa_pure (v := (.pointer (some (p_9.add ((IntKind.i64.wrap (first3 + root8)).toNat * 1))))) 18 (by decide +kernel) rfl rfl (wanted_none rfl _) (p_indexAddr (s := data0) (ad := p_9) (size := 1) rfl Try.underlying71 Try.ti9 rfl rfl hap_9 hlp_9 hup_9) ?_
        obtain ⟨adv_10, v_10, hev_10, hcv_10, H⟩ := H
        refine xa_read (v := (.string v_10)) (S := (fun w => w.cell? adv_10 = some (.string v_10))) 19 (by decide +kernel) rfl rfl (wanted_none rfl _) (fun w hc => rd_load (ad := adv_10) rfl Try.underlying9 rfl (by show Value.pointer _ = _; rw [hev_10]) hc) hcv_10 ?_
        obtain ⟨p_11, hap_11, hlp_11, hup_11, H⟩ := H
        refine xa_pure (v := (.pointer (some (p_11.add ((IntKind.i64.wrap (first3 + root8)).toNat * 1))))) 20 (by decide +kernel) rfl rfl (wanted_none rfl _) (p_indexAddr (s := data0) (ad := p_11) (size := 1) rfl Try.underlying71 Try.ti9 rfl rfl hap_11 hlp_11 hup_11) ?_
        refine xa_effN 21 [] (by decide +kernel) rfl rfl rfl (wanted_none rfl _) (e_store rfl Try.ti9 rfl rfl rfl H) ?_
        intro _ w_4 H
        refine ⟨AllHeld.nil, ?_⟩
        obtain ⟨p_12, hap_12, hlp_12, hup_12, H⟩ := H
        refine xa_pure (v := (.pointer (some (p_12.add ((IntKind.i64.wrap (first3 + child9)).toNat * 1))))) 22 (by decide +kernel) rfl rfl (wanted_none rfl _) (p_indexAddr (s := data0) (ad := p_12) (size := 1) rfl Try.underlying71 Try.ti9 rfl rfl hap_12 hlp_12 hup_12) ?_
        refine xa_effN 23 [] (by decide +kernel) rfl rfl rfl (wanted_none rfl _) (e_store rfl Try.ti9 rfl rfl rfl H) ?_
        intro _ w_5 H
        refine ⟨AllHeld.nil, ?_⟩
        refine xa_end (by decide +kernel) ?_
        refine r_region ?_
        refine xo_pure (v := (.int .i64 child9)) rfl (wanted_none rfl _) (p_move rfl rfl) ?_
        refine xo_pure (v := (.int .i64 child9)) rfl (wanted_none rfl _) (p_assign rfl rfl) ?_
        refine xo_end ?_
        refine r_inBlock ?_
        refine r_upd (i := 0) (v := (Sl.v data0)) rfl ?_
        refine r_upd (i := 2) (v := (.int .i64 hi2)) rfl ?_
        refine r_upd (i := 3) (v := (.int .i64 first3)) rfl ?_
        refine r_upd (i := 8) (v := (.int .i64 child9)) rfl ?_
        exact hag1 (data0, hi2, first3, child9) _ _ H
    · intro J3
      refine r_seq ?_
      refine r_topJ (fun (s : Sl × Int × Int × Int × Int × Bool) σ => upd 36 (.bool s.2.2.2.2.2) (upd 9 (.int .i64 s.2.2.2.2.1) (upd 8 (.int .i64 s.2.2.2.1) (upd 3 (.int .i64 s.2.2.1) (upd 2 (.int .i64 s.2.1) (upd 0 (Sl.v s.1) (σ))))))) (fun (s : Sl × Int × Int × Int × Int × Bool) w => slices_siftDownOrdered_string_k2 R ag1 s.1 s.2.1 s.2.2.1 s.2.2.2.1 s.2.2.2.2.1 s.2.2.2.2.2 w) ?_ ?_
      · rintro ⟨data0, hi2, first3, root8, child9, t36⟩ σ w H
        replace H : slices_siftDownOrdered_string_k2 R ag1 data0 hi2 first3 root8 child9 t36 w := H
        show Runs _ _ _ _ _ (upd 36 (.bool t36) (upd 9 (.int .i64 child9) (upd 8 (.int .i64 root8) (upd 3 (.int .i64 first3) (upd 2 (.int .i64 hi2) (upd 0 (Sl.v data0) (σ))))))) _
        unfold slices_siftDownOrdered_string_k2 at H
        refine r_condB (b := t36) rfl H ?_ ?_
        · clear H; intro hb6 H
          refine r_region ?_
          refine xo_pure (v := (.int .i64 child9)) rfl (wanted_none rfl _) (p_move rfl rfl) ?_
          refine xo_pure (v := (.int .i64 (IntKind.i64.wrap (child9 + 1)))) rfl (wanted_none rfl _) (p_add rfl rfl rfl) ?_
          refine xo_pure (v := (.int .i64 (IntKind.i64.wrap (child9 + 1)))) rfl (wanted_none rfl _) (p_assign rfl rfl) ?_
          refine xo_end ?_
          refine r_upd (i := 0) (v := (Sl.v data0)) rfl ?_
          refine r_upd (i := 2) (v := (.int .i64 hi2)) rfl ?_
          refine r_upd (i := 3) (v := (.int .i64 first3)) rfl ?_
          refine r_upd (i := 8) (v := (.int .i64 root8)) rfl ?_
          refine r_upd (i := 9) (v := (.int .i64 (IntKind.i64.wrap (child9 + 1)))) rfl ?_
          exact J3 (data0, hi2, first3, root8, (IntKind.i64.wrap (child9 + 1))) _ _ H
        · clear H; intro hb6 H
          refine r_skip ?_
          refine r_upd (i := 0) (v := (Sl.v data0)) rfl ?_
          refine r_upd (i := 2) (v := (.int .i64 hi2)) rfl ?_
          refine r_upd (i := 3) (v := (.int .i64 first3)) rfl ?_
          refine r_upd (i := 8) (v := (.int .i64 root8)) rfl ?_
          refine r_upd (i := 9) (v := (.int .i64 child9)) rfl ?_
          exact J3 (data0, hi2, first3, root8, child9) _ _ H
      · intro J5
        refine r_draw #[[], [0], [], [0, 1, 2], [0, 1, 2, 3], [0, 1, 2, 3, 4], [0, 1, 2, 3, 4], [0, 1, 2, 3, 4], [0, 1, 2, 3, 4, 6, 7], [0, 1, 2, 3, 4, 5, 6, 7, 8], [0, 1, 2, 3, 4, 5, 6, 7, 8, 9], [0, 1, 2, 3, 4], [0, 1, 2, 3, 4], [0, 1, 2, 3, 4], [0, 1, 2, 3, 4, 12, 13], [0, 1, 2, 3, 4, 12, 13, 14], [0, 1, 2, 3, 4, 11, 12, 13, 14, 15], [0, 1, 2, 3, 4, 11, 12, 13, 14, 15, 16], [0, 1, 2, 3, 4, 5, 6, 7, 8, 9, 10, 11, 12, 13, 14, 15, 16, 17], [0, 1, 2, 3, 4, 5, 6, 7, 8, 9, 10, 11, 12, 13, 14, 15, 16, 17, 18]] 20 rfl rfl ?_
        refine xa_pure (v := (.int .i64 (IntKind.i64.wrap ((IntKind.i64.wrap (2 * root8)) + 1)))) 0 (by decide +kernel) rfl rfl (wanted_none rfl _) (p_move rfl rfl) ?_
        refine xa_pure (v := (.int .i64 (IntKind.i64.wrap ((IntKind.i64.wrap ((IntKind.i64.wrap (2 * root8)) + 1)) + 1)))) 1 (by decide +kernel) rfl rfl (wanted_none rfl _) (p_add rfl rfl rfl) ?_
        refine xa_pure (v := (.int .i64 hi2)) 2 (by decide +kernel) rfl rfl (wanted_none rfl _) (p_move rfl rfl) ?_
        refine xa_pure (v := (.bool (decide ((IntKind.i64.wrap ((IntKind.i64.wrap ((IntKind.i64.wrap (2 * root8)) + 1)) + 1)) < hi2)))) 3 (by decide +kernel) rfl rfl (wanted_none rfl _) (p_lt rfl rfl rfl) ?_
        refine xa_pure (v := (.bool (decide ((IntKind.i64.wrap ((IntKind.i64.wrap ((IntKind.i64.wrap (2 * root8)) + 1)) + 1)) < hi2)))) 4 (by decide +kernel) rfl rfl (wanted_none rfl _) (p_move rfl rfl) ?_
        refine ifB_cases H ?_ ?_
        · clear H; intro hb7 H
          refine xa_pure (v := (Sl.v data0)) 5 (by decide +kernel) rfl rfl (wanted_yes (d := 21) rfl rfl (by decide) rfl hb7) (p_move rfl rfl) ?_
          refine xa_pure (v := (.int .i64 first3)) 6 (by decide +kernel) rfl rfl (wanted_yes (d := 21) rfl rfl (by decide) rfl hb7) (p_move rfl rfl) ?_
          refine xa_pure (v := (.int .i64 (IntKind.i64.wrap ((IntKind.i64.wrap (2 * root8)) + 1)))) 7 (by decide +kernel) rfl rfl (wanted_yes (d := 21) rfl rfl (by decide) rfl hb7) (p_move rfl rfl) ?_
          refine xa_pure (v := (.int .i64 (IntKind.i64.wrap (first3 + (IntKind.i64.wrap ((IntKind.i64.wrap (2 * root8)) + 1)))))) 8 (by decide +kernel) rfl rfl (wanted_yes (d := 21) rfl rfl (by decide) rfl hb7) (p_add rfl rfl rfl) ?_
          obtain ⟨p_13, hap_13, hlp_13, hup_13, H⟩ := H
          refine xa_pure (v := (.pointer (some (p_13.add ((IntKind.i64.wrap (first3 + (IntKind.i64.wrap ((IntKind.i64.wrap (2 * root8)) + 1)))).toNat * 1))))) 9 (by decide +kernel) rfl rfl (wanted_yes (d := 21) rfl rfl (by decide) rfl hb7) (p_indexAddr (s := data0) (ad := p_13) (size := 1) rfl Try.underlying71 Try.ti9 rfl rfl hap_13 hlp_13 hup_13) ?_
          obtain ⟨adv_14, v_14, hev_14, hcv_14, H⟩ := H
          refine xa_read (v := (.string v_14)) (S := (fun w => w.cell? adv_14 = some (.string v_14))) 10 (by decide +kernel) rfl rfl (wanted_yes (d := 21) rfl rfl (by decide) rfl hb7) (fun w hc => rd_load (ad := adv_14) rfl Try.underlying9 rfl (by show Value.pointer _ = _; rw [hev_14]) hc) hcv_14 ?_
          refine xa_pure (v := (Sl.v data0)) 11 (by decide +kernel) rfl rfl (wanted_yes (d := 21) rfl rfl (by decide) rfl hb7) (p_move rfl rfl) ?_
          refine xa_pure (v := (.int .i64 first3)) 12 (by decide +kernel) rfl rfl (wanted_yes (d := 21) rfl rfl (by decide) rfl hb7) (p_move rfl rfl) ?_
          refine xa_pure (v := (.int .i64 (IntKind.i64.wrap ((IntKind.i64.wrap (2 * root8)) + 1)))) 13 (by decide +kernel) rfl rfl (wanted_yes (d := 21) rfl rfl (by decide) rfl hb7) (p_move rfl rfl) ?_
          refine xa_pure (v := (.int .i64 (IntKind.i64.wrap (first3 + (IntKind.i64.wrap ((IntKind.i64.wrap (2 * root8)) + 1)))))) 14 (by decide +kernel) rfl rfl (wanted_yes (d := 21) rfl rfl (by decide) rfl hb7) (p_add rfl rfl rfl) ?_
          refine xa_pure (v := (.int .i64 (IntKind.i64.wrap ((IntKind.i64.wrap (first3 + (IntKind.i64.wrap ((IntKind.i64.wrap (2 * root8)) + 1)))) + 1)))) 15 (by decide +kernel) rfl rfl (wanted_yes (d := 21) rfl rfl (by decide) rfl hb7) (p_add rfl rfl rfl) ?_
          obtain ⟨p_15, hap_15, hlp_15, hup_15, H⟩ := H
          refine xa_pure (v := (.pointer (some (p_15.add ((IntKind.i64.wrap ((IntKind.i64.wrap (first3 + (IntKind.i64.wrap ((IntKind.i64.wrap (2 * root8)) + 1)))) + 1)).toNat * 1))))) 16 (by decide +kernel) rfl rfl (wanted_yes (d := 21) rfl rfl (by decide) rfl hb7) (p_indexAddr (s := data0) (ad := p_15) (size := 1) rfl Try.underlying71 Try.ti9 rfl rfl hap_15 hlp_15 hup_15) ?_
          obtain ⟨adv_16, v_16, hev_16, hcv_16, H⟩ := H
          refine xa_read (v := (.string v_16)) (S := (fun w => w.cell? adv_16 = some (.string v_16))) 17 (by decide +kernel) rfl rfl (wanted_yes (d := 21) rfl rfl (by decide) rfl hb7) (fun w hc => rd_load (ad := adv_16) rfl Try.underlying9 rfl (by show Value.pointer _ = _; rw [hev_16]) hc) hcv_16 ?_
          refine xa_eff 18 [] (by decide +kernel) rfl rfl rfl (wanted_yes (d := 21) rfl rfl (by decide) rfl hb7) (e_call (fn := Try.f214) H rfl rfl Try.func214 rfl rfl rfl) ?_
          rintro _ w_7 ⟨v_18, rfl, H⟩
          refine ⟨AllHeld.nil, ?_⟩
          refine xa_pure (v := (.bool v_18)) 19 (by decide +kernel) rfl rfl (wanted_none rfl _) (p_pickT rfl rfl hb7 rfl) ?_
          refine xa_end (by decide +kernel) ?_
          refine r_upd (i := 0) (v := (Sl.v data0)) rfl ?_
          refine r_upd (i := 2) (v := (.int .i64 hi2)) rfl ?_
          refine r_upd (i := 3) (v := (.int .i64 first3)) rfl ?_
          refine r_upd (i := 8) (v := (.int .i64 root8)) rfl ?_
          refine r_upd (i := 9) (v := (.int .i64 (IntKind.i64.wrap ((IntKind.i64.wrap (2 * root8)) + 1)))) rfl ?_
          refine r_upd (i := 36) (v := (.bool v_18)) rfl ?_
          exact J5 (data0, hi2, first3, root8, (IntKind.i64.wrap ((IntKind.i64.wrap (2 * root8)) + 1)), v_18) _ _ H
        · clear H; intro hb7 H
          refine xa_skip 5 (by decide +kernel) rfl rfl (wanted_no (d := 21) rfl rfl (by decide) rfl hb7) ?_
          refine xa_skip 6 (by decide +kernel) rfl rfl (wanted_no (d := 21) rfl rfl (by decide) rfl hb7) ?_
          refine xa_skip 7 (by decide +kernel) rfl rfl (wanted_no (d := 21) rfl rfl (by decide) rfl hb7) ?_
          refine xa_skip 8 (by decide +kernel) rfl rfl (wanted_no (d := 21) rfl rfl (by decide) rfl hb7) ?_
          refine xa_skip 9 (by decide +kernel) rfl rfl (wanted_no (d := 21) rfl rfl (by decide) rfl hb7) ?_
          refine xa_skip 10 (by decide +kernel) rfl rfl (wanted_no (d := 21) rfl rfl (by decide) rfl hb7) ?_
          refine xa_skip 11 (by decide +kernel) rfl rfl (wanted_no (d := 21) rfl rfl (by decide) rfl hb7) ?_
          refine xa_skip 12 (by decide +kernel) rfl rfl (wanted_no (d := 21) rfl rfl (by decide) rfl hb7) ?_
          refine xa_skip 13 (by decide +kernel) rfl rfl (wanted_no (d := 21) rfl rfl (by decide) rfl hb7) ?_
          refine xa_skip 14 (by decide +kernel) rfl rfl (wanted_no (d := 21) rfl rfl (by decide) rfl hb7) ?_
          refine xa_skip 15 (by decide +kernel) rfl rfl (wanted_no (d := 21) rfl rfl (by decide) rfl hb7) ?_
          refine xa_skip 16 (by decide +kernel) rfl rfl (wanted_no (d := 21) rfl rfl (by decide) rfl hb7) ?_
          refine xa_skip 17 (by decide +kernel) rfl rfl (wanted_no (d := 21) rfl rfl (by decide) rfl hb7) ?_
          refine xa_skip 18 (by decide +kernel) rfl rfl (wanted_no (d := 21) rfl rfl (by decide) rfl hb7) ?_
          refine xa_pure (v := (.bool false)) 19 (by decide +kernel) rfl rfl (wanted_none rfl _) (p_pickF rfl rfl hb7 rfl) ?_
          refine xa_end (by decide +kernel) ?_
          refine r_upd (i := 0) (v := (Sl.v data0)) rfl ?_
          refine r_upd (i := 2) (v := (.int .i64 hi2)) rfl ?_
          refine r_upd (i := 3) (v := (.int .i64 first3)) rfl ?_
          refine r_upd (i := 8) (v := (.int .i64 root8)) rfl ?_
          refine r_upd (i := 9) (v := (.int .i64 (IntKind.i64.wrap ((IntKind.i64.wrap (2 * root8)) + 1)))) rfl ?_
          refine r_upd (i := 36) (v := (.bool false)) rfl ?_
          exact J5 (data0, hi2, first3, root8, (IntKind.i64.wrap ((IntKind.i64.wrap (2 * root8)) + 1)), false) _ _ H

/-! 242 slices.nextPowerOfTwo -/
def slices_nextPowerOfTwo (R : Value → World → Prop) (length0 : Int) (w : World) : Prop :=
  CallF Try.prog 194 #[(.int .u64 (IntKind.u64.wrap length0))] w fun u_1 w_1 => As (Value.int .i64) u_1 fun v_2 =>
  0 ≤ v_2 ∧ (
  R (.int .u64 (shlK .u64 1 v_2)) w_1)

theorem slices_nextPowerOfTwo_ok (R : Value → World → Prop) (length0 : Int) (w : World) (H : slices_nextPowerOfTwo R length0 w) : CallF Try.prog 242 #[(.int .i64 length0)] w R := by
  refine calls_of_runs (fn := Try.f242) Try.func242 rfl (Nat.le_of_ble_eq_true rfl) ?_
  show Runs _ _ 7 _ _ _ _
  unfold slices_nextPowerOfTwo at H
  refine r_upd (i := 0) (v := (.int .i64 length0)) rfl ?_
  refine r_seq ?_
  refine r_region ?_
  refine xo_pure (v := (.int .u64 0)) rfl (wanted_none rfl _) (p_assign rfl rfl) ?_
  refine xo_end ?_
  refine r_seq ?_
  refine r_region ?_
  refine xo_pure (v := (.int .i64 length0)) rfl (wanted_none rfl _) (p_move rfl rfl) ?_
  refine xo_pure (v := (.int .u64 (IntKind.u64.wrap length0))) rfl (wanted_none rfl _) (p_conv rfl Try.underlying3 Try.underlying234 rfl) ?_
  refine xo_eff rfl (wanted_none rfl _) (e_call (fn := Try.f194) H rfl rfl Try.func194 rfl rfl rfl) ?_
  rintro _ w_1 ⟨v_2, rfl, H⟩
  obtain ⟨hnq_3, H⟩ := H
  refine xo_pure (v := (.int .u64 (shlK .u64 1 v_2))) rfl (wanted_none rfl _) (p_shl rfl rfl rfl hnq_3) ?_
  refine xo_pure (v := (.int .u64 (shlK .u64 1 v_2))) rfl (wanted_none rfl _) (p_assign rfl rfl) ?_
  refine xo_end ?_
  exact r_ret (fn := Try.f242) Try.func242 (res_1 rfl ⟨by decide, rfl⟩) H

/-! 243 (*slices.xorshift).Next -/
def slices_xorshift_Next (R : Value → World → Prop) (r0 : Option Addr) (w : World) : Prop :=
  NotNil r0 fun p_1 =>
  Ld (Value.int .u64) (some p_1) (World.drew w) fun v_2 =>
  NotNil r0 fun p_3 =>
  Ld (Value.int .u64) (some p_3) (World.drew w) fun v_4 =>
  NotNil r0 fun p_5 =>
  St (some p_5) (.int .u64 (xorK .u64 v_2 (shlK .u64 v_4 13))) (World.drew w) fun w_2 =>
  NotNil r0 fun p_6 =>
  Ld (Value.int .u64) (some p_6) (World.drew w_2) fun v_7 =>
  NotNil r0 fun p_8 =>
  Ld (Value.int .u64) (some p_8) (World.drew w_2) fun v_9 =>
  NotNil r0 fun p_10 =>
  St (some p_10) (.int .u64 (xorK .u64 v_7 (shrK .u64 v_9 7))) (World.drew w_2) fun w_4 =>
  NotNil r0 fun p_11 =>
  Ld (Value.int .u64) (some p_11) (World.drew w_4) fun v_12 =>
  NotNil r0 fun p_13 =>
  Ld (Value.int .u64) (some p_13) (World.drew w_4) fun v_14 =>
  NotNil r0 fun p_15 =>
  St (some p_15) (.int .u64 (xorK .u64 v_12 (shlK .u64 v_14 17))) (World.drew w_4) fun w_6 =>
  NotNil r0 fun p_16 =>
  Ld (Value.int .u64) (some p_16) w_6 fun v_17 =>
  R (.int .u64 v_17) w_6

theorem slices_xorshift_Next_ok (R : Value → World → Prop) (r0 : Option Addr) (w : World) (H : slices_xorshift_Next R r0 w) : CallF Try.prog 243 #[(.pointer r0)] w R := by
  refine calls_of_runs (fn := Try.f243) Try.func243 rfl (Nat.le_of_ble_eq_true rfl) ?_
  show Runs _ _ 33 _ _ _ _
  unfold slices_xorshift_Next at H
  refine r_upd (i := 0) (v := (.pointer r0)) rfl ?_
  refine r_seq ?_
  refine r_region ?_
  refine xo_pure (v := (.int .u64 0)) rfl (wanted_none rfl _) (p_assign rfl rfl) ?_
  refine xo_end ?_
  refine r_seq ?_
  refine r_draw #[[], [0], [0, 1], [], [3], [3, 4], [3, 4, 5], [0, 1, 2, 3, 4, 5, 6], [0, 1, 2, 3, 4, 5, 6, 7], [0, 1, 2, 3, 4, 5, 6, 7, 8]] 10 rfl rfl ?_
  refine xa_pure (v := (.pointer r0)) 0 (by decide +kernel) rfl rfl (wanted_none rfl _) (p_move rfl rfl) ?_
  obtain ⟨p_1, hpp_1, H⟩ := H
  refine xa_pure (v := (.pointer (some p_1))) 1 (by decide +kernel) rfl rfl (wanted_none rfl _) (p_nilCheck rfl rfl hpp_1) ?_
  obtain ⟨adv_2, v_2, hev_2, hcv_2, H⟩ := H
  refine xa_read (v := (.int .u64 v_2)) (S := (fun w => w.cell? adv_2 = some (.int .u64 v_2))) 2 (by decide +kernel) rfl rfl (wanted_none rfl _) (fun w hc => rd_load (ad := adv_2) rfl Try.underlying336 rfl (by show Value.pointer _ = _; rw [hev_2]) hc) hcv_2 ?_
  refine xa_pure (v := (.pointer r0)) 3 (by decide +kernel) rfl rfl (wanted_none rfl _) (p_move rfl rfl) ?_
  obtain ⟨p_3, hpp_3, H⟩ := H
  refine xa_pure (v := (.pointer (some p_3))) 4 (by decide +kernel) rfl rfl (wanted_none rfl _) (p_nilCheck rfl rfl hpp_3) ?_
  obtain ⟨adv_4, v_4, hev_4, hcv_4, H⟩ := H
  refine xa_read (v := (.int .u64 v_4)) (S := (fun w => w.cell? adv_4 = some (.int .u64 v_4))) 5 (by decide +kernel) rfl rfl (wanted_none rfl _) (fun w hc => rd_load (ad := adv_4) rfl Try.underlying336 rfl (by show Value.pointer _ = _; rw [hev_4]) hc) hcv_4 ?_
  refine xa_pure (v := (.int .u64 (shlK .u64 v_4 13))) 6 (by decide +kernel) rfl rfl (wanted_none rfl _) (p_shl rfl rfl rfl (by decide)) ?_
  refine xa_pure (v := (.int .u64 (xorK .u64 v_2 (shlK .u64 v_4 13)))) 7 (by decide +kernel) rfl rfl (wanted_none rfl _) (p_xor rfl rfl rfl) ?_
  obtain ⟨p_5, hpp_5, H⟩ := H
  refine xa_pure (v := (.pointer (some p_5))) 8 (by decide +kernel) rfl rfl (wanted_none rfl _) (p_nilCheck rfl rfl hpp_5) ?_
  refine xa_effN 9 [] (by decide +kernel) rfl rfl rfl (wanted_none rfl _) (e_store rfl Try.ti336 rfl rfl rfl H) ?_
  intro _ w_2 H
  refine ⟨AllHeld.nil, ?_⟩
  refine xa_end (by decide +kernel) ?_
  refine r_seq ?_
  refine r_draw #[[], [0], [0, 1], [], [3], [3, 4], [3, 4, 5], [0, 1, 2, 3, 4, 5, 6], [0, 1, 2, 3, 4, 5, 6, 7], [0, 1, 2, 3, 4, 5, 6, 7, 8]] 10 rfl rfl ?_
  refine xa_pure (v := (.pointer r0)) 0 (by decide +kernel) rfl rfl (wanted_none rfl _) (p_move rfl rfl) ?_
  obtain ⟨p_6, hpp_6, H⟩ := H
  refine xa_pure (v := (.pointer (some p_6))) 1 (by decide +kernel) rfl rfl (wanted_none rfl _) (p_nilCheck rfl rfl hpp_6) ?_
  obtain ⟨adv_7, v_7, hev_7, hcv_7, H⟩ := H
  refine xa_read (v := (.int .u64 v_7)) (S := (fun w => w.cell? adv_7 = some (.int .u64 v_7))) 2 (by decide +kernel) rfl rfl (wanted_none rfl _) (fun w hc => rd_load (ad := adv_7) rfl Try.underlying336 rfl (by show Value.pointer _ = _; rw [hev_7]) hc) hcv_7 ?_
  refine xa_pure (v := (.pointer r0)) 3 (by decide +kernel) rfl rfl (wanted_none rfl _) (p_move rfl rfl) ?_
  obtain ⟨p_8, hpp_8, H⟩ := H
  refine xa_pure (v := (.pointer (some p_8))) 4 (by decide +kernel) rfl rfl (wanted_none rfl _) (p_nilCheck rfl rfl hpp_8) ?_
  obtain ⟨adv_9, v_9, hev_9, hcv_9, H⟩ := H
  refine xa_read (v := (.int .u64 v_9)) (S := (fun w => w.cell? adv_9 = some (.int .u64 v_9))) 5 (by decide +kernel) rfl rfl (wanted_none rfl _) (fun w hc => rd_load (ad := adv_9) rfl Try.underlying336 rfl (by show Value.pointer _ = _; rw [hev_9]) hc) hcv_9 ?_
  refine xa_pure (v := (.int .u64 (shrK .u64 v_9 7))) 6 (by decide +kernel) rfl rfl (wanted_none rfl _) (p_shr rfl rfl rfl (by decide)) ?_
  refine xa_pure (v := (.int .u64 (xorK .u64 v_7 (shrK .u64 v_9 7)))) 7 (by decide +kernel) rfl rfl (wanted_none rfl _) (p_xor rfl rfl rfl) ?_
  obtain ⟨p_10, hpp_10, H⟩ := H
  refine xa_pure (v := (.pointer (some p_10))) 8 (by decide +kernel) rfl rfl (wanted_none rfl _) (p_nilCheck rfl rfl hpp_10) ?_
  refine xa_effN 9 [] (by decide +kernel) rfl rfl rfl (wanted_none rfl _) (e_store rfl Try.ti336 rfl rfl rfl H) ?_
  intro _ w_4 H
  refine ⟨AllHeld.nil, ?_⟩
  refine xa_end (by decide +kernel) ?_
  refine r_seq ?_
  refine r_draw #[[], [0], [0, 1], [], [3], [3, 4], [3, 4, 5], [0, 1, 2, 3, 4, 5, 6], [0, 1, 2, 3, 4, 5, 6, 7], [0, 1, 2, 3, 4, 5, 6, 7, 8]] 10 rfl rfl ?_
  refine xa_pure (v := (.pointer r0)) 0 (by decide +kernel) rfl rfl (wanted_none rfl _) (p_move rfl rfl) ?_
  obtain ⟨p_11, hpp_11, H⟩ := H
  refine xa_pure (v := (.pointer (some p_11))) 1 (by decide +kernel) rfl rfl (wanted_none rfl _) (p_nilCheck rfl rfl hpp_11) ?_
  obtain ⟨adv_12, v_12, hev_12, hcv_12, H⟩ := H
  refine xa_read (v := (.int .u64 v_12)) (S := (fun w => w.cell? adv_12 = some (.int .u64 v_12))) 2 (by decide +kernel) rfl rfl (wanted_none rfl _) (fun w hc => rd_load (ad := adv_12) rfl Try.underlying336 rfl (by show Value.pointer _ = _; rw [hev_12]) hc) hcv_12 ?_
  refine xa_pure (v := (.pointer r0)) 3 (by decide +kernel) rfl rfl (wanted_none rfl _) (p_move rfl rfl) ?_
  obtain ⟨p_13, hpp_13, H⟩ := H
  refine xa_pure (v := (.pointer (some p_13))) 4 (by decide +kernel) rfl rfl (wanted_none rfl _) (p_nilCheck rfl rfl hpp_13) ?_
  obtain ⟨adv_14, v_14, hev_14, hcv_14, H⟩ := H
  refine xa_read (v := (.int .u64 v_14)) (S := (fun w => w.cell? adv_14 = some (.int .u64 v_14))) 5 (by decide +kernel) rfl rfl (wanted_none rfl _) (fun w hc => rd_load (ad := adv_14) rfl Try.underlying336 rfl (by show Value.pointer _ = _; rw [hev_14]) hc) hcv_14 ?_
  refine xa_pure (v := (.int .u64 (shlK .u64 v_14 17))) 6 (by decide +kernel) rfl rfl (wanted_none rfl _) (p_shl rfl rfl rfl (by decide)) ?_
  refine xa_pure (v := (.int .u64 (xorK .u64 v_12 (shlK .u64 v_14 17)))) 7 (by decide +kernel) rfl rfl (wanted_none rfl _) (p_xor rfl rfl rfl) ?_
  obtain ⟨p_15, hpp_15, H⟩ := H
  refine xa_pure (v := (.pointer (some p_15))) 8 (by decide +kernel) rfl rfl (wanted_none rfl _) (p_nilCheck rfl rfl hpp_15) ?_
  refine xa_effN 9 [] (by decide +kernel) rfl rfl rfl (wanted_none rfl _) (e_store rfl Try.ti336 rfl rfl rfl H) ?_
  intro _ w_6 H
  refine ⟨AllHeld.nil, ?_⟩
  refine xa_end (by decide +kernel) ?_
  refine r_seq ?_
  refine r_region ?_
  refine xo_pure (v := (.pointer r0)) rfl (wanted_none rfl _) (p_move rfl rfl) ?_
  obtain ⟨p_16, hpp_16, H⟩ := H
  refine xo_pure (v := (.pointer (some p_16))) rfl (wanted_none rfl _) (p_nilCheck rfl rfl hpp_16) ?_
  obtain ⟨adv_17, v_17, hev_17, hcv_17, H⟩ := H
  refine xo_read (v := (.int .u64 v_17)) rfl (wanted_none rfl _) (rd_load (ad := adv_17) rfl Try.underlying336 rfl (by show Value.pointer _ = _; rw [hev_17]) hcv_17) ?_
  refine xo_pure (v := (.int .u64 v_17)) rfl (wanted_none rfl _) (p_assign rfl rfl) ?_
  refine xo_end ?_
  exact r_ret (fn := Try.f243) Try.func243 (res_1 rfl ⟨by decide, rfl⟩) H

/-! 244 slices.medianAdjacentOrdered[string] -/
def slices_medianAdjacentOrdered_string (R : Value → World → Prop) (data0 : Sl) (a1 : Int) (swaps2 : Option Addr) (w : World) : Prop :=
  CallF Try.prog 245 #[(Sl.v data0), (.int .i64 (IntKind.i64.wrap (a1 - 1))), (.int .i64 a1), (.int .i64 (IntKind.i64.wrap (a1 + 1))), (.pointer swaps2)] w fun u_1 w_1 => As (Value.int .i64) u_1 fun v_2 =>
  R (.int .i64 v_2) w_1

theorem slices_medianAdjacentOrdered_string_ok (R : Value → World → Prop) (data0 : Sl) (a1 : Int) (swaps2 : Option Addr) (w : World) (H : slices_medianAdjacentOrdered_string R data0 a1 swaps2 w) : CallF Try.prog 244 #[(Sl.v data0), (.int .i64 a1), (.pointer swaps2)] w R := by
  refine calls_of_runs (fn := Try.f244) Try.func244 rfl (Nat.le_of_ble_eq_true rfl) ?_
  show Runs _ _ 15 _ _ _ _
  unfold slices_medianAdjacentOrdered_string at H
  refine r_upd (i := 0) (v := (Sl.v data0)) rfl ?_
  refine r_upd (i := 1) (v := (.int .i64 a1)) rfl ?_
  refine r_upd (i := 2) (v := (.pointer swaps2)) rfl ?_
  refine r_seq ?_
  refine r_region ?_
  refine xo_pure (v := (.int .i64 0)) rfl (wanted_none rfl _) (p_assign rfl rfl) ?_
  refine xo_end ?_
  refine r_seq ?_
  refine r_region ?_
  refine xo_pure (v := (Sl.v data0)) rfl (wanted_none rfl _) (p_move rfl rfl) ?_
  refine xo_pure (v := (.int .i64 a1)) rfl (wanted_none rfl _) (p_move rfl rfl) ?_
  refine xo_pure (v := (.int .i64 (IntKind.i64.wrap (a1 - 1)))) rfl (wanted_none rfl _) (p_sub rfl rfl rfl) ?_
  refine xo_pure (v := (.int .i64 a1)) rfl (wanted_none rfl _) (p_move rfl rfl) ?_
  refine xo_pure (v := (.int .i64 a1)) rfl (wanted_none rfl _) (p_move rfl rfl) ?_
  refine xo_pure (v := (.int .i64 (IntKind.i64.wrap (a1 + 1)))) rfl (wanted_none rfl _) (p_add rfl rfl rfl) ?_
  refine xo_pure (v := (.pointer swaps2)) rfl (wanted_none rfl _) (p_move rfl rfl) ?_
  refine xo_eff rfl (wanted_none rfl _) (e_call (fn := Try.f245) H rfl rfl Try.func245 rfl rfl rfl) ?_
  rintro _ w_1 ⟨v_2, rfl, H⟩
  refine xo_pure (v := (.int .i64 v_2)) rfl (wanted_none rfl _) (p_assign rfl rfl) ?_
  refine xo_end ?_
  exact r_ret (fn := Try.f244) Try.func244 (res_1 rfl ⟨by decide, rfl⟩) H
end Go.Proofs
