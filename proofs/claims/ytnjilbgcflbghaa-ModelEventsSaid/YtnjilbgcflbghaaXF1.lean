/- Laid by program. -/
import Derived.Test.YtnjilbgcflbghaaXFT
set_option linter.all false
set_option linter.unusedVariables false
set_option linter.unusedSimpArgs false
set_option maxRecDepth 20000
set_option maxHeartbeats 4000000
namespace Go.Proofs
open Go Go.X
/-! 62 sporran/model.Event -/
def model_Event_k2 (R : Value → World → Prop) (ag1 : (Option Addr × Sl × Array Value × Int) → World → Prop) (out3 : Sl) (w : World) : Prop :=
  R (Sl.v out3) w

def model_Event_k1 (R : Value → World → Prop) (ag1 : (Option Addr × Sl × Array Value × Int) → World → Prop) (o1 : Option Addr) (out3 : Sl) (w : World) : Prop :=
  NotNil o1 fun p_10 =>
  Ld (Value.int .i64) (some (p_10.add 0)) w fun v_11 =>
  IfB (decide (v_11 = 3)) (
    NotNil o1 fun p_12 =>
    Cut ⟨some (p_12.add 5), 48, 48⟩ 1 none none none fun s_13 =>
    Ef Try.prog (Builtin.append_ #[39, 39] 39 #[(Sl.v out3), (Sl.v s_13)]) Sl.v w fun v_14 w_3 =>
    model_Event_k2 R ag1 v_14 w_3) (
    model_Event_k2 R ag1 out3 w)

def model_Event_b0 (R : Value → World → Prop) (ag1 : (Option Addr × Sl × Array Value × Int) → World → Prop) (o1 : Option Addr) (out3 : Sl) (t12 : Array Value) (t13 : Int) (w : World) : Prop :=
  IfB (decide (t13 < 3)) (
    IxA 3 t13 (
    At (Value.int .i64) t12 t13.toNat fun f_7 =>
    CallF Try.prog 125 #[(Sl.v out3), (.int .u64 (IntKind.u64.wrap f_7))] w fun u_8 w_2 => As Sl.v u_8 fun v_9 =>
    ag1 (o1, v_9, t12, (IntKind.i64.wrap (t13 + 1))) w_2)) (
    NotNil o1 fun p_15 =>
    LdH Value.string (some (p_15.add 1)) (World.drew w) fun adv_16 v_16 =>
    NotNil o1 fun p_17 =>
    LdH Value.string (some (p_17.add 2)) (World.drew w) fun adv_18 v_18 =>
    (
      Ef Try.prog (convert 9 39 (.string v_16)) Sl.v (World.drew w) fun v_19 w_5 =>
      ((w_5).cell? adv_18 = some (.string v_18)) ∧
      (
        CallF Try.prog 126 #[(Sl.v out3), (Sl.v v_19)] w_5 fun u_20 w_6 => As Sl.v u_20 fun v_21 =>
        ((w_6).cell? adv_18 = some (.string v_18)) ∧
        Ef Try.prog (convert 9 39 (.string v_18)) Sl.v w_6 fun v_22 w_7 =>
        CallF Try.prog 126 #[(Sl.v v_21), (Sl.v v_22)] w_7 fun u_23 w_8 => As Sl.v u_23 fun v_24 =>
        model_Event_k1 R ag1 o1 v_24 w_8) ∧ (
        Ef Try.prog (convert 9 39 (.string v_18)) Sl.v w_5 fun v_25 w_9 =>
        CallF Try.prog 126 #[(Sl.v out3), (Sl.v v_19)] w_9 fun u_26 w_10 => As Sl.v u_26 fun v_27 =>
        CallF Try.prog 126 #[(Sl.v v_27), (Sl.v v_25)] w_10 fun u_28 w_11 => As Sl.v u_28 fun v_29 =>
        model_Event_k1 R ag1 o1 v_29 w_11)) ∧ (
      Ef Try.prog (convert 9 39 (.string v_18)) Sl.v (World.drew w) fun v_30 w_12 =>
      ((w_12).cell? adv_16 = some (.string v_16)) ∧
      Ef Try.prog (convert 9 39 (.string v_16)) Sl.v w_12 fun v_31 w_13 =>
      CallF Try.prog 126 #[(Sl.v out3), (Sl.v v_31)] w_13 fun u_32 w_14 => As Sl.v u_32 fun v_33 =>
      CallF Try.prog 126 #[(Sl.v v_33), (Sl.v v_30)] w_14 fun u_34 w_15 => As Sl.v u_34 fun v_35 =>
      model_Event_k1 R ag1 o1 v_35 w_15))

def model_Event (R : Value → World → Prop) (o0 : Array Value) (w : World) : Prop :=
  New o0 67 w fun a_1 w_1 =>
  Ld (Value.int .i64) (some (a_1.add 0)) w_1 fun v_2 =>
  Ld (Value.int .i64) (some (a_1.add 3)) w_1 fun v_3 =>
  Ld (Value.int .i64) (some (a_1.add 4)) w_1 fun v_4 =>
  BuiltA 1 #[(.int .i64 0), (.int .i64 0), (.int .i64 0)] [(0, (.int .i64 v_2)), (1, (.int .i64 v_3)), (2, (.int .i64 v_4))] fun c_5 =>
  Lp (fun ag (s : Option Addr × Sl × Array Value × Int) w => model_Event_b0 R ag s.1 s.2.1 s.2.2.1 s.2.2.2 w) ((some a_1), Sl.nil, c_5, 0) w_1

theorem model_Event_ok (R : Value → World → Prop) (o0 : Array Value) (w : World) (H : model_Event R o0 w) : CallF Try.prog 62 #[(.agg o0)] w R := by
  refine calls_of_runs (fn := Try.f62) Try.func62 rfl (Nat.le_of_ble_eq_true rfl) ?_
  show Runs _ _ 38 _ _ _ _
  unfold model_Event at H
  refine r_upd (i := 0) (v := (.agg o0)) rfl ?_
  refine r_seq ?_
  refine r_region ?_
  refine xo_eff rfl (wanted_none rfl _) (e_box (v := (.agg o0)) rfl rfl H) ?_
  rintro _ w_1 ⟨a_1, rfl, H⟩
  refine xo_pure (v := (Sl.v Sl.nil)) rfl (wanted_none rfl _) (p_assign rfl rfl) ?_
  refine xo_end ?_
  refine r_seq ?_
  refine r_region ?_
  refine xo_pure (v := (Sl.v Sl.nil)) rfl (wanted_none rfl _) (p_assign rfl rfl) ?_
  refine xo_end ?_
  refine r_seq ?_
  refine r_seq ?_
  refine r_region ?_
  refine xo_pure (v := (.pointer (some (a_1.add 0)))) rfl (wanted_none rfl _) (p_fieldAddr (off := 0) (ft := 3) (size := 1) rfl Try.underlying67 rfl Try.ti3 (by decide) rfl rfl) ?_
  obtain ⟨adv_2, v_2, hev_2, hcv_2, H⟩ := H
  refine xo_read (v := (.int .i64 v_2)) rfl (wanted_none rfl _) (rd_load (ad := adv_2) rfl Try.underlying3 rfl (by show Value.pointer _ = _; rw [hev_2]) hcv_2) ?_
  refine xo_pure (v := (.pointer (some (a_1.add 3)))) rfl (wanted_none rfl _) (p_fieldAddr (off := 3) (ft := 3) (size := 1) rfl Try.underlying67 rfl Try.ti3 (by decide) rfl rfl) ?_
  obtain ⟨adv_3, v_3, hev_3, hcv_3, H⟩ := H
  refine xo_read (v := (.int .i64 v_3)) rfl (wanted_none rfl _) (rd_load (ad := adv_3) rfl Try.underlying3 rfl (by show Value.pointer _ = _; rw [hev_3]) hcv_3) ?_
  refine xo_pure (v := (.pointer (some (a_1.add 4)))) rfl (wanted_none rfl _) (p_fieldAddr (off := 4) (ft := 3) (size := 1) rfl Try.underlying67 rfl Try.ti3 (by decide) rfl rfl) ?_
  obtain ⟨adv_4, v_4, hev_4, hcv_4, H⟩ := H
  refine xo_read (v := (.int .i64 v_4)) rfl (wanted_none rfl _) (rd_load (ad := adv_4) rfl Try.underlying3 rfl (by show Value.pointer _ = _; rw [hev_4]) hcv_4) ?_
  obtain ⟨c_5, hflc_5, H⟩ := H
  refine xo_pure (v := (.agg c_5)) rfl (wanted_none rfl _) (p_buildA (size := 1) rfl Try.underlying227 Try.ti227 Try.ti3 hflc_5 rfl) ?_
  refine xo_pure (v := (.int .i64 0)) rfl (wanted_none rfl _) (p_move rfl rfl) ?_
  refine xo_end ?_
  refine r_block ?_
  refine r_upd (i := 1) (v := (.pointer (some a_1))) rfl ?_
  refine r_upd (i := 3) (v := (Sl.v Sl.nil)) rfl ?_
  refine r_upd (i := 12) (v := (.agg c_5)) rfl ?_
  refine r_upd (i := 13) (v := (.int .i64 0)) rfl ?_
  refine r_loopJ (fun (s : Option Addr × Sl × Array Value × Int) σ => upd 13 (.int .i64 s.2.2.2) (upd 12 (.agg s.2.2.1) (upd 3 (Sl.v s.2.1) (upd 1 (.pointer s.1) (σ))))) (s := ((some a_1), Sl.nil, c_5, 0)) H ?_
  clear H
  rintro ag1 ⟨o1, out3, t12, t13⟩ σ w H hag1
  replace H : model_Event_b0 R ag1 o1 out3 t12 t13 w := H
  show Runs _ _ _ _ _ (upd 13 (.int .i64 t13) (upd 12 (.agg t12) (upd 3 (Sl.v out3) (upd 1 (.pointer o1) (σ))))) _
  unfold model_Event_b0 at H
  refine r_seq ?_
  refine r_region ?_
  refine xo_pure (v := (.bool (decide (t13 < 3)))) rfl (wanted_none rfl _) (p_lt rfl rfl rfl) ?_
  refine xo_end ?_
  refine r_seq ?_
  refine r_condB (b := (decide (t13 < 3))) rfl H ?_ ?_
  · clear H; intro hb2 H
    refine r_skip ?_
    refine r_seq ?_
    refine r_block ?_
    refine r_seq ?_
    refine r_region ?_
    obtain ⟨hlq_6, huq_6, f_7, hff_7, H⟩ := H
    refine xo_pure (v := (.int .i64 f_7)) rfl (wanted_none rfl _) (p_indexA1 rfl Try.underlying227 Try.ti3 Try.underlying3 rfl rfl rfl hlq_6 huq_6 hff_7) ?_
    refine xo_pure (v := (.int .i64 f_7)) rfl (wanted_none rfl _) (p_assign rfl rfl) ?_
    refine xo_end ?_
    refine r_region ?_
    refine xo_pure (v := (Sl.v out3)) rfl (wanted_none rfl _) (p_move rfl rfl) ?_
    refine xo_pure (v := (.int .i64 f_7)) rfl (wanted_none rfl _) (p_move rfl rfl) ?_
    refine xo_pure (v := (.int .u64 (IntKind.u64.wrap f_7))) rfl (wanted_none rfl _) (p_conv rfl Try.underlying3 Try.underlying22 rfl) ?_
    refine xo_eff rfl (wanted_none rfl _) (e_call (fn := Try.f125) H rfl rfl Try.func125 rfl rfl rfl) ?_
    rintro _ w_2 ⟨v_9, rfl, H⟩
    refine xo_pure (v := (Sl.v v_9)) rfl (wanted_none rfl _) (p_assign rfl rfl) ?_
    refine xo_end ?_
    refine r_inBlock ?_
    refine r_region ?_
    refine xo_pure (v := (.int .i64 (IntKind.i64.wrap (t13 + 1)))) rfl (wanted_none rfl _) (p_add rfl rfl rfl) ?_
    refine xo_pure (v := (.int .i64 (IntKind.i64.wrap (t13 + 1)))) rfl (wanted_none rfl _) (p_move rfl rfl) ?_
    refine xo_end ?_
    refine r_upd (i := 1) (v := (.pointer o1)) rfl ?_
    refine r_upd (i := 3) (v := (Sl.v v_9)) rfl ?_
    refine r_upd (i := 12) (v := (.agg t12)) rfl ?_
    refine r_upd (i := 13) (v := (.int .i64 (IntKind.i64.wrap (t13 + 1)))) rfl ?_
    exact hag1 (o1, v_9, t12, (IntKind.i64.wrap (t13 + 1))) _ _ H
  · clear H; intro hb2 H
    refine r_exit rfl ?_
    refine r_seq ?_
    refine r_topJ (fun (s : Option Addr × Sl) σ => upd 3 (Sl.v s.2) (upd 1 (.pointer s.1) (σ))) (fun (s : Option Addr × Sl) w => model_Event_k1 R ag1 s.1 s.2 w) ?_ ?_
    · rintro ⟨o1, out3⟩ σ w H
      replace H : model_Event_k1 R ag1 o1 out3 w := H
      show Runs _ _ _ _ _ (upd 3 (Sl.v out3) (upd 1 (.pointer o1) (σ))) _
      unfold model_Event_k1 at H
      refine r_seqJ (fun (s : Sl) σ => upd 3 (Sl.v s) (σ)) (fun (s : Sl) w => model_Event_k2 R ag1 s w) ?_ ?_
      · rintro out3 σ w H
        replace H : model_Event_k2 R ag1 out3 w := H
        show Runs _ _ _ _ _ (upd 3 (Sl.v out3) (σ)) _
        unfold model_Event_k2 at H
        refine r_seq ?_
        refine r_region ?_
        refine xo_pure (v := (Sl.v out3)) rfl (wanted_none rfl _) (p_move rfl rfl) ?_
        refine xo_pure (v := (Sl.v out3)) rfl (wanted_none rfl _) (p_assign rfl rfl) ?_
        refine xo_end ?_
        exact r_ret (fn := Try.f62) Try.func62 (res_1 rfl ⟨by decide, rfl⟩) H
      · intro J4
        refine r_seq ?_
        refine r_region ?_
        obtain ⟨p_10, hpp_10, H⟩ := H
        refine xo_pure (v := (.pointer (some (p_10.add 0)))) rfl (wanted_none rfl _) (p_fieldAddr (off := 0) (ft := 3) (size := 1) rfl Try.underlying67 rfl Try.ti3 (by decide) rfl hpp_10) ?_
        obtain ⟨adv_11, v_11, hev_11, hcv_11, H⟩ := H
        refine xo_read (v := (.int .i64 v_11)) rfl (wanted_none rfl _) (rd_load (ad := adv_11) rfl Try.underlying3 rfl (by show Value.pointer _ = _; rw [hev_11]) hcv_11) ?_
        refine xo_pure (v := (.bool (decide (v_11 = 3)))) rfl (wanted_none rfl _) (p_eq rfl rfl rfl) ?_
        refine xo_end ?_
        refine r_condB (b := (decide (v_11 = 3))) rfl H ?_ ?_
        · clear H; intro hb5 H
          refine r_region ?_
          refine xo_pure (v := (Sl.v out3)) rfl (wanted_none rfl _) (p_move rfl rfl) ?_
          obtain ⟨p_12, hpp_12, H⟩ := H
          refine xo_pure (v := (.pointer (some (p_12.add 5)))) rfl (wanted_none rfl _) (p_fieldAddr (off := 5) (ft := 65) (size := 48) rfl Try.underlying67 rfl Try.ti65 (by decide) rfl hpp_12) ?_
          obtain ⟨ls_13, hs_13, ms_13, c3s_13, c4s_13, c5s_13, c6s_13, c7s_13, H⟩ := H
          obtain ⟨s_13, hds_13⟩ : ∃ q : Sl, q = ⟨if ms_13 = ls_13 then some (p_12.add 5) else (some (p_12.add 5)).map (·.add (ls_13 * 1)), hs_13 - ls_13, ms_13 - ls_13⟩ := ⟨_, rfl⟩
          rw [← hds_13] at H
          refine xo_pure (v := (Sl.v s_13)) rfl (wanted_none rfl _) (by rw [hds_13]; exact p_sliceA (ad := (p_12.add 5)) (n := 48) (size := 1) (vl := none) (vh := none) (vm := none) rfl Try.underlying65 Try.ti5 rfl OptI.none OptI.none OptI.none c3s_13 c4s_13 c5s_13 c6s_13 c7s_13) ?_
          refine xo_eff rfl (wanted_none rfl _) (e_app H rfl rfl rfl) ?_
          rintro _ w_3 ⟨v_14, rfl, H⟩
          refine xo_pure (v := (Sl.v v_14)) rfl (wanted_none rfl _) (p_assign rfl rfl) ?_
          refine xo_end ?_
          refine r_upd (i := 3) (v := (Sl.v v_14)) rfl ?_
          exact J4 v_14 _ _ H
        · clear H; intro hb5 H
          refine r_skip ?_
          refine r_upd (i := 3) (v := (Sl.v out3)) rfl ?_
          exact J4 out3 _ _ H
    · intro J3
      refine r_draw #[[], [], [1], [1, 2], [0, 1, 2, 3], [], [5], [5, 6], [0, 1, 2, 3, 4, 5, 6, 7], [0, 1, 2, 3, 4, 5, 6, 7, 8]] 10 rfl rfl ?_
      refine xa_pure (v := (Sl.v out3)) 0 (by decide +kernel) rfl rfl (wanted_none rfl _) (p_move rfl rfl) ?_
      obtain ⟨p_15, hpp_15, H⟩ := H
      refine xa_pure (v := (.pointer (some (p_15.add 1)))) 1 (by decide +kernel) rfl rfl (wanted_none rfl _) (p_fieldAddr (off := 1) (ft := 9) (size := 1) rfl Try.underlying67 rfl Try.ti9 (by decide) rfl hpp_15) ?_
      obtain ⟨adv_16, v_16, hev_16, hcv_16, H⟩ := H
      refine xa_read (v := (.string v_16)) (S := (fun w => w.cell? adv_16 = some (.string v_16))) 2 (by decide +kernel) rfl rfl (wanted_none rfl _) (fun w hc => rd_load (ad := adv_16) rfl Try.underlying9 rfl (by show Value.pointer _ = _; rw [hev_16]) hc) hcv_16 ?_
      obtain ⟨p_17, hpp_17, H⟩ := H
      refine xa_pure (v := (.pointer (some (p_17.add 2)))) 5 (by decide +kernel) rfl rfl (wanted_none rfl _) (p_fieldAddr (off := 2) (ft := 9) (size := 1) rfl Try.underlying67 rfl Try.ti9 (by decide) rfl hpp_17) ?_
      obtain ⟨adv_18, v_18, hev_18, hcv_18, H⟩ := H
      refine xa_read (v := (.string v_18)) (S := (fun w => w.cell? adv_18 = some (.string v_18))) 6 (by decide +kernel) rfl rfl (wanted_none rfl _) (fun w hc => rd_load (ad := adv_18) rfl Try.underlying9 rfl (by show Value.pointer _ = _; rw [hev_18]) hc) hcv_18 ?_
      refine xa_two (i := 3) (j := 7) (by decide +kernel) ?_ ?_
      · replace H := H.1
        refine xone_eff 3 [(6, (fun w => w.cell? adv_18 = some (.string v_18)))] rfl rfl rfl (wanted_none rfl _) (e_gen (s := convert 9 39 (.string v_16)) (enc := Sl.v) rfl H) ?_
        rintro _ w_5 ⟨v_19, rfl, H⟩
        obtain ⟨hk3_6, H⟩ := H
        refine ⟨(.cons hk3_6 AllHeld.nil), ?_⟩
        refine xa_two (i := 4) (j := 7) (by decide +kernel) ?_ ?_
        · replace H := H.1
          refine xone_eff 4 [(6, (fun w => w.cell? adv_18 = some (.string v_18)))] rfl rfl rfl (wanted_none rfl _) (e_call (fn := Try.f126) H rfl rfl Try.func126 rfl rfl rfl) ?_
          rintro _ w_6 ⟨v_21, rfl, H⟩
          obtain ⟨hk4_6, H⟩ := H
          refine ⟨(.cons hk4_6 AllHeld.nil), ?_⟩
          refine xa_eff 7 [] (by decide +kernel) rfl rfl rfl (wanted_none rfl _) (e_gen (s := convert 9 39 (.string v_18)) (enc := Sl.v) rfl H) ?_
          rintro _ w_7 ⟨v_22, rfl, H⟩
          refine ⟨AllHeld.nil, ?_⟩
          refine xa_eff 8 [] (by decide +kernel) rfl rfl rfl (wanted_none rfl _) (e_call (fn := Try.f126) H rfl rfl Try.func126 rfl rfl rfl) ?_
          rintro _ w_8 ⟨v_24, rfl, H⟩
          refine ⟨AllHeld.nil, ?_⟩
          refine xa_pure (v := (Sl.v v_24)) 9 (by decide +kernel) rfl rfl (wanted_none rfl _) (p_assign rfl rfl) ?_
          refine xa_end (by decide +kernel) ?_
          refine r_upd (i := 1) (v := (.pointer o1)) rfl ?_
          refine r_upd (i := 3) (v := (Sl.v v_24)) rfl ?_
          exact J3 (o1, v_24) _ _ H
        · replace H := H.2
          refine xone_eff 7 [] rfl rfl rfl (wanted_none rfl _) (e_gen (s := convert 9 39 (.string v_18)) (enc := Sl.v) rfl H) ?_
          rintro _ w_9 ⟨v_25, rfl, H⟩
          refine ⟨AllHeld.nil, ?_⟩
          refine xa_eff 4 [] (by decide +kernel) rfl rfl rfl (wanted_none rfl _) (e_call (fn := Try.f126) H rfl rfl Try.func126 rfl rfl rfl) ?_
          rintro _ w_10 ⟨v_27, rfl, H⟩
          refine ⟨AllHeld.nil, ?_⟩
          refine xa_eff 8 [] (by decide +kernel) rfl rfl rfl (wanted_none rfl _) (e_call (fn := Try.f126) H rfl rfl Try.func126 rfl rfl rfl) ?_
          rintro _ w_11 ⟨v_29, rfl, H⟩
          refine ⟨AllHeld.nil, ?_⟩
          refine xa_pure (v := (Sl.v v_29)) 9 (by decide +kernel) rfl rfl (wanted_none rfl _) (p_assign rfl rfl) ?_
          refine xa_end (by decide +kernel) ?_
          refine r_upd (i := 1) (v := (.pointer o1)) rfl ?_
          refine r_upd (i := 3) (v := (Sl.v v_29)) rfl ?_
          exact J3 (o1, v_29) _ _ H
      · replace H := H.2
        refine xone_eff 7 [(2, (fun w => w.cell? adv_16 = some (.string v_16)))] rfl rfl rfl (wanted_none rfl _) (e_gen (s := convert 9 39 (.string v_18)) (enc := Sl.v) rfl H) ?_
        rintro _ w_12 ⟨v_30, rfl, H⟩
        obtain ⟨hk7_2, H⟩ := H
        refine ⟨(.cons hk7_2 AllHeld.nil), ?_⟩
        refine xa_eff 3 [] (by decide +kernel) rfl rfl rfl (wanted_none rfl _) (e_gen (s := convert 9 39 (.string v_16)) (enc := Sl.v) rfl H) ?_
        rintro _ w_13 ⟨v_31, rfl, H⟩
        refine ⟨AllHeld.nil, ?_⟩
        refine xa_eff 4 [] (by decide +kernel) rfl rfl rfl (wanted_none rfl _) (e_call (fn := Try.f126) H rfl rfl Try.func126 rfl rfl rfl) ?_
        rintro _ w_14 ⟨v_33, rfl, H⟩
        refine ⟨AllHeld.nil, ?_⟩
        refine xa_eff 8 [] (by decide +kernel) rfl rfl rfl (wanted_none rfl _) (e_call (fn := Try.f126) H rfl rfl Try.func126 rfl rfl rfl) ?_
        rintro _ w_15 ⟨v_35, rfl, H⟩
        refine ⟨AllHeld.nil, ?_⟩
        refine xa_pure (v := (Sl.v v_35)) 9 (by decide +kernel) rfl rfl (wanted_none rfl _) (p_assign rfl rfl) ?_
        refine xa_end (by decide +kernel) ?_
        refine r_upd (i := 1) (v := (.pointer o1)) rfl ?_
        refine r_upd (i := 3) (v := (Sl.v v_35)) rfl ?_
        exact J3 (o1, v_35) _ _ H

/-! 92 (*sporran/model.Model).add -/
def model_Model_add_k0 (R : Value → World → Prop) (m0 : Option Addr) (name1 : ByteArray) (v2 : Option Addr) (code3 : Int) (there10 : Bool) (t20 : Bool) (w : World) : Prop :=
  IfB t20 (
    R (.int .i64 1) w) (
    IfB (!decide (code3 = 0)) (
      R (.int .i64 code3) w) (
      IfB there10 (
        R (.int .i64 6) w) (
        NotNil v2 fun p_6 =>
        Ld Value.map (some (p_6.add 2)) (World.drew w) fun v_7 =>
        NotNil v2 fun p_8 =>
        LdH (Value.int .i64) (some (p_8.add 0)) (World.drew w) fun adv_9 v_9 =>
        Ef Try.prog (Builtin.len_ #[168] 3 #[(.map v_7)]) (Value.int .i64) (World.drew w) fun v_10 w_3 =>
        ((w_3).cell? adv_9 = some (.int .i64 v_9)) ∧
        IfB (decide (v_9 < v_10)) (
          R (.int .i64 8) w_3) (
          NotNil m0 fun p_11 =>
          Ld Value.map (some (p_11.add 0)) w_3 fun v_12 =>
          EfU Try.prog (Instr.mapUpdate 163 (.map v_12) (.string name1) (.pointer v2)) w_3 fun w_4 =>
          R (.int .i64 0) w_4))))

def model_Model_add (R : Value → World → Prop) (m0 : Option Addr) (name1 : ByteArray) (v2 : Option Addr) (code3 : Int) (w : World) : Prop :=
  NotNil m0 fun p_1 =>
  Ld Value.map (some (p_1.add 0)) w fun v_2 =>
  Ef Try.prog (Instr.lookup 163 (.map v_2) (.string name1) true) id w fun u_5 w_1 => AsT2 Value.pointer Value.bool u_5 fun v_3 v_4 =>
  CallF Try.prog 150 #[(.string name1)] w_1 fun u_13 w_5 => As Value.bool u_13 fun v_14 =>
  IfB (!v_14) (
    model_Model_add_k0 R m0 name1 v2 code3 v_4 true w_5) (
    NotNil v2 fun p_15 =>
    Ld (Value.int .i64) (some (p_15.add 0)) w_5 fun v_16 =>
    IfB (decide (v_16 < 0)) (
      model_Model_add_k0 R m0 name1 v2 code3 v_4 true w_5) (
      NotNil v2 fun p_17 =>
      Ld (Value.int .i64) (some (p_17.add 0)) w_5 fun v_18 =>
      model_Model_add_k0 R m0 name1 v2 code3 v_4 (decide (1048576 < v_18)) w_5))

theorem model_Model_add_ok (R : Value → World → Prop) (m0 : Option Addr) (name1 : ByteArray) (v2 : Option Addr) (code3 : Int) (w : World) (H : model_Model_add R m0 name1 v2 code3 w) : CallF Try.prog 92 #[(.pointer m0), (.string name1), (.pointer v2), (.int .i64 code3)] w R := by
  refine calls_of_runs (fn := Try.f92) Try.func92 rfl (Nat.le_of_ble_eq_true rfl) ?_
  show Runs _ _ 61 _ _ _ _
  unfold model_Model_add at H
  refine r_upd (i := 0) (v := (.pointer m0)) rfl ?_
  refine r_upd (i := 1) (v := (.string name1)) rfl ?_
  refine r_upd (i := 2) (v := (.pointer v2)) rfl ?_
  refine r_upd (i := 3) (v := (.int .i64 code3)) rfl ?_
  refine r_seq ?_
  refine r_region ?_
  refine xo_pure (v := (.int .i64 0)) rfl (wanted_none rfl _) (p_assign rfl rfl) ?_
  refine xo_end ?_
  refine r_seq ?_
  refine r_region ?_
  refine xo_pure (v := (.pointer m0)) rfl (wanted_none rfl _) (p_move rfl rfl) ?_
  obtain ⟨p_1, hpp_1, H⟩ := H
  refine xo_pure (v := (.pointer (some p_1))) rfl (wanted_none rfl _) (p_nilCheck rfl rfl hpp_1) ?_
  refine xo_pure (v := (.pointer (some (p_1.add 0)))) rfl (wanted_none rfl _) (p_fieldAddr (off := 0) (ft := 163) (size := 1) rfl Try.underlying165 rfl Try.ti163 (by decide) rfl rfl) ?_
  obtain ⟨adv_2, v_2, hev_2, hcv_2, H⟩ := H
  refine xo_read (v := (.map v_2)) rfl (wanted_none rfl _) (rd_load (ad := adv_2) rfl Try.underlying163 rfl (by show Value.pointer _ = _; rw [hev_2]) hcv_2) ?_
  refine xo_pure (v := (.string name1)) rfl (wanted_none rfl _) (p_move rfl rfl) ?_
  refine xo_eff rfl (wanted_none rfl _) (e_genV (s := Instr.lookup 163 (.map v_2) (.string name1) true) rfl H) ?_
  rintro _ w_1 ⟨v_3, v_4, rfl, H⟩
  refine xo_pure (v := (.tuple #[(.pointer v_3), (.bool v_4)])) rfl (wanted_none rfl _) (p_move rfl rfl) ?_
  refine xo_pure (v := (.pointer v_3)) rfl (wanted_none rfl _) (p_extract (vs := #[(.pointer v_3), (.bool v_4)]) rfl rfl rfl) ?_
  refine xo_pure (v := (.bool v_4)) rfl (wanted_none rfl _) (p_extract (vs := #[(.pointer v_3), (.bool v_4)]) rfl rfl rfl) ?_
  refine xo_pure (v := (.pointer v_3)) rfl (wanted_none rfl _) (p_assign rfl rfl) ?_
  refine xo_pure (v := (.bool v_4)) rfl (wanted_none rfl _) (p_assign rfl rfl) ?_
  refine xo_end ?_
  refine r_seq ?_
  refine r_block ?_
  refine r_seq ?_
  refine r_topJ (fun (s : Option Addr × ByteArray × Option Addr × Int × Bool × Bool) σ => upd 20 (.bool s.2.2.2.2.2) (upd 10 (.bool s.2.2.2.2.1) (upd 3 (.int .i64 s.2.2.2.1) (upd 2 (.pointer s.2.2.1) (upd 1 (.string s.2.1) (upd 0 (.pointer s.1) (σ))))))) (fun (s : Option Addr × ByteArray × Option Addr × Int × Bool × Bool) w => model_Model_add_k0 R s.1 s.2.1 s.2.2.1 s.2.2.2.1 s.2.2.2.2.1 s.2.2.2.2.2 w) ?_ ?_
  · rintro ⟨m0, name1, v2, code3, there10, t20⟩ σ w H
    replace H : model_Model_add_k0 R m0 name1 v2 code3 there10 t20 w := H
    show Runs _ _ _ _ _ (upd 20 (.bool t20) (upd 10 (.bool there10) (upd 3 (.int .i64 code3) (upd 2 (.pointer v2) (upd 1 (.string name1) (upd 0 (.pointer m0) (σ))))))) _
    unfold model_Model_add_k0 at H
    refine r_condB (b := t20) rfl H ?_ ?_
    · clear H; intro hb2 H
      refine r_seq ?_
      refine r_region ?_
      refine xo_pure (v := (.int .i64 1)) rfl (wanted_none rfl _) (p_assign rfl rfl) ?_
      refine xo_end ?_
      exact r_ret (fn := Try.f92) Try.func92 (res_1 rfl ⟨by decide, rfl⟩) H
    · clear H; intro hb2 H
      refine r_seq ?_
      refine r_region ?_
      refine xo_pure (v := (.int .i64 code3)) rfl (wanted_none rfl _) (p_move rfl rfl) ?_
      refine xo_pure (v := (.bool (!decide (code3 = 0)))) rfl (wanted_none rfl _) (p_ne rfl rfl rfl) ?_
      refine xo_pure (v := (.bool (!decide (code3 = 0)))) rfl (wanted_none rfl _) (p_assign rfl rfl) ?_
      refine xo_end ?_
      refine r_condB (b := (!decide (code3 = 0))) rfl H ?_ ?_
      · clear H; intro hb3 H
        refine r_seq ?_
        refine r_region ?_
        refine xo_pure (v := (.int .i64 code3)) rfl (wanted_none rfl _) (p_move rfl rfl) ?_
        refine xo_pure (v := (.int .i64 code3)) rfl (wanted_none rfl _) (p_assign rfl rfl) ?_
        refine xo_end ?_
        exact r_ret (fn := Try.f92) Try.func92 (res_1 rfl ⟨by decide, rfl⟩) H
      · clear H; intro hb3 H
        refine r_seq ?_
        refine r_region ?_
        refine xo_pure (v := (.bool there10)) rfl (wanted_none rfl _) (p_move rfl rfl) ?_
        refine xo_pure (v := (.bool there10)) rfl (wanted_none rfl _) (p_assign rfl rfl) ?_
        refine xo_end ?_
        refine r_condB (b := there10) rfl H ?_ ?_
        · clear H; intro hb4 H
          refine r_seq ?_
          refine r_region ?_
          refine xo_pure (v := (.int .i64 6)) rfl (wanted_none rfl _) (p_assign rfl rfl) ?_
          refine xo_end ?_
          exact r_ret (fn := Try.f92) Try.func92 (res_1 rfl ⟨by decide, rfl⟩) H
        · clear H; intro hb4 H
          refine r_seq ?_
          refine r_draw #[[], [0], [0, 1], [0, 1, 2], [0, 1, 2, 3], [], [5], [5, 6], [5, 6, 7], [0, 1, 2, 3, 4, 5, 6, 7, 8], [0, 1, 2, 3, 4, 5, 6, 7, 8, 9]] 11 rfl rfl ?_
          refine xa_pure (v := (.pointer v2)) 0 (by decide +kernel) rfl rfl (wanted_none rfl _) (p_move rfl rfl) ?_
          obtain ⟨p_6, hpp_6, H⟩ := H
          refine xa_pure (v := (.pointer (some p_6))) 1 (by decide +kernel) rfl rfl (wanted_none rfl _) (p_nilCheck rfl rfl hpp_6) ?_
          refine xa_pure (v := (.pointer (some (p_6.add 2)))) 2 (by decide +kernel) rfl rfl (wanted_none rfl _) (p_fieldAddr (off := 2) (ft := 168) (size := 1) rfl Try.underlying170 rfl Try.ti168 (by decide) rfl rfl) ?_
          obtain ⟨adv_7, v_7, hev_7, hcv_7, H⟩ := H
          refine xa_read (v := (.map v_7)) (S := (fun w => w.cell? adv_7 = some (.map v_7))) 3 (by decide +kernel) rfl rfl (wanted_none rfl _) (fun w hc => rd_load (ad := adv_7) rfl Try.underlying168 rfl (by show Value.pointer _ = _; rw [hev_7]) hc) hcv_7 ?_
          refine xa_pure (v := (.pointer v2)) 5 (by decide +kernel) rfl rfl (wanted_none rfl _) (p_move rfl rfl) ?_
          obtain ⟨p_8, hpp_8, H⟩ := H
          refine xa_pure (v := (.pointer (some p_8))) 6 (by decide +kernel) rfl rfl (wanted_none rfl _) (p_nilCheck rfl rfl hpp_8) ?_
          refine xa_pure (v := (.pointer (some (p_8.add 0)))) 7 (by decide +kernel) rfl rfl (wanted_none rfl _) (p_fieldAddr (off := 0) (ft := 3) (size := 1) rfl Try.underlying170 rfl Try.ti3 (by decide) rfl rfl) ?_
          obtain ⟨adv_9, v_9, hev_9, hcv_9, H⟩ := H
          refine xa_read (v := (.int .i64 v_9)) (S := (fun w => w.cell? adv_9 = some (.int .i64 v_9))) 8 (by decide +kernel) rfl rfl (wanted_none rfl _) (fun w hc => rd_load (ad := adv_9) rfl Try.underlying3 rfl (by show Value.pointer _ = _; rw [hev_9]) hc) hcv_9 ?_
          refine xa_eff 4 [(8, (fun w => w.cell? adv_9 = some (.int .i64 v_9)))] (by decide +kernel) rfl rfl rfl (wanted_none rfl _) (e_bi (b := .len) (enc := Value.int .i64) H rfl rfl rfl) ?_
          rintro _ w_3 ⟨v_10, rfl, H⟩
          obtain ⟨hk4_8, H⟩ := H
          refine ⟨(.cons hk4_8 AllHeld.nil), ?_⟩
          refine xa_pure (v := (.bool (decide (v_9 < v_10)))) 9 (by decide +kernel) rfl rfl (wanted_none rfl _) (p_gt rfl rfl rfl) ?_
          refine xa_pure (v := (.bool (decide (v_9 < v_10)))) 10 (by decide +kernel) rfl rfl (wanted_none rfl _) (p_assign rfl rfl) ?_
          refine xa_end (by decide +kernel) ?_
          refine r_condB (b := (decide (v_9 < v_10))) rfl H ?_ ?_
          · clear H; intro hb5 H
            refine r_seq ?_
            refine r_region ?_
            refine xo_pure (v := (.int .i64 8)) rfl (wanted_none rfl _) (p_assign rfl rfl) ?_
            refine xo_end ?_
            exact r_ret (fn := Try.f92) Try.func92 (res_1 rfl ⟨by decide, rfl⟩) H
          · clear H; intro hb5 H
            refine r_skip ?_
            refine r_inBlock ?_
            refine r_seq ?_
            refine r_region ?_
            refine xo_pure (v := (.pointer m0)) rfl (wanted_none rfl _) (p_move rfl rfl) ?_
            obtain ⟨p_11, hpp_11, H⟩ := H
            refine xo_pure (v := (.pointer (some p_11))) rfl (wanted_none rfl _) (p_nilCheck rfl rfl hpp_11) ?_
            refine xo_pure (v := (.pointer (some (p_11.add 0)))) rfl (wanted_none rfl _) (p_fieldAddr (off := 0) (ft := 163) (size := 1) rfl Try.underlying165 rfl Try.ti163 (by decide) rfl rfl) ?_
            obtain ⟨adv_12, v_12, hev_12, hcv_12, H⟩ := H
            refine xo_read (v := (.map v_12)) rfl (wanted_none rfl _) (rd_load (ad := adv_12) rfl Try.underlying163 rfl (by show Value.pointer _ = _; rw [hev_12]) hcv_12) ?_
            refine xo_pure (v := (.string name1)) rfl (wanted_none rfl _) (p_move rfl rfl) ?_
            refine xo_pure (v := (.pointer v2)) rfl (wanted_none rfl _) (p_move rfl rfl) ?_
            refine xo_effN rfl (wanted_none rfl _) (e_genU rfl H) ?_
            intro _ w_4 H
            refine xo_end ?_
            refine r_seq ?_
            refine r_region ?_
            refine xo_pure (v := (.int .i64 0)) rfl (wanted_none rfl _) (p_assign rfl rfl) ?_
            refine xo_end ?_
            exact r_ret (fn := Try.f92) Try.func92 (res_1 rfl ⟨by decide, rfl⟩) H
  · intro J1
    refine r_region ?_
    refine xo_pure (v := (.string name1)) rfl (wanted_none rfl _) (p_move rfl rfl) ?_
    refine xo_eff rfl (wanted_none rfl _) (e_call (fn := Try.f150) H rfl rfl Try.func150 rfl rfl rfl) ?_
    rintro _ w_5 ⟨v_14, rfl, H⟩
    refine xo_pure (v := (.bool (!v_14))) rfl (wanted_none rfl _) (p_not rfl rfl) ?_
    refine xo_pure (v := (.bool (!v_14))) rfl (wanted_none rfl _) (p_move rfl rfl) ?_
    refine ifB_cases H ?_ ?_
    · clear H; intro hb6 H
      refine xo_skip rfl (wanted_no (d := 24) rfl rfl (by decide) rfl hb6) ?_
      refine xo_skip rfl (wanted_no (d := 24) rfl rfl (by decide) rfl hb6) ?_
      refine xo_skip rfl (wanted_no (d := 24) rfl rfl (by decide) rfl hb6) ?_
      refine xo_skip rfl (wanted_no (d := 24) rfl rfl (by decide) rfl hb6) ?_
      refine xo_skip rfl (wanted_no (d := 24) rfl rfl (by decide) rfl hb6) ?_
      refine xo_pure (v := (.bool true)) rfl (wanted_none rfl _) (p_pickT rfl rfl hb6 rfl) ?_
      refine xo_pure (v := (.bool true)) rfl (wanted_none rfl _) (p_move rfl rfl) ?_
      refine xo_skip rfl (wanted_no (d := 31) rfl rfl (by decide) rfl rfl) ?_
      refine xo_skip rfl (wanted_no (d := 31) rfl rfl (by decide) rfl rfl) ?_
      refine xo_skip rfl (wanted_no (d := 31) rfl rfl (by decide) rfl rfl) ?_
      refine xo_skip rfl (wanted_no (d := 31) rfl rfl (by decide) rfl rfl) ?_
      refine xo_skip rfl (wanted_no (d := 31) rfl rfl (by decide) rfl rfl) ?_
      refine xo_pure (v := (.bool true)) rfl (wanted_none rfl _) (p_pickT rfl rfl rfl rfl) ?_
      refine xo_pure (v := (.bool true)) rfl (wanted_none rfl _) (p_assign rfl rfl) ?_
      refine xo_end ?_
      refine r_upd (i := 0) (v := (.pointer m0)) rfl ?_
      refine r_upd (i := 1) (v := (.string name1)) rfl ?_
      refine r_upd (i := 2) (v := (.pointer v2)) rfl ?_
      refine r_upd (i := 3) (v := (.int .i64 code3)) rfl ?_
      refine r_upd (i := 10) (v := (.bool v_4)) rfl ?_
      refine r_upd (i := 20) (v := (.bool true)) rfl ?_
      exact J1 (m0, name1, v2, code3, v_4, true) _ _ H
    · clear H; intro hb6 H
      refine xo_pure (v := (.pointer v2)) rfl (wanted_yes (d := 24) rfl rfl (by decide) rfl hb6) (p_move rfl rfl) ?_
      obtain ⟨p_15, hpp_15, H⟩ := H
      refine xo_pure (v := (.pointer (some p_15))) rfl (wanted_yes (d := 24) rfl rfl (by decide) rfl hb6) (p_nilCheck rfl rfl hpp_15) ?_
      refine xo_pure (v := (.pointer (some (p_15.add 0)))) rfl (wanted_yes (d := 24) rfl rfl (by decide) rfl hb6) (p_fieldAddr (off := 0) (ft := 3) (size := 1) rfl Try.underlying170 rfl Try.ti3 (by decide) rfl rfl) ?_
      obtain ⟨adv_16, v_16, hev_16, hcv_16, H⟩ := H
      refine xo_read (v := (.int .i64 v_16)) rfl (wanted_yes (d := 24) rfl rfl (by decide) rfl hb6) (rd_load (ad := adv_16) rfl Try.underlying3 rfl (by show Value.pointer _ = _; rw [hev_16]) hcv_16) ?_
      refine xo_pure (v := (.bool (decide (v_16 < 0)))) rfl (wanted_yes (d := 24) rfl rfl (by decide) rfl hb6) (p_lt rfl rfl rfl) ?_
      refine xo_pure (v := (.bool (decide (v_16 < 0)))) rfl (wanted_none rfl _) (p_pickF rfl rfl hb6 rfl) ?_
      refine xo_pure (v := (.bool (decide (v_16 < 0)))) rfl (wanted_none rfl _) (p_move rfl rfl) ?_
      refine ifB_cases H ?_ ?_
      · clear H; intro hb7 H
        refine xo_skip rfl (wanted_no (d := 31) rfl rfl (by decide) rfl hb7) ?_
        refine xo_skip rfl (wanted_no (d := 31) rfl rfl (by decide) rfl hb7) ?_
        refine xo_skip rfl (wanted_no (d := 31) rfl rfl (by decide) rfl hb7) ?_
        refine xo_skip rfl (wanted_no (d := 31) rfl rfl (by decide) rfl hb7) ?_
        refine xo_skip rfl (wanted_no (d := 31) rfl rfl (by decide) rfl hb7) ?_
        refine xo_pure (v := (.bool true)) rfl (wanted_none rfl _) (p_pickT rfl rfl hb7 rfl) ?_
        refine xo_pure (v := (.bool true)) rfl (wanted_none rfl _) (p_assign rfl rfl) ?_
        refine xo_end ?_
        refine r_upd (i := 0) (v := (.pointer m0)) rfl ?_
        refine r_upd (i := 1) (v := (.string name1)) rfl ?_
        refine r_upd (i := 2) (v := (.pointer v2)) rfl ?_
        refine r_upd (i := 3) (v := (.int .i64 code3)) rfl ?_
        refine r_upd (i := 10) (v := (.bool v_4)) rfl ?_
        refine r_upd (i := 20) (v := (.bool true)) rfl ?_
        exact J1 (m0, name1, v2, code3, v_4, true) _ _ H
      · clear H; intro hb7 H
        refine xo_pure (v := (.pointer v2)) rfl (wanted_yes (d := 31) rfl rfl (by decide) rfl hb7) (p_move rfl rfl) ?_
        obtain ⟨p_17, hpp_17, H⟩ := H
        refine xo_pure (v := (.pointer (some p_17))) rfl (wanted_yes (d := 31) rfl rfl (by decide) rfl hb7) (p_nilCheck rfl rfl hpp_17) ?_
        refine xo_pure (v := (.pointer (some (p_17.add 0)))) rfl (wanted_yes (d := 31) rfl rfl (by decide) rfl hb7) (p_fieldAddr (off := 0) (ft := 3) (size := 1) rfl Try.underlying170 rfl Try.ti3 (by decide) rfl rfl) ?_
        obtain ⟨adv_18, v_18, hev_18, hcv_18, H⟩ := H
        refine xo_read (v := (.int .i64 v_18)) rfl (wanted_yes (d := 31) rfl rfl (by decide) rfl hb7) (rd_load (ad := adv_18) rfl Try.underlying3 rfl (by show Value.pointer _ = _; rw [hev_18]) hcv_18) ?_
        refine xo_pure (v := (.bool (decide (1048576 < v_18)))) rfl (wanted_yes (d := 31) rfl rfl (by decide) rfl hb7) (p_gt rfl rfl rfl) ?_
        refine xo_pure (v := (.bool (decide (1048576 < v_18)))) rfl (wanted_none rfl _) (p_pickF rfl rfl hb7 rfl) ?_
        refine xo_pure (v := (.bool (decide (1048576 < v_18)))) rfl (wanted_none rfl _) (p_assign rfl rfl) ?_
        refine xo_end ?_
        refine r_upd (i := 0) (v := (.pointer m0)) rfl ?_
        refine r_upd (i := 1) (v := (.string name1)) rfl ?_
        refine r_upd (i := 2) (v := (.pointer v2)) rfl ?_
        refine r_upd (i := 3) (v := (.int .i64 code3)) rfl ?_
        refine r_upd (i := 10) (v := (.bool v_4)) rfl ?_
        refine r_upd (i := 20) (v := (.bool (decide (1048576 < v_18)))) rfl ?_
        exact J1 (m0, name1, v2, code3, v_4, (decide (1048576 < v_18))) _ _ H

/-! 93 (*sporran/model.Model).block -/
def model_Model_block_k1 (R : Value → World → Prop) (a4 : Option Addr) (w : World) : Prop :=
  LdN 51 a4 w fun v_9 =>
  StN 51 a4 v_9 w fun w_5 =>
  LdN 51 a4 w_5 fun r_10 =>
  R (.agg r_10) w_5

def model_Model_block_k2 (R : Value → World → Prop) (o3 : Option Addr) (a4 : Option Addr) (v5 : Option Addr) (t54 : Bool) (w : World) : Prop :=
  IfB t54 (
    Built #[(0, 1), (1, 1), (2, 48), (50, 1)] Try.z73 [(0, (.int .i64 8))] fun c_23 =>
    StN 51 a4 c_23 w fun w_9 =>
    LdN 51 a4 w_9 fun r_24 =>
    R (.agg r_24) w_9) (
    NotNil v5 fun p_25 =>
    Ld Value.map (some (p_25.add 2)) (World.drew w) fun v_26 =>
    NotNil o3 fun p_27 =>
    Ld (Value.int .i64) (some (p_27.add 3)) (World.drew w) fun v_28 =>
    NotNil o3 fun p_29 =>
    LdN 48 (some (p_29.add 5)) (World.drew w) fun v_30 =>
    EfU Try.prog (Instr.mapUpdate 168 (.map v_26) (.int .i64 v_28) (.agg v_30)) (World.drew w) fun w_11 =>
    model_Model_block_k1 R a4 w_11)

def model_Model_block_k0 (R : Value → World → Prop) (o3 : Option Addr) (a4 : Option Addr) (v5 : Option Addr) (b7 : Option Addr) (there8 : Bool) (w : World) : Prop :=
  NotNil o3 fun p_11 =>
  Ld (Value.int .i64) (some (p_11.add 0)) w fun v_12 =>
  IfB (decide (v_12 = 5)) (
    LdN 48 b7 w fun v_13 =>
    Built #[(0, 1), (1, 1), (2, 48), (50, 1)] Try.z73 [(1, (.bool there8)), (2, (.agg v_13))] fun c_14 =>
    StN 51 a4 c_14 w fun w_6 =>
    LdN 51 a4 w_6 fun r_15 =>
    R (.agg r_15) w_6) (
    NotNil o3 fun p_16 =>
    Ld (Value.int .i64) (some (p_16.add 0)) w fun v_17 =>
    IfB (decide (v_17 = 4)) (
      NotNil v5 fun p_18 =>
      Ld Value.map (some (p_18.add 2)) (World.drew w) fun v_19 =>
      NotNil o3 fun p_20 =>
      Ld (Value.int .i64) (some (p_20.add 3)) (World.drew w) fun v_21 =>
      Ef Try.prog (Builtin.delete_ #[168, 3] 0 #[(.map v_19), (.int .i64 v_21)]) id (World.drew w) fun v_22 w_8 =>
      model_Model_block_k1 R a4 w_8) (
      IfB (!there8) (
        NotNil v5 fun p_31 =>
        Ld Value.map (some (p_31.add 2)) (World.drew w) fun v_32 =>
        NotNil v5 fun p_33 =>
        LdH (Value.int .i64) (some (p_33.add 0)) (World.drew w) fun adv_34 v_34 =>
        Ef Try.prog (Builtin.len_ #[168] 3 #[(.map v_32)]) (Value.int .i64) (World.drew w) fun v_35 w_13 =>
        ((w_13).cell? adv_34 = some (.int .i64 v_34)) ∧
        model_Model_block_k2 R o3 a4 v5 (decide (v_34 ≤ v_35)) w_13) (
        model_Model_block_k2 R o3 a4 v5 false (World.drew w))))

def model_Model_block (R : Value → World → Prop) (m0 : Option Addr) (o1 : Array Value) (w : World) : Prop :=
  New o1 67 w fun a_1 w_1 =>
  New Try.z73 73 w_1 fun a_2 w_2 =>
  LdN 53 (some a_1) w_2 fun v_3 =>
  CallF Try.prog 151 #[(.pointer m0), (.agg v_3)] w_2 fun u_4 w_3 => AsT2 Value.pointer (Value.int .i64) u_4 fun v_5 v_6 =>
  IfB (!decide (v_6 = 0)) (
    Built #[(0, 1), (1, 1), (2, 48), (50, 1)] Try.z73 [(0, (.int .i64 v_6))] fun c_7 =>
    StN 51 (some a_2) c_7 w_3 fun w_4 =>
    LdN 51 (some a_2) w_4 fun r_8 =>
    R (.agg r_8) w_4) (
    NotNil v_5 fun p_36 =>
    LdH Value.map (some (p_36.add 2)) (World.drew w_3) fun adv_37 v_37 =>
    LdH (Value.int .i64) (some (a_1.add 3)) (World.drew w_3) fun adv_38 v_38 =>
    (
      Ef Try.prog (Instr.lookup 168 (.map v_37) (.int .i64 v_38) true) id (World.drew w_3) fun u_41 w_15 => AsT2 Value.agg Value.bool u_41 fun v_39 v_40 =>
      New Try.z65 65 w_15 fun a_42 w_16 =>
      StN 48 (some a_42) v_39 w_16 fun w_17 =>
      model_Model_block_k0 R (some a_1) (some a_2) v_5 (some a_42) v_40 w_17) ∧ (
      New Try.z65 65 (World.drew w_3) fun a_43 w_18 =>
      ((w_18).cell? adv_38 = some (.int .i64 v_38)) ∧
      ((w_18).cell? adv_37 = some (.map v_37)) ∧
      Ef Try.prog (Instr.lookup 168 (.map v_37) (.int .i64 v_38) true) id w_18 fun u_46 w_19 => AsT2 Value.agg Value.bool u_46 fun v_44 v_45 =>
      StN 48 (some a_43) v_44 w_19 fun w_20 =>
      model_Model_block_k0 R (some a_1) (some a_2) v_5 (some a_43) v_45 w_20))

theorem model_Model_block_ok (R : Value → World → Prop) (m0 : Option Addr) (o1 : Array Value) (w : World) (H : model_Model_block R m0 o1 w) : CallF Try.prog 93 #[(.pointer m0), (.agg o1)] w R := by
  refine calls_of_runs (fn := Try.f93) Try.func93 rfl (Nat.le_of_ble_eq_true rfl) ?_
  show Runs _ _ 71 _ _ _ _
  unfold model_Model_block at H
  refine r_upd (i := 0) (v := (.pointer m0)) rfl ?_
  refine r_upd (i := 1) (v := (.agg o1)) rfl ?_
  refine r_seq ?_
  refine r_region ?_
  refine xo_eff rfl (wanted_none rfl _) (e_box (v := (.agg o1)) rfl rfl H) ?_
  rintro _ w_1 ⟨a_1, rfl, H⟩
  refine xo_eff rfl (wanted_none rfl _) (e_alloc rfl Try.ti73 H) ?_
  rintro _ w_2 ⟨a_2, rfl, H⟩
  refine xo_end ?_
  refine r_seq ?_
  refine r_region ?_
  refine xo_pure (v := (.pointer m0)) rfl (wanted_none rfl _) (p_move rfl rfl) ?_
  obtain ⟨adv_3, v_3, hev_3, hnv_3, hcv_3, H⟩ := H
  refine xo_read (v := (.agg v_3)) rfl (wanted_none rfl _) (rd_loadN (ad := adv_3) rfl Try.underlying67 rfl Try.ti67 (by show Value.pointer _ = _; rw [hev_3]) hnv_3 hcv_3) ?_
  refine xo_eff rfl (wanted_none rfl _) (e_call (fn := Try.f151) H rfl rfl Try.func151 rfl rfl rfl) ?_
  rintro _ w_3 ⟨v_5, v_6, rfl, H⟩
  refine xo_pure (v := (.tuple #[(.pointer v_5), (.int .i64 v_6)])) rfl (wanted_none rfl _) (p_move rfl rfl) ?_
  refine xo_pure (v := (.pointer v_5)) rfl (wanted_none rfl _) (p_extract (vs := #[(.pointer v_5), (.int .i64 v_6)]) rfl rfl rfl) ?_
  refine xo_pure (v := (.int .i64 v_6)) rfl (wanted_none rfl _) (p_extract (vs := #[(.pointer v_5), (.int .i64 v_6)]) rfl rfl rfl) ?_
  refine xo_pure (v := (.pointer v_5)) rfl (wanted_none rfl _) (p_assign rfl rfl) ?_
  refine xo_pure (v := (.int .i64 v_6)) rfl (wanted_none rfl _) (p_assign rfl rfl) ?_
  refine xo_end ?_
  refine r_seq ?_
  refine r_seq ?_
  refine r_region ?_
  refine xo_pure (v := (.int .i64 v_6)) rfl (wanted_none rfl _) (p_move rfl rfl) ?_
  refine xo_pure (v := (.bool (!decide (v_6 = 0)))) rfl (wanted_none rfl _) (p_ne rfl rfl rfl) ?_
  refine xo_end ?_
  refine r_condB (b := (!decide (v_6 = 0))) rfl H ?_ ?_
  · clear H; intro hb1 H
    refine r_seq ?_
    refine r_region ?_
    refine xo_pure (v := (.int .i64 v_6)) rfl (wanted_none rfl _) (p_move rfl rfl) ?_
    obtain ⟨c_7, hflc_7, H⟩ := H
    refine xo_pure (v := (.agg c_7)) rfl (wanted_none rfl _) (p_buildS (places := #[(0, 1), (1, 1), (2, 48), (50, 1)]) rfl Try.pl73 Try.ti73 hflc_7 rfl) ?_
    refine xo_effN rfl (wanted_none rfl _) (e_storeN rfl Try.ti73 rfl rfl H) ?_
    intro _ w_4 H
    refine xo_end ?_
    obtain ⟨adr_8, r_8, her_8, hnr_8, hrr_8, H⟩ := H
    exact r_ret (fn := Try.f93) Try.func93 (res_1 rfl (resV_cellN (by decide) (by show Value.pointer _ = _; rw [her_8]) Try.underlying73 rfl Try.ti73 hnr_8 hrr_8)) H
  · clear H; intro hb1 H
    refine r_skip ?_
    refine r_seq ?_
    refine r_topJ (fun (s : Option Addr × Option Addr × Option Addr × Option Addr × Bool) σ => upd 8 (.bool s.2.2.2.2) (upd 7 (.pointer s.2.2.2.1) (upd 5 (.pointer s.2.2.1) (upd 4 (.pointer s.2.1) (upd 3 (.pointer s.1) (σ)))))) (fun (s : Option Addr × Option Addr × Option Addr × Option Addr × Bool) w => model_Model_block_k0 R s.1 s.2.1 s.2.2.1 s.2.2.2.1 s.2.2.2.2 w) ?_ ?_
    · rintro ⟨o3, a4, v5, b7, there8⟩ σ w H
      replace H : model_Model_block_k0 R o3 a4 v5 b7 there8 w := H
      show Runs _ _ _ _ _ (upd 8 (.bool there8) (upd 7 (.pointer b7) (upd 5 (.pointer v5) (upd 4 (.pointer a4) (upd 3 (.pointer o3) (σ)))))) _
      unfold model_Model_block_k0 at H
      refine r_seqJ (fun (s : Option Addr) σ => upd 4 (.pointer s) (σ)) (fun (s : Option Addr) w => model_Model_block_k1 R s w) ?_ ?_
      · rintro a4 σ w H
        replace H : model_Model_block_k1 R a4 w := H
        show Runs _ _ _ _ _ (upd 4 (.pointer a4) (σ)) _
        unfold model_Model_block_k1 at H
        refine r_seq ?_
        refine r_region ?_
        obtain ⟨adv_9, v_9, hev_9, hnv_9, hcv_9, H⟩ := H
        refine xo_read (v := (.agg v_9)) rfl (wanted_none rfl _) (rd_loadN (ad := adv_9) rfl Try.underlying73 rfl Try.ti73 (by show Value.pointer _ = _; rw [hev_9]) hnv_9 hcv_9) ?_
        refine xo_effN rfl (wanted_none rfl _) (e_storeN rfl Try.ti73 rfl rfl H) ?_
        intro _ w_5 H
        refine xo_end ?_
        obtain ⟨adr_10, r_10, her_10, hnr_10, hrr_10, H⟩ := H
        exact r_ret (fn := Try.f93) Try.func93 (res_1 rfl (resV_cellN (by decide) (by show Value.pointer _ = _; rw [her_10]) Try.underlying73 rfl Try.ti73 hnr_10 hrr_10)) H
      · intro J3
        refine r_block ?_
        refine r_seq ?_
        refine r_region ?_
        obtain ⟨p_11, hpp_11, H⟩ := H
        refine xo_pure (v := (.pointer (some (p_11.add 0)))) rfl (wanted_none rfl _) (p_fieldAddr (off := 0) (ft := 3) (size := 1) rfl Try.underlying67 rfl Try.ti3 (by decide) rfl hpp_11) ?_
        obtain ⟨adv_12, v_12, hev_12, hcv_12, H⟩ := H
        refine xo_read (v := (.int .i64 v_12)) rfl (wanted_none rfl _) (rd_load (ad := adv_12) rfl Try.underlying3 rfl (by show Value.pointer _ = _; rw [hev_12]) hcv_12) ?_
        refine xo_pure (v := (.bool (decide (v_12 = 5)))) rfl (wanted_none rfl _) (p_eq rfl rfl rfl) ?_
        refine xo_pure (v := (.bool (decide (v_12 = 5)))) rfl (wanted_none rfl _) (p_assign rfl rfl) ?_
        refine xo_end ?_
        refine r_condB (b := (decide (v_12 = 5))) rfl H ?_ ?_
        · clear H; intro hb4 H
          refine r_seq ?_
          refine r_region ?_
          refine xo_pure (v := (.bool there8)) rfl (wanted_none rfl _) (p_move rfl rfl) ?_
          obtain ⟨adv_13, v_13, hev_13, hnv_13, hcv_13, H⟩ := H
          refine xo_read (v := (.agg v_13)) rfl (wanted_none rfl _) (rd_loadN (ad := adv_13) rfl Try.underlying65 rfl Try.ti65 (by show Value.pointer _ = _; rw [hev_13]) hnv_13 hcv_13) ?_
          obtain ⟨c_14, hflc_14, H⟩ := H
          refine xo_pure (v := (.agg c_14)) rfl (wanted_none rfl _) (p_buildS (places := #[(0, 1), (1, 1), (2, 48), (50, 1)]) rfl Try.pl73 Try.ti73 hflc_14 rfl) ?_
          refine xo_effN rfl (wanted_none rfl _) (e_storeN rfl Try.ti73 rfl rfl H) ?_
          intro _ w_6 H
          refine xo_end ?_
          obtain ⟨adr_15, r_15, her_15, hnr_15, hrr_15, H⟩ := H
          exact r_ret (fn := Try.f93) Try.func93 (res_1 rfl (resV_cellN (by decide) (by show Value.pointer _ = _; rw [her_15]) Try.underlying73 rfl Try.ti73 hnr_15 hrr_15)) H
        · clear H; intro hb4 H
          refine r_seq ?_
          refine r_region ?_
          obtain ⟨p_16, hpp_16, H⟩ := H
          refine xo_pure (v := (.pointer (some (p_16.add 0)))) rfl (wanted_none rfl _) (p_fieldAddr (off := 0) (ft := 3) (size := 1) rfl Try.underlying67 rfl Try.ti3 (by decide) rfl hpp_16) ?_
          obtain ⟨adv_17, v_17, hev_17, hcv_17, H⟩ := H
          refine xo_read (v := (.int .i64 v_17)) rfl (wanted_none rfl _) (rd_load (ad := adv_17) rfl Try.underlying3 rfl (by show Value.pointer _ = _; rw [hev_17]) hcv_17) ?_
          refine xo_pure (v := (.bool (decide (v_17 = 4)))) rfl (wanted_none rfl _) (p_eq rfl rfl rfl) ?_
          refine xo_pure (v := (.bool (decide (v_17 = 4)))) rfl (wanted_none rfl _) (p_assign rfl rfl) ?_
          refine xo_end ?_
          refine r_condB (b := (decide (v_17 = 4))) rfl H ?_ ?_
          · clear H; intro hb5 H
            refine r_draw #[[], [0], [0, 1], [0, 1, 2], [], [4], [0, 1, 2, 3, 4, 5]] 7 rfl rfl ?_
            refine xa_pure (v := (.pointer v5)) 0 (by decide +kernel) rfl rfl (wanted_none rfl _) (p_move rfl rfl) ?_
            obtain ⟨p_18, hpp_18, H⟩ := H
            refine xa_pure (v := (.pointer (some p_18))) 1 (by decide +kernel) rfl rfl (wanted_none rfl _) (p_nilCheck rfl rfl hpp_18) ?_
            refine xa_pure (v := (.pointer (some (p_18.add 2)))) 2 (by decide +kernel) rfl rfl (wanted_none rfl _) (p_fieldAddr (off := 2) (ft := 168) (size := 1) rfl Try.underlying170 rfl Try.ti168 (by decide) rfl rfl) ?_
            obtain ⟨adv_19, v_19, hev_19, hcv_19, H⟩ := H
            refine xa_read (v := (.map v_19)) (S := (fun w => w.cell? adv_19 = some (.map v_19))) 3 (by decide +kernel) rfl rfl (wanted_none rfl _) (fun w hc => rd_load (ad := adv_19) rfl Try.underlying168 rfl (by show Value.pointer _ = _; rw [hev_19]) hc) hcv_19 ?_
            obtain ⟨p_20, hpp_20, H⟩ := H
            refine xa_pure (v := (.pointer (some (p_20.add 3)))) 4 (by decide +kernel) rfl rfl (wanted_none rfl _) (p_fieldAddr (off := 3) (ft := 3) (size := 1) rfl Try.underlying67 rfl Try.ti3 (by decide) rfl hpp_20) ?_
            obtain ⟨adv_21, v_21, hev_21, hcv_21, H⟩ := H
            refine xa_read (v := (.int .i64 v_21)) (S := (fun w => w.cell? adv_21 = some (.int .i64 v_21))) 5 (by decide +kernel) rfl rfl (wanted_none rfl _) (fun w hc => rd_load (ad := adv_21) rfl Try.underlying3 rfl (by show Value.pointer _ = _; rw [hev_21]) hc) hcv_21 ?_
            refine xa_effN 6 [] (by decide +kernel) rfl rfl rfl (wanted_none rfl _) (e_biV (b := .delete) H rfl rfl rfl) ?_
            intro v_22 w_8 H
            refine ⟨AllHeld.nil, ?_⟩
            refine xa_end (by decide +kernel) ?_
            refine r_inBlock ?_
            refine r_upd (i := 4) (v := (.pointer a4)) rfl ?_
            exact J3 a4 _ _ H
          · clear H; intro hb5 H
            refine r_seq ?_
            refine r_topJ (fun (s : Option Addr × Option Addr × Option Addr × Bool) σ => upd 54 (.bool s.2.2.2) (upd 5 (.pointer s.2.2.1) (upd 4 (.pointer s.2.1) (upd 3 (.pointer s.1) (σ))))) (fun (s : Option Addr × Option Addr × Option Addr × Bool) w => model_Model_block_k2 R s.1 s.2.1 s.2.2.1 s.2.2.2 w) ?_ ?_
            · rintro ⟨o3, a4, v5, t54⟩ σ w H
              replace H : model_Model_block_k2 R o3 a4 v5 t54 w := H
              show Runs _ _ _ _ _ (upd 54 (.bool t54) (upd 5 (.pointer v5) (upd 4 (.pointer a4) (upd 3 (.pointer o3) (σ))))) _
              unfold model_Model_block_k2 at H
              refine r_condB (b := t54) rfl H ?_ ?_
              · clear H; intro hb7 H
                refine r_seq ?_
                refine r_region ?_
                obtain ⟨c_23, hflc_23, H⟩ := H
                refine xo_pure (v := (.agg c_23)) rfl (wanted_none rfl _) (p_buildS (places := #[(0, 1), (1, 1), (2, 48), (50, 1)]) rfl Try.pl73 Try.ti73 hflc_23 rfl) ?_
                refine xo_effN rfl (wanted_none rfl _) (e_storeN rfl Try.ti73 rfl rfl H) ?_
                intro _ w_9 H
                refine xo_end ?_
                obtain ⟨adr_24, r_24, her_24, hnr_24, hrr_24, H⟩ := H
                exact r_ret (fn := Try.f93) Try.func93 (res_1 rfl (resV_cellN (by decide) (by show Value.pointer _ = _; rw [her_24]) Try.underlying73 rfl Try.ti73 hnr_24 hrr_24)) H
              · clear H; intro hb7 H
                refine r_draw #[[], [0], [0, 1], [0, 1, 2], [], [4], [], [6], [0, 1, 2, 3, 4, 5, 6, 7]] 9 rfl rfl ?_
                refine xa_pure (v := (.pointer v5)) 0 (by decide +kernel) rfl rfl (wanted_none rfl _) (p_move rfl rfl) ?_
                obtain ⟨p_25, hpp_25, H⟩ := H
                refine xa_pure (v := (.pointer (some p_25))) 1 (by decide +kernel) rfl rfl (wanted_none rfl _) (p_nilCheck rfl rfl hpp_25) ?_
                refine xa_pure (v := (.pointer (some (p_25.add 2)))) 2 (by decide +kernel) rfl rfl (wanted_none rfl _) (p_fieldAddr (off := 2) (ft := 168) (size := 1) rfl Try.underlying170 rfl Try.ti168 (by decide) rfl rfl) ?_
                obtain ⟨adv_26, v_26, hev_26, hcv_26, H⟩ := H
                refine xa_read (v := (.map v_26)) (S := (fun w => w.cell? adv_26 = some (.map v_26))) 3 (by decide +kernel) rfl rfl (wanted_none rfl _) (fun w hc => rd_load (ad := adv_26) rfl Try.underlying168 rfl (by show Value.pointer _ = _; rw [hev_26]) hc) hcv_26 ?_
                obtain ⟨p_27, hpp_27, H⟩ := H
                refine xa_pure (v := (.pointer (some (p_27.add 3)))) 4 (by decide +kernel) rfl rfl (wanted_none rfl _) (p_fieldAddr (off := 3) (ft := 3) (size := 1) rfl Try.underlying67 rfl Try.ti3 (by decide) rfl hpp_27) ?_
                obtain ⟨adv_28, v_28, hev_28, hcv_28, H⟩ := H
                refine xa_read (v := (.int .i64 v_28)) (S := (fun w => w.cell? adv_28 = some (.int .i64 v_28))) 5 (by decide +kernel) rfl rfl (wanted_none rfl _) (fun w hc => rd_load (ad := adv_28) rfl Try.underlying3 rfl (by show Value.pointer _ = _; rw [hev_28]) hc) hcv_28 ?_
                obtain ⟨p_29, hpp_29, H⟩ := H
                refine xa_pure (v := (.pointer (some (p_29.add 5)))) 6 (by decide +kernel) rfl rfl (wanted_none rfl _) (p_fieldAddr (off := 5) (ft := 65) (size := 48) rfl Try.underlying67 rfl Try.ti65 (by decide) rfl hpp_29) ?_
                obtain ⟨adv_30, v_30, hev_30, hnv_30, hcv_30, H⟩ := H
                refine xa_read (v := (.agg v_30)) (S := (fun w => Row w adv_30 v_30)) 7 (by decide +kernel) rfl rfl (wanted_none rfl _) (fun w hc => rd_loadN (ad := adv_30) rfl Try.underlying65 rfl Try.ti65 (by show Value.pointer _ = _; rw [hev_30]) hnv_30 hc) hcv_30 ?_
                refine xa_effN 8 [] (by decide +kernel) rfl rfl rfl (wanted_none rfl _) (e_genU rfl H) ?_
                intro _ w_11 H
                refine ⟨AllHeld.nil, ?_⟩
                refine xa_end (by decide +kernel) ?_
                refine r_inBlock ?_
                refine r_upd (i := 4) (v := (.pointer a4)) rfl ?_
                exact J3 a4 _ _ H
            · intro J6
              refine r_draw #[[], [0], [0, 1], [0, 1, 2], [0, 1, 2, 3], [0, 1, 2, 3, 4], [0, 1, 2, 3, 4, 5], [0, 1, 2, 3, 4, 5, 6], [0, 1, 2], [0, 1, 2, 8], [0, 1, 2, 8, 9], [0, 1, 2, 8, 9, 10], [0, 1, 2, 3, 4, 5, 6, 7, 8, 9, 10, 11], [0, 1, 2, 3, 4, 5, 6, 7, 8, 9, 10, 11, 12], [0, 1, 2, 3, 4, 5, 6, 7, 8, 9, 10, 11, 12, 13]] 15 rfl rfl ?_
              refine xa_pure (v := (.bool there8)) 0 (by decide +kernel) rfl rfl (wanted_none rfl _) (p_move rfl rfl) ?_
              refine xa_pure (v := (.bool (!there8))) 1 (by decide +kernel) rfl rfl (wanted_none rfl _) (p_not rfl rfl) ?_
              refine xa_pure (v := (.bool (!there8))) 2 (by decide +kernel) rfl rfl (wanted_none rfl _) (p_move rfl rfl) ?_
              refine ifB_cases H ?_ ?_
              · clear H; intro hb8 H
                refine xa_pure (v := (.pointer v5)) 3 (by decide +kernel) rfl rfl (wanted_yes (d := 57) rfl rfl (by decide) rfl hb8) (p_move rfl rfl) ?_
                obtain ⟨p_31, hpp_31, H⟩ := H
                refine xa_pure (v := (.pointer (some p_31))) 4 (by decide +kernel) rfl rfl (wanted_yes (d := 57) rfl rfl (by decide) rfl hb8) (p_nilCheck rfl rfl hpp_31) ?_
                refine xa_pure (v := (.pointer (some (p_31.add 2)))) 5 (by decide +kernel) rfl rfl (wanted_yes (d := 57) rfl rfl (by decide) rfl hb8) (p_fieldAddr (off := 2) (ft := 168) (size := 1) rfl Try.underlying170 rfl Try.ti168 (by decide) rfl rfl) ?_
                obtain ⟨adv_32, v_32, hev_32, hcv_32, H⟩ := H
                refine xa_read (v := (.map v_32)) (S := (fun w => w.cell? adv_32 = some (.map v_32))) 6 (by decide +kernel) rfl rfl (wanted_yes (d := 57) rfl rfl (by decide) rfl hb8) (fun w hc => rd_load (ad := adv_32) rfl Try.underlying168 rfl (by show Value.pointer _ = _; rw [hev_32]) hc) hcv_32 ?_
                refine xa_pure (v := (.pointer v5)) 8 (by decide +kernel) rfl rfl (wanted_yes (d := 57) rfl rfl (by decide) rfl hb8) (p_move rfl rfl) ?_
                obtain ⟨p_33, hpp_33, H⟩ := H
                refine xa_pure (v := (.pointer (some p_33))) 9 (by decide +kernel) rfl rfl (wanted_yes (d := 57) rfl rfl (by decide) rfl hb8) (p_nilCheck rfl rfl hpp_33) ?_
                refine xa_pure (v := (.pointer (some (p_33.add 0)))) 10 (by decide +kernel) rfl rfl (wanted_yes (d := 57) rfl rfl (by decide) rfl hb8) (p_fieldAddr (off := 0) (ft := 3) (size := 1) rfl Try.underlying170 rfl Try.ti3 (by decide) rfl rfl) ?_
                obtain ⟨adv_34, v_34, hev_34, hcv_34, H⟩ := H
                refine xa_read (v := (.int .i64 v_34)) (S := (fun w => w.cell? adv_34 = some (.int .i64 v_34))) 11 (by decide +kernel) rfl rfl (wanted_yes (d := 57) rfl rfl (by decide) rfl hb8) (fun w hc => rd_load (ad := adv_34) rfl Try.underlying3 rfl (by show Value.pointer _ = _; rw [hev_34]) hc) hcv_34 ?_
                refine xa_eff 7 [(11, (fun w => w.cell? adv_34 = some (.int .i64 v_34)))] (by decide +kernel) rfl rfl rfl (wanted_yes (d := 57) rfl rfl (by decide) rfl hb8) (e_bi (b := .len) (enc := Value.int .i64) H rfl rfl rfl) ?_
                rintro _ w_13 ⟨v_35, rfl, H⟩
                obtain ⟨hk7_11, H⟩ := H
                refine ⟨(.cons hk7_11 AllHeld.nil), ?_⟩
                refine xa_pure (v := (.bool (decide (v_34 ≤ v_35)))) 12 (by decide +kernel) rfl rfl (wanted_yes (d := 57) rfl rfl (by decide) rfl hb8) (p_ge rfl rfl rfl) ?_
                refine xa_pure (v := (.bool (decide (v_34 ≤ v_35)))) 13 (by decide +kernel) rfl rfl (wanted_none rfl _) (p_pickT rfl rfl hb8 rfl) ?_
                refine xa_pure (v := (.bool (decide (v_34 ≤ v_35)))) 14 (by decide +kernel) rfl rfl (wanted_none rfl _) (p_assign rfl rfl) ?_
                refine xa_end (by decide +kernel) ?_
                refine r_upd (i := 3) (v := (.pointer o3)) rfl ?_
                refine r_upd (i := 4) (v := (.pointer a4)) rfl ?_
                refine r_upd (i := 5) (v := (.pointer v5)) rfl ?_
                refine r_upd (i := 54) (v := (.bool (decide (v_34 ≤ v_35)))) rfl ?_
                exact J6 (o3, a4, v5, (decide (v_34 ≤ v_35))) _ _ H
              · clear H; intro hb8 H
                refine xa_skip 3 (by decide +kernel) rfl rfl (wanted_no (d := 57) rfl rfl (by decide) rfl hb8) ?_
                refine xa_skip 4 (by decide +kernel) rfl rfl (wanted_no (d := 57) rfl rfl (by decide) rfl hb8) ?_
                refine xa_skip 5 (by decide +kernel) rfl rfl (wanted_no (d := 57) rfl rfl (by decide) rfl hb8) ?_
                refine xa_skip 6 (by decide +kernel) rfl rfl (wanted_no (d := 57) rfl rfl (by decide) rfl hb8) ?_
                refine xa_skip 8 (by decide +kernel) rfl rfl (wanted_no (d := 57) rfl rfl (by decide) rfl hb8) ?_
                refine xa_skip 9 (by decide +kernel) rfl rfl (wanted_no (d := 57) rfl rfl (by decide) rfl hb8) ?_
                refine xa_skip 10 (by decide +kernel) rfl rfl (wanted_no (d := 57) rfl rfl (by decide) rfl hb8) ?_
                refine xa_skip 11 (by decide +kernel) rfl rfl (wanted_no (d := 57) rfl rfl (by decide) rfl hb8) ?_
                refine xa_skip 7 (by decide +kernel) rfl rfl (wanted_no (d := 57) rfl rfl (by decide) rfl hb8) ?_
                refine xa_skip 12 (by decide +kernel) rfl rfl (wanted_no (d := 57) rfl rfl (by decide) rfl hb8) ?_
                refine xa_pure (v := (.bool false)) 13 (by decide +kernel) rfl rfl (wanted_none rfl _) (p_pickF rfl rfl hb8 rfl) ?_
                refine xa_pure (v := (.bool false)) 14 (by decide +kernel) rfl rfl (wanted_none rfl _) (p_assign rfl rfl) ?_
                refine xa_end (by decide +kernel) ?_
                refine r_upd (i := 3) (v := (.pointer o3)) rfl ?_
                refine r_upd (i := 4) (v := (.pointer a4)) rfl ?_
                refine r_upd (i := 5) (v := (.pointer v5)) rfl ?_
                refine r_upd (i := 54) (v := (.bool false)) rfl ?_
                exact J6 (o3, a4, v5, false) _ _ H
    · intro J2
      refine r_draw #[[], [0], [0, 1], [0, 1, 2], [], [4], [0, 1, 2, 3, 4, 5], [0, 1, 2, 3, 4, 5, 6], [0, 1, 2, 3, 4, 5, 6, 7], [0, 1, 2, 3, 4, 5, 6, 7], [], [0, 1, 2, 3, 4, 5, 6, 7, 8, 10], [0, 1, 2, 3, 4, 5, 6, 7, 8, 9, 10, 11]] 13 rfl rfl ?_
      refine xa_pure (v := (.pointer v_5)) 0 (by decide +kernel) rfl rfl (wanted_none rfl _) (p_move rfl rfl) ?_
      obtain ⟨p_36, hpp_36, H⟩ := H
      refine xa_pure (v := (.pointer (some p_36))) 1 (by decide +kernel) rfl rfl (wanted_none rfl _) (p_nilCheck rfl rfl hpp_36) ?_
      refine xa_pure (v := (.pointer (some (p_36.add 2)))) 2 (by decide +kernel) rfl rfl (wanted_none rfl _) (p_fieldAddr (off := 2) (ft := 168) (size := 1) rfl Try.underlying170 rfl Try.ti168 (by decide) rfl rfl) ?_
      obtain ⟨adv_37, v_37, hev_37, hcv_37, H⟩ := H
      refine xa_read (v := (.map v_37)) (S := (fun w => w.cell? adv_37 = some (.map v_37))) 3 (by decide +kernel) rfl rfl (wanted_none rfl _) (fun w hc => rd_load (ad := adv_37) rfl Try.underlying168 rfl (by show Value.pointer _ = _; rw [hev_37]) hc) hcv_37 ?_
      refine xa_pure (v := (.pointer (some (a_1.add 3)))) 4 (by decide +kernel) rfl rfl (wanted_none rfl _) (p_fieldAddr (off := 3) (ft := 3) (size := 1) rfl Try.underlying67 rfl Try.ti3 (by decide) rfl rfl) ?_
      obtain ⟨adv_38, v_38, hev_38, hcv_38, H⟩ := H
      refine xa_read (v := (.int .i64 v_38)) (S := (fun w => w.cell? adv_38 = some (.int .i64 v_38))) 5 (by decide +kernel) rfl rfl (wanted_none rfl _) (fun w hc => rd_load (ad := adv_38) rfl Try.underlying3 rfl (by show Value.pointer _ = _; rw [hev_38]) hc) hcv_38 ?_
      refine xa_two (i := 6) (j := 10) (by decide +kernel) ?_ ?_
      · replace H := H.1
        refine xone_eff 6 [] rfl rfl rfl (wanted_none rfl _) (e_genV (s := Instr.lookup 168 (.map v_37) (.int .i64 v_38) true) rfl H) ?_
        rintro _ w_15 ⟨v_39, v_40, rfl, H⟩
        refine ⟨AllHeld.nil, ?_⟩
        refine xa_pure (v := (.tuple #[(.agg v_39), (.bool v_40)])) 7 (by decide +kernel) rfl rfl (wanted_none rfl _) (p_move rfl rfl) ?_
        refine xa_pure (v := (.agg v_39)) 8 (by decide +kernel) rfl rfl (wanted_none rfl _) (p_extract (vs := #[(.agg v_39), (.bool v_40)]) rfl rfl rfl) ?_
        refine xa_pure (v := (.bool v_40)) 9 (by decide +kernel) rfl rfl (wanted_none rfl _) (p_extract (vs := #[(.agg v_39), (.bool v_40)]) rfl rfl rfl) ?_
        refine xa_eff 10 [] (by decide +kernel) rfl rfl rfl (wanted_none rfl _) (e_alloc rfl Try.ti65 H) ?_
        rintro _ w_16 ⟨a_42, rfl, H⟩
        refine ⟨AllHeld.nil, ?_⟩
        refine xa_effN 11 [] (by decide +kernel) rfl rfl rfl (wanted_none rfl _) (e_storeN rfl Try.ti65 rfl rfl H) ?_
        intro _ w_17 H
        refine ⟨AllHeld.nil, ?_⟩
        refine xa_pure (v := (.bool v_40)) 12 (by decide +kernel) rfl rfl (wanted_none rfl _) (p_assign rfl rfl) ?_
        refine xa_end (by decide +kernel) ?_
        refine r_upd (i := 3) (v := (.pointer (some a_1))) rfl ?_
        refine r_upd (i := 4) (v := (.pointer (some a_2))) rfl ?_
        refine r_upd (i := 5) (v := (.pointer v_5)) rfl ?_
        refine r_upd (i := 7) (v := (.pointer (some a_42))) rfl ?_
        refine r_upd (i := 8) (v := (.bool v_40)) rfl ?_
        exact J2 ((some a_1), (some a_2), v_5, (some a_42), v_40) _ _ H
      · replace H := H.2
        refine xone_eff 10 [(5, (fun w => w.cell? adv_38 = some (.int .i64 v_38))), (3, (fun w => w.cell? adv_37 = some (.map v_37)))] rfl rfl rfl (wanted_none rfl _) (e_alloc rfl Try.ti65 H) ?_
        rintro _ w_18 ⟨a_43, rfl, H⟩
        obtain ⟨hk10_5, hk10_3, H⟩ := H
        refine ⟨(.cons hk10_5 (.cons hk10_3 AllHeld.nil)), ?_⟩
        refine xa_eff 6 [] (by decide +kernel) rfl rfl rfl (wanted_none rfl _) (e_genV (s := Instr.lookup 168 (.map v_37) (.int .i64 v_38) true) rfl H) ?_
        rintro _ w_19 ⟨v_44, v_45, rfl, H⟩
        refine ⟨AllHeld.nil, ?_⟩
        refine xa_pure (v := (.tuple #[(.agg v_44), (.bool v_45)])) 7 (by decide +kernel) rfl rfl (wanted_none rfl _) (p_move rfl rfl) ?_
        refine xa_pure (v := (.agg v_44)) 8 (by decide +kernel) rfl rfl (wanted_none rfl _) (p_extract (vs := #[(.agg v_44), (.bool v_45)]) rfl rfl rfl) ?_
        refine xa_pure (v := (.bool v_45)) 9 (by decide +kernel) rfl rfl (wanted_none rfl _) (p_extract (vs := #[(.agg v_44), (.bool v_45)]) rfl rfl rfl) ?_
        refine xa_effN 11 [] (by decide +kernel) rfl rfl rfl (wanted_none rfl _) (e_storeN rfl Try.ti65 rfl rfl H) ?_
        intro _ w_20 H
        refine ⟨AllHeld.nil, ?_⟩
        refine xa_pure (v := (.bool v_45)) 12 (by decide +kernel) rfl rfl (wanted_none rfl _) (p_assign rfl rfl) ?_
        refine xa_end (by decide +kernel) ?_
        refine r_upd (i := 3) (v := (.pointer (some a_1))) rfl ?_
        refine r_upd (i := 4) (v := (.pointer (some a_2))) rfl ?_
        refine r_upd (i := 5) (v := (.pointer v_5)) rfl ?_
        refine r_upd (i := 7) (v := (.pointer (some a_43))) rfl ?_
        refine r_upd (i := 8) (v := (.bool v_45)) rfl ?_
        exact J2 ((some a_1), (some a_2), v_5, (some a_43), v_45) _ _ H

/-! 151 (*sporran/model.Model).find -/
def model_Model_find_k1 (R : Value → World → Prop) (v6 : Option Addr) (t30 : Bool) (w : World) : Prop :=
  IfB t30 (
    R (.tuple #[(.pointer none), (.int .i64 10)]) w) (
    R (.tuple #[(.pointer v6), (.int .i64 0)]) w)

def model_Model_find_k0 (R : Value → World → Prop) (o3 : Option Addr) (v6 : Option Addr) (t21 : Bool) (w : World) : Prop :=
  IfB t21 (
    R (.tuple #[(.pointer none), (.int .i64 2)]) w) (
    NotNil v6 fun p_8 =>
    Ld Value.bool (some (p_8.add 1)) w fun v_9 =>
    IfB v_9 (
      NotNil o3 fun p_10 =>
      Ld (Value.int .i64) (some (p_10.add 0)) w fun v_11 =>
      model_Model_find_k1 R v6 (!decide (v_11 = 5)) w) (
      model_Model_find_k1 R v6 false w))

def model_Model_find (R : Value → World → Prop) (m0 : Option Addr) (o1 : Array Value) (w : World) : Prop :=
  New o1 67 w fun a_1 w_1 =>
  NotNil m0 fun p_2 =>
  Ld Value.map (some (p_2.add 0)) (World.drew w_1) fun v_3 =>
  Ld Value.string (some (a_1.add 1)) (World.drew w_1) fun v_4 =>
  Ef Try.prog (Instr.lookup 163 (.map v_3) (.string v_4) true) id (World.drew w_1) fun u_7 w_3 => AsT2 Value.pointer Value.bool u_7 fun v_5 v_6 =>
  IfB (!v_6) (
    R (.tuple #[(.pointer none), (.int .i64 5)]) w_3) (
    Ld (Value.int .i64) (some (a_1.add 3)) w_3 fun v_12 =>
    IfB (decide (v_12 < 0)) (
      model_Model_find_k0 R (some a_1) v_5 true w_3) (
      Ld (Value.int .i64) (some (a_1.add 3)) w_3 fun v_13 =>
      model_Model_find_k0 R (some a_1) v_5 (decide (1048576 ≤ v_13)) w_3))

theorem model_Model_find_ok (R : Value → World → Prop) (m0 : Option Addr) (o1 : Array Value) (w : World) (H : model_Model_find R m0 o1 w) : CallF Try.prog 151 #[(.pointer m0), (.agg o1)] w R := by
  refine calls_of_runs (fn := Try.f151) Try.func151 rfl (Nat.le_of_ble_eq_true rfl) ?_
  show Runs _ _ 41 _ _ _ _
  unfold model_Model_find at H
  refine r_upd (i := 0) (v := (.pointer m0)) rfl ?_
  refine r_upd (i := 1) (v := (.agg o1)) rfl ?_
  refine r_seq ?_
  refine r_region ?_
  refine xo_eff rfl (wanted_none rfl _) (e_box (v := (.agg o1)) rfl rfl H) ?_
  rintro _ w_1 ⟨a_1, rfl, H⟩
  refine xo_pure (v := (.pointer none)) rfl (wanted_none rfl _) (p_assign rfl rfl) ?_
  refine xo_pure (v := (.int .i64 0)) rfl (wanted_none rfl _) (p_assign rfl rfl) ?_
  refine xo_end ?_
  refine r_seq ?_
  refine r_draw #[[], [0], [0, 1], [0, 1, 2], [], [4], [0, 1, 2, 3, 4, 5], [0, 1, 2, 3, 4, 5, 6], [0, 1, 2, 3, 4, 5, 6, 7], [0, 1, 2, 3, 4, 5, 6, 7], [0, 1, 2, 3, 4, 5, 6, 7, 8], [0, 1, 2, 3, 4, 5, 6, 7, 8, 9, 10]] 12 rfl rfl ?_
  refine xa_pure (v := (.pointer m0)) 0 (by decide +kernel) rfl rfl (wanted_none rfl _) (p_move rfl rfl) ?_
  obtain ⟨p_2, hpp_2, H⟩ := H
  refine xa_pure (v := (.pointer (some p_2))) 1 (by decide +kernel) rfl rfl (wanted_none rfl _) (p_nilCheck rfl rfl hpp_2) ?_
  refine xa_pure (v := (.pointer (some (p_2.add 0)))) 2 (by decide +kernel) rfl rfl (wanted_none rfl _) (p_fieldAddr (off := 0) (ft := 163) (size := 1) rfl Try.underlying165 rfl Try.ti163 (by decide) rfl rfl) ?_
  obtain ⟨adv_3, v_3, hev_3, hcv_3, H⟩ := H
  refine xa_read (v := (.map v_3)) (S := (fun w => w.cell? adv_3 = some (.map v_3))) 3 (by decide +kernel) rfl rfl (wanted_none rfl _) (fun w hc => rd_load (ad := adv_3) rfl Try.underlying163 rfl (by show Value.pointer _ = _; rw [hev_3]) hc) hcv_3 ?_
  refine xa_pure (v := (.pointer (some (a_1.add 1)))) 4 (by decide +kernel) rfl rfl (wanted_none rfl _) (p_fieldAddr (off := 1) (ft := 9) (size := 1) rfl Try.underlying67 rfl Try.ti9 (by decide) rfl rfl) ?_
  obtain ⟨adv_4, v_4, hev_4, hcv_4, H⟩ := H
  refine xa_read (v := (.string v_4)) (S := (fun w => w.cell? adv_4 = some (.string v_4))) 5 (by decide +kernel) rfl rfl (wanted_none rfl _) (fun w hc => rd_load (ad := adv_4) rfl Try.underlying9 rfl (by show Value.pointer _ = _; rw [hev_4]) hc) hcv_4 ?_
  refine xa_eff 6 [] (by decide +kernel) rfl rfl rfl (wanted_none rfl _) (e_genV (s := Instr.lookup 163 (.map v_3) (.string v_4) true) rfl H) ?_
  rintro _ w_3 ⟨v_5, v_6, rfl, H⟩
  refine ⟨AllHeld.nil, ?_⟩
  refine xa_pure (v := (.tuple #[(.pointer v_5), (.bool v_6)])) 7 (by decide +kernel) rfl rfl (wanted_none rfl _) (p_move rfl rfl) ?_
  refine xa_pure (v := (.pointer v_5)) 8 (by decide +kernel) rfl rfl (wanted_none rfl _) (p_extract (vs := #[(.pointer v_5), (.bool v_6)]) rfl rfl rfl) ?_
  refine xa_pure (v := (.bool v_6)) 9 (by decide +kernel) rfl rfl (wanted_none rfl _) (p_extract (vs := #[(.pointer v_5), (.bool v_6)]) rfl rfl rfl) ?_
  refine xa_pure (v := (.pointer v_5)) 10 (by decide +kernel) rfl rfl (wanted_none rfl _) (p_assign rfl rfl) ?_
  refine xa_pure (v := (.bool v_6)) 11 (by decide +kernel) rfl rfl (wanted_none rfl _) (p_assign rfl rfl) ?_
  refine xa_end (by decide +kernel) ?_
  refine r_seq ?_
  refine r_block ?_
  refine r_seq ?_
  refine r_region ?_
  refine xo_pure (v := (.bool v_6)) rfl (wanted_none rfl _) (p_move rfl rfl) ?_
  refine xo_pure (v := (.bool (!v_6))) rfl (wanted_none rfl _) (p_not rfl rfl) ?_
  refine xo_pure (v := (.bool (!v_6))) rfl (wanted_none rfl _) (p_assign rfl rfl) ?_
  refine xo_end ?_
  refine r_condB (b := (!v_6)) rfl H ?_ ?_
  · clear H; intro hb1 H
    refine r_seq ?_
    refine r_region ?_
    refine xo_pure (v := (.pointer none)) rfl (wanted_none rfl _) (p_assign rfl rfl) ?_
    refine xo_pure (v := (.int .i64 5)) rfl (wanted_none rfl _) (p_assign rfl rfl) ?_
    refine xo_end ?_
    exact r_ret (fn := Try.f151) Try.func151 (res_2 rfl ⟨by decide, rfl⟩ ⟨by decide, rfl⟩) H
  · clear H; intro hb1 H
    refine r_seq ?_
    refine r_topJ (fun (s : Option Addr × Option Addr × Bool) σ => upd 21 (.bool s.2.2) (upd 6 (.pointer s.2.1) (upd 3 (.pointer s.1) (σ)))) (fun (s : Option Addr × Option Addr × Bool) w => model_Model_find_k0 R s.1 s.2.1 s.2.2 w) ?_ ?_
    · rintro ⟨o3, v6, t21⟩ σ w H
      replace H : model_Model_find_k0 R o3 v6 t21 w := H
      show Runs _ _ _ _ _ (upd 21 (.bool t21) (upd 6 (.pointer v6) (upd 3 (.pointer o3) (σ)))) _
      unfold model_Model_find_k0 at H
      refine r_condB (b := t21) rfl H ?_ ?_
      · clear H; intro hb3 H
        refine r_seq ?_
        refine r_region ?_
        refine xo_pure (v := (.pointer none)) rfl (wanted_none rfl _) (p_assign rfl rfl) ?_
        refine xo_pure (v := (.int .i64 2)) rfl (wanted_none rfl _) (p_assign rfl rfl) ?_
        refine xo_end ?_
        exact r_ret (fn := Try.f151) Try.func151 (res_2 rfl ⟨by decide, rfl⟩ ⟨by decide, rfl⟩) H
      · clear H; intro hb3 H
        refine r_seq ?_
        refine r_topJ (fun (s : Option Addr × Bool) σ => upd 30 (.bool s.2) (upd 6 (.pointer s.1) (σ))) (fun (s : Option Addr × Bool) w => model_Model_find_k1 R s.1 s.2 w) ?_ ?_
        · rintro ⟨v6, t30⟩ σ w H
          replace H : model_Model_find_k1 R v6 t30 w := H
          show Runs _ _ _ _ _ (upd 30 (.bool t30) (upd 6 (.pointer v6) (σ))) _
          unfold model_Model_find_k1 at H
          refine r_condB (b := t30) rfl H ?_ ?_
          · clear H; intro hb5 H
            refine r_seq ?_
            refine r_region ?_
            refine xo_pure (v := (.pointer none)) rfl (wanted_none rfl _) (p_assign rfl rfl) ?_
            refine xo_pure (v := (.int .i64 10)) rfl (wanted_none rfl _) (p_assign rfl rfl) ?_
            refine xo_end ?_
            exact r_ret (fn := Try.f151) Try.func151 (res_2 rfl ⟨by decide, rfl⟩ ⟨by decide, rfl⟩) H
          · clear H; intro hb5 H
            refine r_skip ?_
            refine r_inBlock ?_
            refine r_seq ?_
            refine r_region ?_
            refine xo_pure (v := (.pointer v6)) rfl (wanted_none rfl _) (p_move rfl rfl) ?_
            refine xo_pure (v := (.pointer v6)) rfl (wanted_none rfl _) (p_assign rfl rfl) ?_
            refine xo_pure (v := (.int .i64 0)) rfl (wanted_none rfl _) (p_assign rfl rfl) ?_
            refine xo_end ?_
            exact r_ret (fn := Try.f151) Try.func151 (res_2 rfl ⟨by decide, rfl⟩ ⟨by decide, rfl⟩) H
        · intro J4
          refine r_region ?_
          refine xo_pure (v := (.pointer v6)) rfl (wanted_none rfl _) (p_move rfl rfl) ?_
          obtain ⟨p_8, hpp_8, H⟩ := H
          refine xo_pure (v := (.pointer (some p_8))) rfl (wanted_none rfl _) (p_nilCheck rfl rfl hpp_8) ?_
          refine xo_pure (v := (.pointer (some (p_8.add 1)))) rfl (wanted_none rfl _) (p_fieldAddr (off := 1) (ft := 4) (size := 1) rfl Try.underlying170 rfl Try.ti4 (by decide) rfl rfl) ?_
          obtain ⟨adv_9, v_9, hev_9, hcv_9, H⟩ := H
          refine xo_read (v := (.bool v_9)) rfl (wanted_none rfl _) (rd_load (ad := adv_9) rfl Try.underlying4 rfl (by show Value.pointer _ = _; rw [hev_9]) hcv_9) ?_
          refine xo_pure (v := (.bool v_9)) rfl (wanted_none rfl _) (p_move rfl rfl) ?_
          refine ifB_cases H ?_ ?_
          · clear H; intro hb6 H
            obtain ⟨p_10, hpp_10, H⟩ := H
            refine xo_pure (v := (.pointer (some (p_10.add 0)))) rfl (wanted_yes (d := 35) rfl rfl (by decide) rfl hb6) (p_fieldAddr (off := 0) (ft := 3) (size := 1) rfl Try.underlying67 rfl Try.ti3 (by decide) rfl hpp_10) ?_
            obtain ⟨adv_11, v_11, hev_11, hcv_11, H⟩ := H
            refine xo_read (v := (.int .i64 v_11)) rfl (wanted_yes (d := 35) rfl rfl (by decide) rfl hb6) (rd_load (ad := adv_11) rfl Try.underlying3 rfl (by show Value.pointer _ = _; rw [hev_11]) hcv_11) ?_
            refine xo_pure (v := (.bool (!decide (v_11 = 5)))) rfl (wanted_yes (d := 35) rfl rfl (by decide) rfl hb6) (p_ne rfl rfl rfl) ?_
            refine xo_pure (v := (.bool (!decide (v_11 = 5)))) rfl (wanted_none rfl _) (p_pickT rfl rfl hb6 rfl) ?_
            refine xo_pure (v := (.bool (!decide (v_11 = 5)))) rfl (wanted_none rfl _) (p_assign rfl rfl) ?_
            refine xo_end ?_
            refine r_upd (i := 6) (v := (.pointer v6)) rfl ?_
            refine r_upd (i := 30) (v := (.bool (!decide (v_11 = 5)))) rfl ?_
            exact J4 (v6, (!decide (v_11 = 5))) _ _ H
          · clear H; intro hb6 H
            refine xo_skip rfl (wanted_no (d := 35) rfl rfl (by decide) rfl hb6) ?_
            refine xo_skip rfl (wanted_no (d := 35) rfl rfl (by decide) rfl hb6) ?_
            refine xo_skip rfl (wanted_no (d := 35) rfl rfl (by decide) rfl hb6) ?_
            refine xo_pure (v := (.bool false)) rfl (wanted_none rfl _) (p_pickF rfl rfl hb6 rfl) ?_
            refine xo_pure (v := (.bool false)) rfl (wanted_none rfl _) (p_assign rfl rfl) ?_
            refine xo_end ?_
            refine r_upd (i := 6) (v := (.pointer v6)) rfl ?_
            refine r_upd (i := 30) (v := (.bool false)) rfl ?_
            exact J4 (v6, false) _ _ H
    · intro J2
      refine r_region ?_
      refine xo_pure (v := (.pointer (some (a_1.add 3)))) rfl (wanted_none rfl _) (p_fieldAddr (off := 3) (ft := 3) (size := 1) rfl Try.underlying67 rfl Try.ti3 (by decide) rfl rfl) ?_
      obtain ⟨adv_12, v_12, hev_12, hcv_12, H⟩ := H
      refine xo_read (v := (.int .i64 v_12)) rfl (wanted_none rfl _) (rd_load (ad := adv_12) rfl Try.underlying3 rfl (by show Value.pointer _ = _; rw [hev_12]) hcv_12) ?_
      refine xo_pure (v := (.bool (decide (v_12 < 0)))) rfl (wanted_none rfl _) (p_lt rfl rfl rfl) ?_
      refine xo_pure (v := (.bool (decide (v_12 < 0)))) rfl (wanted_none rfl _) (p_move rfl rfl) ?_
      refine ifB_cases H ?_ ?_
      · clear H; intro hb7 H
        refine xo_skip rfl (wanted_no (d := 25) rfl rfl (by decide) rfl hb7) ?_
        refine xo_skip rfl (wanted_no (d := 25) rfl rfl (by decide) rfl hb7) ?_
        refine xo_skip rfl (wanted_no (d := 25) rfl rfl (by decide) rfl hb7) ?_
        refine xo_pure (v := (.bool true)) rfl (wanted_none rfl _) (p_pickT rfl rfl hb7 rfl) ?_
        refine xo_pure (v := (.bool true)) rfl (wanted_none rfl _) (p_assign rfl rfl) ?_
        refine xo_end ?_
        refine r_upd (i := 3) (v := (.pointer (some a_1))) rfl ?_
        refine r_upd (i := 6) (v := (.pointer v_5)) rfl ?_
        refine r_upd (i := 21) (v := (.bool true)) rfl ?_
        exact J2 ((some a_1), v_5, true) _ _ H
      · clear H; intro hb7 H
        refine xo_pure (v := (.pointer (some (a_1.add 3)))) rfl (wanted_yes (d := 25) rfl rfl (by decide) rfl hb7) (p_fieldAddr (off := 3) (ft := 3) (size := 1) rfl Try.underlying67 rfl Try.ti3 (by decide) rfl rfl) ?_
        obtain ⟨adv_13, v_13, hev_13, hcv_13, H⟩ := H
        refine xo_read (v := (.int .i64 v_13)) rfl (wanted_yes (d := 25) rfl rfl (by decide) rfl hb7) (rd_load (ad := adv_13) rfl Try.underlying3 rfl (by show Value.pointer _ = _; rw [hev_13]) hcv_13) ?_
        refine xo_pure (v := (.bool (decide (1048576 ≤ v_13)))) rfl (wanted_yes (d := 25) rfl rfl (by decide) rfl hb7) (p_ge rfl rfl rfl) ?_
        refine xo_pure (v := (.bool (decide (1048576 ≤ v_13)))) rfl (wanted_none rfl _) (p_pickF rfl rfl hb7 rfl) ?_
        refine xo_pure (v := (.bool (decide (1048576 ≤ v_13)))) rfl (wanted_none rfl _) (p_assign rfl rfl) ?_
        refine xo_end ?_
        refine r_upd (i := 3) (v := (.pointer (some a_1))) rfl ?_
        refine r_upd (i := 6) (v := (.pointer v_5)) rfl ?_
        refine r_upd (i := 21) (v := (.bool (decide (1048576 ≤ v_13)))) rfl ?_
        exact J2 ((some a_1), v_5, (decide (1048576 ≤ v_13))) _ _ H

/-! 64 (*sporran/model.Model).Distinct -/
def model_Model_Distinct_b1 (R : Value → World → Prop) (ag1 : (Option Nat × Value) → World → Prop) (ag3 : (Option Nat × Value × Value) → World → Prop) (all3 : Option Nat) (t13 : Value) (t22 : Value) (w : World) : Prop :=
  Ef Try.prog (Instr.next t22 false 0) id w fun u_16 w_6 => AsNext u_16 fun vs_14 b_15 =>
  IfB b_15 (
    Ef Try.prog (Instr.entry t22) id w_6 fun u_19 w_7 => AsT2 (Value.int .i64) Value.agg u_19 fun v_17 v_18 =>
    New Try.z65 65 w_7 fun a_20 w_8 =>
    StN 48 (some a_20) v_18 w_8 fun w_9 =>
    LdN 48 (some a_20) w_9 fun v_21 =>
    EfU Try.prog (Instr.mapUpdate 230 (.map all3) (.agg v_21) (.bool true)) w_9 fun w_10 =>
    ag3 (all3, t13, t22) w_10) (
    ag1 (all3, t13) w_6)

def model_Model_Distinct_b0 (R : Value → World → Prop) (ag1 : (Option Nat × Value) → World → Prop) (all3 : Option Nat) (t13 : Value) (w : World) : Prop :=
  Ef Try.prog (Instr.next t13 false 0) id w fun u_7 w_3 => AsNext u_7 fun vs_5 b_6 =>
  IfB b_6 (
    Ef Try.prog (Instr.entry t13) id w_3 fun u_10 w_4 => AsT2 Value.string Value.pointer u_10 fun v_8 v_9 =>
    NotNil v_9 fun p_11 =>
    Ld Value.map (some (p_11.add 2)) w_4 fun v_12 =>
    Ef Try.prog (Instr.range 168 (.map v_12)) id w_4 fun v_13 w_5 =>
    Lp (fun ag (s : Option Nat × Value × Value) w => model_Model_Distinct_b1 R ag1 ag s.1 s.2.1 s.2.2 w) (all3, t13, v_13) w_5) (
    Ef Try.prog (Builtin.len_ #[230] 3 #[(.map all3)]) (Value.int .i64) w_3 fun v_22 w_11 =>
    R (.int .i64 v_22) w_11)

def model_Model_Distinct (R : Value → World → Prop) (m0 : Option Addr) (w : World) : Prop :=
  Ef Try.prog (Instr.makeMap 230 none) Value.map w fun v_1 w_1 =>
  NotNil m0 fun p_2 =>
  Ld Value.map (some (p_2.add 0)) w_1 fun v_3 =>
  Ef Try.prog (Instr.range 163 (.map v_3)) id w_1 fun v_4 w_2 =>
  Lp (fun ag (s : Option Nat × Value) w => model_Model_Distinct_b0 R ag s.1 s.2 w) (v_1, v_4) w_2

theorem model_Model_Distinct_ok (R : Value → World → Prop) (m0 : Option Addr) (w : World) (H : model_Model_Distinct R m0 w) : CallF Try.prog 64 #[(.pointer m0)] w R := by
  refine calls_of_runs (fn := Try.f64) Try.func64 rfl (Nat.le_of_ble_eq_true rfl) ?_
  show Runs _ _ 31 _ _ _ _
  unfold model_Model_Distinct at H
  refine r_upd (i := 0) (v := (.pointer m0)) rfl ?_
  refine r_seq ?_
  refine r_region ?_
  refine xo_pure (v := (.int .i64 0)) rfl (wanted_none rfl _) (p_assign rfl rfl) ?_
  refine xo_end ?_
  refine r_seq ?_
  refine r_region ?_
  refine xo_eff rfl (wanted_none rfl _) (e_gen (s := Instr.makeMap 230 none) (enc := Value.map) rfl H) ?_
  rintro _ w_1 ⟨v_1, rfl, H⟩
  refine xo_pure (v := (.map v_1)) rfl (wanted_none rfl _) (p_assign rfl rfl) ?_
  refine xo_end ?_
  refine r_seq ?_
  refine r_seq ?_
  refine r_region ?_
  refine xo_pure (v := (.pointer m0)) rfl (wanted_none rfl _) (p_move rfl rfl) ?_
  obtain ⟨p_2, hpp_2, H⟩ := H
  refine xo_pure (v := (.pointer (some p_2))) rfl (wanted_none rfl _) (p_nilCheck rfl rfl hpp_2) ?_
  refine xo_pure (v := (.pointer (some (p_2.add 0)))) rfl (wanted_none rfl _) (p_fieldAddr (off := 0) (ft := 163) (size := 1) rfl Try.underlying165 rfl Try.ti163 (by decide) rfl rfl) ?_
  obtain ⟨adv_3, v_3, hev_3, hcv_3, H⟩ := H
  refine xo_read (v := (.map v_3)) rfl (wanted_none rfl _) (rd_load (ad := adv_3) rfl Try.underlying163 rfl (by show Value.pointer _ = _; rw [hev_3]) hcv_3) ?_
  refine xo_eff rfl (wanted_none rfl _) (e_genV (s := Instr.range 163 (.map v_3)) rfl H) ?_
  intro v_4 w_2 H
  refine xo_end ?_
  refine r_block ?_
  refine r_upd (i := 3) (v := (.map v_1)) rfl ?_
  refine r_upd (i := 13) (v := v_4) rfl ?_
  refine r_loopJ (fun (s : Option Nat × Value) σ => upd 13 s.2 (upd 3 (.map s.1) (σ))) (s := (v_1, v_4)) H ?_
  clear H
  rintro ag1 ⟨all3, t13⟩ σ w H hag1
  replace H : model_Model_Distinct_b0 R ag1 all3 t13 w := H
  show Runs _ _ _ _ _ (upd 13 t13 (upd 3 (.map all3) (σ))) _
  unfold model_Model_Distinct_b0 at H
  refine r_seq ?_
  refine r_region ?_
  refine xo_eff rfl (wanted_none rfl _) (e_genV (s := Instr.next t13 false 0) rfl H) ?_
  rintro _ w_3 ⟨vs_5, b_6, rfl, hxb_6, H⟩
  refine xo_pure (v := (.bool b_6)) rfl (wanted_none rfl _) (p_extract (vs := vs_5) rfl rfl hxb_6) ?_
  refine xo_end ?_
  refine r_seq ?_
  refine r_condB (b := b_6) rfl H ?_ ?_
  · clear H; intro hb2 H
    refine r_skip ?_
    refine r_block ?_
    refine r_seq ?_
    refine r_region ?_
    refine xo_eff rfl (wanted_none rfl _) (e_genV (s := Instr.entry t13) rfl H) ?_
    rintro _ w_4 ⟨v_8, v_9, rfl, H⟩
    refine xo_pure (v := (.pointer v_9)) rfl (wanted_none rfl _) (p_extract (vs := #[(.string v_8), (.pointer v_9)]) rfl rfl rfl) ?_
    refine xo_pure (v := (.pointer v_9)) rfl (wanted_none rfl _) (p_assign rfl rfl) ?_
    refine xo_end ?_
    refine r_seq ?_
    refine r_region ?_
    refine xo_pure (v := (.pointer v_9)) rfl (wanted_none rfl _) (p_move rfl rfl) ?_
    obtain ⟨p_11, hpp_11, H⟩ := H
    refine xo_pure (v := (.pointer (some p_11))) rfl (wanted_none rfl _) (p_nilCheck rfl rfl hpp_11) ?_
    refine xo_pure (v := (.pointer (some (p_11.add 2)))) rfl (wanted_none rfl _) (p_fieldAddr (off := 2) (ft := 168) (size := 1) rfl Try.underlying170 rfl Try.ti168 (by decide) rfl rfl) ?_
    obtain ⟨adv_12, v_12, hev_12, hcv_12, H⟩ := H
    refine xo_read (v := (.map v_12)) rfl (wanted_none rfl _) (rd_load (ad := adv_12) rfl Try.underlying168 rfl (by show Value.pointer _ = _; rw [hev_12]) hcv_12) ?_
    refine xo_eff rfl (wanted_none rfl _) (e_genV (s := Instr.range 168 (.map v_12)) rfl H) ?_
    intro v_13 w_5 H
    refine xo_end ?_
    refine r_block ?_
    refine r_upd (i := 3) (v := (.map all3)) rfl ?_
    refine r_upd (i := 13) (v := t13) rfl ?_
    refine r_upd (i := 22) (v := v_13) rfl ?_
    refine r_loopJ (fun (s : Option Nat × Value × Value) σ => upd 22 s.2.2 (upd 13 s.2.1 (upd 3 (.map s.1) (σ)))) (s := (all3, t13, v_13)) H ?_
    clear H
    rintro ag3 ⟨all3, t13, t22⟩ σ w H hag3
    replace H : model_Model_Distinct_b1 R ag1 ag3 all3 t13 t22 w := H
    show Runs _ _ _ _ _ (upd 22 t22 (upd 13 t13 (upd 3 (.map all3) (σ)))) _
    unfold model_Model_Distinct_b1 at H
    refine r_seq ?_
    refine r_region ?_
    refine xo_eff rfl (wanted_none rfl _) (e_genV (s := Instr.next t22 false 0) rfl H) ?_
    rintro _ w_6 ⟨vs_14, b_15, rfl, hxb_15, H⟩
    refine xo_pure (v := (.bool b_15)) rfl (wanted_none rfl _) (p_extract (vs := vs_14) rfl rfl hxb_15) ?_
    refine xo_end ?_
    refine r_seq ?_
    refine r_condB (b := b_15) rfl H ?_ ?_
    · clear H; intro hb4 H
      refine r_skip ?_
      refine r_block ?_
      refine r_seq ?_
      refine r_region ?_
      refine xo_eff rfl (wanted_none rfl _) (e_genV (s := Instr.entry t22) rfl H) ?_
      rintro _ w_7 ⟨v_17, v_18, rfl, H⟩
      refine xo_pure (v := (.agg v_18)) rfl (wanted_none rfl _) (p_extract (vs := #[(.int .i64 v_17), (.agg v_18)]) rfl rfl rfl) ?_
      refine xo_eff rfl (wanted_none rfl _) (e_alloc rfl Try.ti65 H) ?_
      rintro _ w_8 ⟨a_20, rfl, H⟩
      refine xo_effN rfl (wanted_none rfl _) (e_storeN rfl Try.ti65 rfl rfl H) ?_
      intro _ w_9 H
      refine xo_end ?_
      refine r_region ?_
      refine xo_pure (v := (.map all3)) rfl (wanted_none rfl _) (p_move rfl rfl) ?_
      obtain ⟨adv_21, v_21, hev_21, hnv_21, hcv_21, H⟩ := H
      refine xo_read (v := (.agg v_21)) rfl (wanted_none rfl _) (rd_loadN (ad := adv_21) rfl Try.underlying65 rfl Try.ti65 (by show Value.pointer _ = _; rw [hev_21]) hnv_21 hcv_21) ?_
      refine xo_effN rfl (wanted_none rfl _) (e_genU rfl H) ?_
      intro _ w_10 H
      refine xo_end ?_
      refine r_inBlock ?_
      refine r_upd (i := 3) (v := (.map all3)) rfl ?_
      refine r_upd (i := 13) (v := t13) rfl ?_
      refine r_upd (i := 22) (v := t22) rfl ?_
      exact hag3 (all3, t13, t22) _ _ H
    · clear H; intro hb4 H
      refine r_exit rfl ?_
      refine r_inBlock ?_
      refine r_upd (i := 3) (v := (.map all3)) rfl ?_
      refine r_upd (i := 13) (v := t13) rfl ?_
      exact hag1 (all3, t13) _ _ H
  · clear H; intro hb2 H
    refine r_exit rfl ?_
    refine r_seq ?_
    refine r_region ?_
    refine xo_pure (v := (.map all3)) rfl (wanted_none rfl _) (p_move rfl rfl) ?_
    refine xo_eff rfl (wanted_none rfl _) (e_bi (b := .len) (enc := Value.int .i64) H rfl rfl rfl) ?_
    rintro _ w_11 ⟨v_22, rfl, H⟩
    refine xo_pure (v := (.int .i64 v_22)) rfl (wanted_none rfl _) (p_assign rfl rfl) ?_
    refine xo_end ?_
    exact r_ret (fn := Try.f64) Try.func64 (res_1 rfl ⟨by decide, rfl⟩) H

/-! 125 sporran/pack.Number -/
def pack_Number_b0 (R : Value → World → Prop) (ag1 : (Sl × Int) → World → Prop) (out0 : Sl) (v1 : Int) (w : World) : Prop :=
  IfB (decide (128 ≤ v1)) (
    New #[(.int .u8 (orK .u8 (IntKind.u8.wrap v1) 128))] 5 w fun a_1 w_1 =>
    Ef Try.prog (Builtin.append_ #[39, 39] 39 #[(Sl.v out0), (Sl.v ⟨some a_1, 1, 1⟩)]) Sl.v w_1 fun v_2 w_2 =>
    ag1 (v_2, (shrK .u64 v1 7)) w_2) (
    New #[(.int .u8 (IntKind.u8.wrap v1))] 5 w fun a_3 w_3 =>
    Ef Try.prog (Builtin.append_ #[39, 39] 39 #[(Sl.v out0), (Sl.v ⟨some a_3, 1, 1⟩)]) Sl.v w_3 fun v_4 w_4 =>
    R (Sl.v v_4) w_4)

def pack_Number (R : Value → World → Prop) (out0 : Sl) (v1 : Int) (w : World) : Prop :=
  Lp (fun ag (s : Sl × Int) w => pack_Number_b0 R ag s.1 s.2 w) (out0, v1) w

theorem pack_Number_ok (R : Value → World → Prop) (out0 : Sl) (v1 : Int) (w : World) (H : pack_Number R out0 v1 w) : CallF Try.prog 125 #[(Sl.v out0), (.int .u64 v1)] w R := by
  refine calls_of_runs (fn := Try.f125) Try.func125 rfl (Nat.le_of_ble_eq_true rfl) ?_
  show Runs _ _ 20 _ _ _ _
  unfold pack_Number at H
  refine r_upd (i := 0) (v := (Sl.v out0)) rfl ?_
  refine r_upd (i := 1) (v := (.int .u64 v1)) rfl ?_
  refine r_seq ?_
  refine r_region ?_
  refine xo_pure (v := (Sl.v Sl.nil)) rfl (wanted_none rfl _) (p_assign rfl rfl) ?_
  refine xo_end ?_
  refine r_seq ?_
  refine r_block ?_
  refine r_upd (i := 0) (v := (Sl.v out0)) rfl ?_
  refine r_upd (i := 1) (v := (.int .u64 v1)) rfl ?_
  refine r_loopJ (fun (s : Sl × Int) σ => upd 1 (.int .u64 s.2) (upd 0 (Sl.v s.1) (σ))) (s := (out0, v1)) H ?_
  clear H
  rintro ag1 ⟨out0, v1⟩ σ w H hag1
  replace H : pack_Number_b0 R ag1 out0 v1 w := H
  show Runs _ _ _ _ _ (upd 1 (.int .u64 v1) (upd 0 (Sl.v out0) (σ))) _
  unfold pack_Number_b0 at H
  refine r_seq ?_
  refine r_seq ?_
  refine r_region ?_
  refine xo_pure (v := (.int .u64 v1)) rfl (wanted_none rfl _) (p_move rfl rfl) ?_
  refine xo_pure (v := (.bool (decide (128 ≤ v1)))) rfl (wanted_none rfl _) (p_ge rfl rfl rfl) ?_
  refine xo_end ?_
  refine r_condB (b := (decide (128 ≤ v1))) rfl H ?_ ?_
  · clear H; intro hb2 H
    refine r_skip ?_
    refine r_block ?_
    refine r_seq ?_
    refine r_region ?_
    refine xo_pure (v := (Sl.v out0)) rfl (wanted_none rfl _) (p_move rfl rfl) ?_
    refine xo_pure (v := (.int .u64 v1)) rfl (wanted_none rfl _) (p_move rfl rfl) ?_
    refine xo_pure (v := (.int .u8 (IntKind.u8.wrap v1))) rfl (wanted_none rfl _) (p_conv rfl Try.underlying22 Try.underlying5 rfl) ?_
    refine xo_pure (v := (.int .u8 (orK .u8 (IntKind.u8.wrap v1) 128))) rfl (wanted_none rfl _) (p_or rfl rfl rfl) ?_
    refine xo_eff rfl (wanted_none rfl _) (e_buildRow H rfl Try.underlying39 Try.ti5 (by decide) (by decide) rfl rfl (by simp [Value.oneCell', Sl.v])) ?_
    rintro _ w_1 ⟨a_1, rfl, H⟩
    refine xo_eff rfl (wanted_none rfl _) (e_app H rfl rfl rfl) ?_
    rintro _ w_2 ⟨v_2, rfl, H⟩
    refine xo_pure (v := (Sl.v v_2)) rfl (wanted_none rfl _) (p_assign rfl rfl) ?_
    refine xo_end ?_
    refine r_region ?_
    refine xo_pure (v := (.int .u64 v1)) rfl (wanted_none rfl _) (p_move rfl rfl) ?_
    refine xo_pure (v := (.int .u64 (shrK .u64 v1 7))) rfl (wanted_none rfl _) (p_shr rfl rfl rfl (by decide)) ?_
    refine xo_pure (v := (.int .u64 (shrK .u64 v1 7))) rfl (wanted_none rfl _) (p_assign rfl rfl) ?_
    refine xo_end ?_
    refine r_inBlock ?_
    refine r_upd (i := 0) (v := (Sl.v v_2)) rfl ?_
    refine r_upd (i := 1) (v := (.int .u64 (shrK .u64 v1 7))) rfl ?_
    exact hag1 (v_2, (shrK .u64 v1 7)) _ _ H
  · clear H; intro hb2 H
    refine r_exit rfl ?_
    refine r_seq ?_
    refine r_region ?_
    refine xo_pure (v := (Sl.v out0)) rfl (wanted_none rfl _) (p_move rfl rfl) ?_
    refine xo_pure (v := (.int .u64 v1)) rfl (wanted_none rfl _) (p_move rfl rfl) ?_
    refine xo_pure (v := (.int .u8 (IntKind.u8.wrap v1))) rfl (wanted_none rfl _) (p_conv rfl Try.underlying22 Try.underlying5 rfl) ?_
    refine xo_eff rfl (wanted_none rfl _) (e_buildRow H rfl Try.underlying39 Try.ti5 (by decide) (by decide) rfl rfl (by simp [Value.oneCell', Sl.v])) ?_
    rintro _ w_3 ⟨a_3, rfl, H⟩
    refine xo_eff rfl (wanted_none rfl _) (e_app H rfl rfl rfl) ?_
    rintro _ w_4 ⟨v_4, rfl, H⟩
    refine xo_pure (v := (Sl.v v_4)) rfl (wanted_none rfl _) (p_assign rfl rfl) ?_
    refine xo_end ?_
    exact r_ret (fn := Try.f125) Try.func125 (res_1 rfl ⟨by decide, rfl⟩) H

/-! 126 sporran/pack.Bytes -/
def pack_Bytes (R : Value → World → Prop) (out0 : Sl) (b1 : Sl) (w : World) : Prop :=
  CallF Try.prog 125 #[(Sl.v out0), (.int .u64 (IntKind.u64.wrap (b1.len : Int)))] w fun u_1 w_1 => As Sl.v u_1 fun v_2 =>
  Ef Try.prog (Builtin.append_ #[39, 39] 39 #[(Sl.v v_2), (Sl.v b1)]) Sl.v w_1 fun v_3 w_2 =>
  R (Sl.v v_3) w_2

theorem pack_Bytes_ok (R : Value → World → Prop) (out0 : Sl) (b1 : Sl) (w : World) (H : pack_Bytes R out0 b1 w) : CallF Try.prog 126 #[(Sl.v out0), (Sl.v b1)] w R := by
  refine calls_of_runs (fn := Try.f126) Try.func126 rfl (Nat.le_of_ble_eq_true rfl) ?_
  show Runs _ _ 12 _ _ _ _
  unfold pack_Bytes at H
  refine r_upd (i := 0) (v := (Sl.v out0)) rfl ?_
  refine r_upd (i := 1) (v := (Sl.v b1)) rfl ?_
  refine r_seq ?_
  refine r_region ?_
  refine xo_pure (v := (Sl.v Sl.nil)) rfl (wanted_none rfl _) (p_assign rfl rfl) ?_
  refine xo_end ?_
  refine r_seq ?_
  refine r_region ?_
  refine xo_pure (v := (Sl.v out0)) rfl (wanted_none rfl _) (p_move rfl rfl) ?_
  refine xo_pure (v := (Sl.v b1)) rfl (wanted_none rfl _) (p_move rfl rfl) ?_
  refine xo_pure (v := (.int .i64 (b1.len : Int))) rfl (wanted_none rfl _) (p_len rfl Try.underlying39 rfl) ?_
  refine xo_pure (v := (.int .u64 (IntKind.u64.wrap (b1.len : Int)))) rfl (wanted_none rfl _) (p_conv rfl Try.underlying3 Try.underlying22 rfl) ?_
  refine xo_eff rfl (wanted_none rfl _) (e_call (fn := Try.f125) H rfl rfl Try.func125 rfl rfl rfl) ?_
  rintro _ w_1 ⟨v_2, rfl, H⟩
  refine xo_pure (v := (Sl.v b1)) rfl (wanted_none rfl _) (p_move rfl rfl) ?_
  refine xo_eff rfl (wanted_none rfl _) (e_app H rfl rfl rfl) ?_
  rintro _ w_2 ⟨v_3, rfl, H⟩
  refine xo_pure (v := (Sl.v v_3)) rfl (wanted_none rfl _) (p_assign rfl rfl) ?_
  refine xo_end ?_
  exact r_ret (fn := Try.f126) Try.func126 (res_1 rfl ⟨by decide, rfl⟩) H
end Go.Proofs
