/- Laid by program. -/
import Derived.Test.YtnjilbgcflbghaaXFT
set_option linter.all false
set_option linter.unusedVariables false
set_option linter.unusedSimpArgs false
set_option maxRecDepth 20000
set_option maxHeartbeats 4000000
namespace Go.Proofs
open Go Go.X
/-! 13 sporran/sporranlaw15.ModelEvents -/
def sporranlaw15_ModelEvents_k0 (R : Value → World → Prop) (x5 : Sl) (y6 : Sl) (same7 : Bool) (w : World) : Prop :=
  CallF Try.prog 21 #[(Sl.v x5), (Sl.v y6)] w fun u_17 w_9 => As Value.bool u_17 fun v_18 =>
  IfB (v_18 == same7) (
    R (.bool (decide (5 ≤ (x5.len : Int)))) w_9) (
    R (.bool false) w_9)

def sporranlaw15_ModelEvents (R : Value → World → Prop) (a0 : Array Value) (b1 : Array Value) (w : World) : Prop :=
  New a0 67 w fun a_1 w_1 =>
  New b1 67 w_1 fun a_2 w_2 =>
  CallF Try.prog 34 #[] w_2 fun u_3 w_3 => As Value.bool u_3 fun v_4 =>
  IfB (!v_4) (
    R (.bool false) w_3) (
    LdN 53 (some a_1) w_3 fun v_5 =>
    LdN 53 (some a_2) w_3 fun v_6 =>
    Filled 2 53 Try.z67 [(0, (.agg v_5)), (1, (.agg v_6))] fun c_8 =>
    New c_8 67 w_3 fun a_7 w_4 =>
    CallF Try.prog 35 #[(Sl.v ⟨some a_7, 2, 2⟩)] w_4 fun u_9 w_5 => As Value.bool u_9 fun v_10 =>
    IfB v_10 (
      R (.bool true) w_5) (
      LdN 53 (some a_1) (World.drew w_5) fun v_11 =>
      LdNH 53 (some a_2) (World.drew w_5) fun adv_12 v_12 =>
      CallF Try.prog 62 #[(.agg v_11)] (World.drew w_5) fun u_13 w_7 => As Sl.v u_13 fun v_14 =>
      (Row w_7 adv_12 v_12) ∧
      CallF Try.prog 62 #[(.agg v_12)] w_7 fun u_15 w_8 => As Sl.v u_15 fun v_16 =>
      Ld (Value.int .i64) (some (a_1.add 0)) w_8 fun v_19 =>
      Ld (Value.int .i64) (some (a_2.add 0)) w_8 fun v_20 =>
      IfB (decide (v_19 = v_20)) (
        Ld (Value.int .i64) (some (a_1.add 3)) w_8 fun v_21 =>
        Ld (Value.int .i64) (some (a_2.add 3)) w_8 fun v_22 =>
        IfB (decide (v_21 = v_22)) (
          Ld (Value.int .i64) (some (a_1.add 4)) w_8 fun v_23 =>
          Ld (Value.int .i64) (some (a_2.add 4)) w_8 fun v_24 =>
          IfB (decide (v_23 = v_24)) (
            Ld Value.string (some (a_1.add 1)) w_8 fun v_25 =>
            Ld Value.string (some (a_2.add 1)) w_8 fun v_26 =>
            IfB (seq v_25 v_26) (
              Ld Value.string (some (a_1.add 2)) w_8 fun v_27 =>
              Ld Value.string (some (a_2.add 2)) w_8 fun v_28 =>
              IfB (seq v_27 v_28) (
                Ld (Value.int .i64) (some (a_1.add 0)) w_8 fun v_29 =>
                IfB (!decide (v_29 = 3)) (
                  sporranlaw15_ModelEvents_k0 R v_14 v_16 true w_8) (
                  LdN 48 (some (a_1.add 5)) w_8 fun v_30 =>
                  LdN 48 (some (a_2.add 5)) w_8 fun v_31 =>
                  AggEq Try.prog 65 v_30 v_31 fun b_32 =>
                  sporranlaw15_ModelEvents_k0 R v_14 v_16 b_32 w_8)) (
                sporranlaw15_ModelEvents_k0 R v_14 v_16 false w_8)) (
              sporranlaw15_ModelEvents_k0 R v_14 v_16 false w_8)) (
            sporranlaw15_ModelEvents_k0 R v_14 v_16 false w_8)) (
          sporranlaw15_ModelEvents_k0 R v_14 v_16 false w_8)) (
        sporranlaw15_ModelEvents_k0 R v_14 v_16 false w_8)))

theorem sporranlaw15_ModelEvents_ok (R : Value → World → Prop) (a0 : Array Value) (b1 : Array Value) (w : World) (H : sporranlaw15_ModelEvents R a0 b1 w) : CallF Try.prog 13 #[(.agg a0), (.agg b1)] w R := by
  refine calls_of_runs (fn := Try.f13) Try.func13 rfl (Nat.le_of_ble_eq_true rfl) ?_
  show Runs _ _ 73 _ _ _ _
  unfold sporranlaw15_ModelEvents at H
  refine r_upd (i := 0) (v := (.agg a0)) rfl ?_
  refine r_upd (i := 1) (v := (.agg b1)) rfl ?_
  refine r_seq ?_
  refine r_region ?_
  refine xo_eff rfl (wanted_none rfl _) (e_box (v := (.agg a0)) rfl rfl H) ?_
  rintro _ w_1 ⟨a_1, rfl, H⟩
  refine xo_eff rfl (wanted_none rfl _) (e_box (v := (.agg b1)) rfl rfl H) ?_
  rintro _ w_2 ⟨a_2, rfl, H⟩
  refine xo_pure (v := (.bool false)) rfl (wanted_none rfl _) (p_assign rfl rfl) ?_
  refine xo_end ?_
  refine r_seq ?_
  refine r_seq ?_
  refine r_region ?_
  refine xo_eff rfl (wanted_none rfl _) (e_call (fn := Try.f34) H rfl rfl Try.func34 rfl rfl rfl) ?_
  rintro _ w_3 ⟨v_4, rfl, H⟩
  refine xo_pure (v := (.bool (!v_4))) rfl (wanted_none rfl _) (p_not rfl rfl) ?_
  refine xo_end ?_
  refine r_condB (b := (!v_4)) rfl H ?_ ?_
  · clear H; intro hb1 H
    refine r_seq ?_
    refine r_region ?_
    refine xo_pure (v := (.bool false)) rfl (wanted_none rfl _) (p_assign rfl rfl) ?_
    refine xo_end ?_
    exact r_ret (fn := Try.f13) Try.func13 (res_1 rfl ⟨by decide, rfl⟩) H
  · clear H; intro hb1 H
    refine r_skip ?_
    refine r_seq ?_
    refine r_seq ?_
    refine r_region ?_
    obtain ⟨adv_5, v_5, hev_5, hnv_5, hcv_5, H⟩ := H
    refine xo_read (v := (.agg v_5)) rfl (wanted_none rfl _) (rd_loadN (ad := adv_5) rfl Try.underlying67 rfl Try.ti67 (by show Value.pointer _ = _; rw [hev_5]) hnv_5 hcv_5) ?_
    obtain ⟨adv_6, v_6, hev_6, hnv_6, hcv_6, H⟩ := H
    refine xo_read (v := (.agg v_6)) rfl (wanted_none rfl _) (rd_loadN (ad := adv_6) rfl Try.underlying67 rfl Try.ti67 (by show Value.pointer _ = _; rw [hev_6]) hnv_6 hcv_6) ?_
    obtain ⟨c_8, hflc_8, H⟩ := H
    refine xo_eff rfl (wanted_none rfl _) (e_buildSlice (n := 2) (size := 53) rfl Try.underlying63 Try.ti67 (by decide) (by decide) hflc_8 rfl H) ?_
    rintro _ w_4 ⟨a_7, rfl, H⟩
    refine xo_eff rfl (wanted_none rfl _) (e_call (fn := Try.f35) H rfl rfl Try.func35 rfl rfl rfl) ?_
    rintro _ w_5 ⟨v_10, rfl, H⟩
    refine xo_end ?_
    refine r_condB (b := v_10) rfl H ?_ ?_
    · clear H; intro hb2 H
      refine r_seq ?_
      refine r_region ?_
      refine xo_pure (v := (.bool true)) rfl (wanted_none rfl _) (p_assign rfl rfl) ?_
      refine xo_end ?_
      exact r_ret (fn := Try.f13) Try.func13 (res_1 rfl ⟨by decide, rfl⟩) H
    · clear H; intro hb2 H
      refine r_skip ?_
      refine r_seq ?_
      refine r_draw #[[], [0], [], [0, 1, 2], [0, 1, 2, 3], [0, 1, 2, 3, 4]] 6 rfl rfl ?_
      obtain ⟨adv_11, v_11, hev_11, hnv_11, hcv_11, H⟩ := H
      refine xa_read (v := (.agg v_11)) (S := (fun w => Row w adv_11 v_11)) 0 (by decide +kernel) rfl rfl (wanted_none rfl _) (fun w hc => rd_loadN (ad := adv_11) rfl Try.underlying67 rfl Try.ti67 (by show Value.pointer _ = _; rw [hev_11]) hnv_11 hc) hcv_11 ?_
      obtain ⟨adv_12, v_12, hev_12, hnv_12, hcv_12, H⟩ := H
      refine xa_read (v := (.agg v_12)) (S := (fun w => Row w adv_12 v_12)) 2 (by decide +kernel) rfl rfl (wanted_none rfl _) (fun w hc => rd_loadN (ad := adv_12) rfl Try.underlying67 rfl Try.ti67 (by show Value.pointer _ = _; rw [hev_12]) hnv_12 hc) hcv_12 ?_
      refine xa_eff 1 [(2, (fun w => Row w adv_12 v_12))] (by decide +kernel) rfl rfl rfl (wanted_none rfl _) (e_call (fn := Try.f62) H rfl rfl Try.func62 rfl rfl rfl) ?_
      rintro _ w_7 ⟨v_14, rfl, H⟩
      obtain ⟨hk1_2, H⟩ := H
      refine ⟨(.cons hk1_2 AllHeld.nil), ?_⟩
      refine xa_eff 3 [] (by decide +kernel) rfl rfl rfl (wanted_none rfl _) (e_call (fn := Try.f62) H rfl rfl Try.func62 rfl rfl rfl) ?_
      rintro _ w_8 ⟨v_16, rfl, H⟩
      refine ⟨AllHeld.nil, ?_⟩
      refine xa_pure (v := (Sl.v v_14)) 4 (by decide +kernel) rfl rfl (wanted_none rfl _) (p_assign rfl rfl) ?_
      refine xa_pure (v := (Sl.v v_16)) 5 (by decide +kernel) rfl rfl (wanted_none rfl _) (p_assign rfl rfl) ?_
      refine xa_end (by decide +kernel) ?_
      refine r_seq ?_
      refine r_topJ (fun (s : Sl × Sl × Bool) σ => upd 7 (.bool s.2.2) (upd 6 (Sl.v s.2.1) (upd 5 (Sl.v s.1) (σ)))) (fun (s : Sl × Sl × Bool) w => sporranlaw15_ModelEvents_k0 R s.1 s.2.1 s.2.2 w) ?_ ?_
      · rintro ⟨x5, y6, same7⟩ σ w H
        replace H : sporranlaw15_ModelEvents_k0 R x5 y6 same7 w := H
        show Runs _ _ _ _ _ (upd 7 (.bool same7) (upd 6 (Sl.v y6) (upd 5 (Sl.v x5) (σ)))) _
        unfold sporranlaw15_ModelEvents_k0 at H
        refine r_seq ?_
        refine r_region ?_
        refine xo_pure (v := (Sl.v x5)) rfl (wanted_none rfl _) (p_move rfl rfl) ?_
        refine xo_pure (v := (Sl.v y6)) rfl (wanted_none rfl _) (p_move rfl rfl) ?_
        refine xo_eff rfl (wanted_none rfl _) (e_call (fn := Try.f21) H rfl rfl Try.func21 rfl rfl rfl) ?_
        rintro _ w_9 ⟨v_18, rfl, H⟩
        refine xo_pure (v := (.bool same7)) rfl (wanted_none rfl _) (p_move rfl rfl) ?_
        refine xo_pure (v := (.bool (v_18 == same7))) rfl (wanted_none rfl _) (p_beq rfl Try.underlying4 rfl rfl) ?_
        refine xo_pure (v := (.bool (v_18 == same7))) rfl (wanted_none rfl _) (p_move rfl rfl) ?_
        refine ifB_cases H ?_ ?_
        · clear H; intro hb4 H
          refine xo_pure (v := (Sl.v x5)) rfl (wanted_yes (d := 68) rfl rfl (by decide) rfl hb4) (p_move rfl rfl) ?_
          refine xo_pure (v := (.int .i64 (x5.len : Int))) rfl (wanted_yes (d := 68) rfl rfl (by decide) rfl hb4) (p_len rfl Try.underlying39 rfl) ?_
          refine xo_pure (v := (.bool (decide (5 ≤ (x5.len : Int))))) rfl (wanted_yes (d := 68) rfl rfl (by decide) rfl hb4) (p_ge rfl rfl rfl) ?_
          refine xo_pure (v := (.bool (decide (5 ≤ (x5.len : Int))))) rfl (wanted_none rfl _) (p_pickT rfl rfl hb4 rfl) ?_
          refine xo_pure (v := (.bool (decide (5 ≤ (x5.len : Int))))) rfl (wanted_none rfl _) (p_assign rfl rfl) ?_
          refine xo_end ?_
          exact r_ret (fn := Try.f13) Try.func13 (res_1 rfl ⟨by decide, rfl⟩) H
        · clear H; intro hb4 H
          refine xo_skip rfl (wanted_no (d := 68) rfl rfl (by decide) rfl hb4) ?_
          refine xo_skip rfl (wanted_no (d := 68) rfl rfl (by decide) rfl hb4) ?_
          refine xo_skip rfl (wanted_no (d := 68) rfl rfl (by decide) rfl hb4) ?_
          refine xo_pure (v := (.bool false)) rfl (wanted_none rfl _) (p_pickF rfl rfl hb4 rfl) ?_
          refine xo_pure (v := (.bool false)) rfl (wanted_none rfl _) (p_assign rfl rfl) ?_
          refine xo_end ?_
          exact r_ret (fn := Try.f13) Try.func13 (res_1 rfl ⟨by decide, rfl⟩) H
      · intro J3
        refine r_region ?_
        refine xo_pure (v := (.pointer (some (a_1.add 0)))) rfl (wanted_none rfl _) (p_fieldAddr (off := 0) (ft := 3) (size := 1) rfl Try.underlying67 rfl Try.ti3 (by decide) rfl rfl) ?_
        obtain ⟨adv_19, v_19, hev_19, hcv_19, H⟩ := H
        refine xo_read (v := (.int .i64 v_19)) rfl (wanted_none rfl _) (rd_load (ad := adv_19) rfl Try.underlying3 rfl (by show Value.pointer _ = _; rw [hev_19]) hcv_19) ?_
        refine xo_pure (v := (.pointer (some (a_2.add 0)))) rfl (wanted_none rfl _) (p_fieldAddr (off := 0) (ft := 3) (size := 1) rfl Try.underlying67 rfl Try.ti3 (by decide) rfl rfl) ?_
        obtain ⟨adv_20, v_20, hev_20, hcv_20, H⟩ := H
        refine xo_read (v := (.int .i64 v_20)) rfl (wanted_none rfl _) (rd_load (ad := adv_20) rfl Try.underlying3 rfl (by show Value.pointer _ = _; rw [hev_20]) hcv_20) ?_
        refine xo_pure (v := (.bool (decide (v_19 = v_20)))) rfl (wanted_none rfl _) (p_eq rfl rfl rfl) ?_
        refine xo_pure (v := (.bool (decide (v_19 = v_20)))) rfl (wanted_none rfl _) (p_move rfl rfl) ?_
        refine ifB_cases H ?_ ?_
        · clear H; intro hb5 H
          refine xo_pure (v := (.pointer (some (a_1.add 3)))) rfl (wanted_yes (d := 23) rfl rfl (by decide) rfl hb5) (p_fieldAddr (off := 3) (ft := 3) (size := 1) rfl Try.underlying67 rfl Try.ti3 (by decide) rfl rfl) ?_
          obtain ⟨adv_21, v_21, hev_21, hcv_21, H⟩ := H
          refine xo_read (v := (.int .i64 v_21)) rfl (wanted_yes (d := 23) rfl rfl (by decide) rfl hb5) (rd_load (ad := adv_21) rfl Try.underlying3 rfl (by show Value.pointer _ = _; rw [hev_21]) hcv_21) ?_
          refine xo_pure (v := (.pointer (some (a_2.add 3)))) rfl (wanted_yes (d := 23) rfl rfl (by decide) rfl hb5) (p_fieldAddr (off := 3) (ft := 3) (size := 1) rfl Try.underlying67 rfl Try.ti3 (by decide) rfl rfl) ?_
          obtain ⟨adv_22, v_22, hev_22, hcv_22, H⟩ := H
          refine xo_read (v := (.int .i64 v_22)) rfl (wanted_yes (d := 23) rfl rfl (by decide) rfl hb5) (rd_load (ad := adv_22) rfl Try.underlying3 rfl (by show Value.pointer _ = _; rw [hev_22]) hcv_22) ?_
          refine xo_pure (v := (.bool (decide (v_21 = v_22)))) rfl (wanted_yes (d := 23) rfl rfl (by decide) rfl hb5) (p_eq rfl rfl rfl) ?_
          refine xo_pure (v := (.bool (decide (v_21 = v_22)))) rfl (wanted_none rfl _) (p_pickT rfl rfl hb5 rfl) ?_
          refine xo_pure (v := (.bool (decide (v_21 = v_22)))) rfl (wanted_none rfl _) (p_move rfl rfl) ?_
          refine ifB_cases H ?_ ?_
          · clear H; intro hb6 H
            refine xo_pure (v := (.pointer (some (a_1.add 4)))) rfl (wanted_yes (d := 30) rfl rfl (by decide) rfl hb6) (p_fieldAddr (off := 4) (ft := 3) (size := 1) rfl Try.underlying67 rfl Try.ti3 (by decide) rfl rfl) ?_
            obtain ⟨adv_23, v_23, hev_23, hcv_23, H⟩ := H
            refine xo_read (v := (.int .i64 v_23)) rfl (wanted_yes (d := 30) rfl rfl (by decide) rfl hb6) (rd_load (ad := adv_23) rfl Try.underlying3 rfl (by show Value.pointer _ = _; rw [hev_23]) hcv_23) ?_
            refine xo_pure (v := (.pointer (some (a_2.add 4)))) rfl (wanted_yes (d := 30) rfl rfl (by decide) rfl hb6) (p_fieldAddr (off := 4) (ft := 3) (size := 1) rfl Try.underlying67 rfl Try.ti3 (by decide) rfl rfl) ?_
            obtain ⟨adv_24, v_24, hev_24, hcv_24, H⟩ := H
            refine xo_read (v := (.int .i64 v_24)) rfl (wanted_yes (d := 30) rfl rfl (by decide) rfl hb6) (rd_load (ad := adv_24) rfl Try.underlying3 rfl (by show Value.pointer _ = _; rw [hev_24]) hcv_24) ?_
            refine xo_pure (v := (.bool (decide (v_23 = v_24)))) rfl (wanted_yes (d := 30) rfl rfl (by decide) rfl hb6) (p_eq rfl rfl rfl) ?_
            refine xo_pure (v := (.bool (decide (v_23 = v_24)))) rfl (wanted_none rfl _) (p_pickT rfl rfl hb6 rfl) ?_
            refine xo_pure (v := (.bool (decide (v_23 = v_24)))) rfl (wanted_none rfl _) (p_move rfl rfl) ?_
            refine ifB_cases H ?_ ?_
            · clear H; intro hb7 H
              refine xo_pure (v := (.pointer (some (a_1.add 1)))) rfl (wanted_yes (d := 37) rfl rfl (by decide) rfl hb7) (p_fieldAddr (off := 1) (ft := 9) (size := 1) rfl Try.underlying67 rfl Try.ti9 (by decide) rfl rfl) ?_
              obtain ⟨adv_25, v_25, hev_25, hcv_25, H⟩ := H
              refine xo_read (v := (.string v_25)) rfl (wanted_yes (d := 37) rfl rfl (by decide) rfl hb7) (rd_load (ad := adv_25) rfl Try.underlying9 rfl (by show Value.pointer _ = _; rw [hev_25]) hcv_25) ?_
              refine xo_pure (v := (.pointer (some (a_2.add 1)))) rfl (wanted_yes (d := 37) rfl rfl (by decide) rfl hb7) (p_fieldAddr (off := 1) (ft := 9) (size := 1) rfl Try.underlying67 rfl Try.ti9 (by decide) rfl rfl) ?_
              obtain ⟨adv_26, v_26, hev_26, hcv_26, H⟩ := H
              refine xo_read (v := (.string v_26)) rfl (wanted_yes (d := 37) rfl rfl (by decide) rfl hb7) (rd_load (ad := adv_26) rfl Try.underlying9 rfl (by show Value.pointer _ = _; rw [hev_26]) hcv_26) ?_
              refine xo_pure (v := (.bool (seq v_25 v_26))) rfl (wanted_yes (d := 37) rfl rfl (by decide) rfl hb7) (p_seq rfl rfl rfl) ?_
              refine xo_pure (v := (.bool (seq v_25 v_26))) rfl (wanted_none rfl _) (p_pickT rfl rfl hb7 rfl) ?_
              refine xo_pure (v := (.bool (seq v_25 v_26))) rfl (wanted_none rfl _) (p_move rfl rfl) ?_
              refine ifB_cases H ?_ ?_
              · clear H; intro hb8 H
                refine xo_pure (v := (.pointer (some (a_1.add 2)))) rfl (wanted_yes (d := 44) rfl rfl (by decide) rfl hb8) (p_fieldAddr (off := 2) (ft := 9) (size := 1) rfl Try.underlying67 rfl Try.ti9 (by decide) rfl rfl) ?_
                obtain ⟨adv_27, v_27, hev_27, hcv_27, H⟩ := H
                refine xo_read (v := (.string v_27)) rfl (wanted_yes (d := 44) rfl rfl (by decide) rfl hb8) (rd_load (ad := adv_27) rfl Try.underlying9 rfl (by show Value.pointer _ = _; rw [hev_27]) hcv_27) ?_
                refine xo_pure (v := (.pointer (some (a_2.add 2)))) rfl (wanted_yes (d := 44) rfl rfl (by decide) rfl hb8) (p_fieldAddr (off := 2) (ft := 9) (size := 1) rfl Try.underlying67 rfl Try.ti9 (by decide) rfl rfl) ?_
                obtain ⟨adv_28, v_28, hev_28, hcv_28, H⟩ := H
                refine xo_read (v := (.string v_28)) rfl (wanted_yes (d := 44) rfl rfl (by decide) rfl hb8) (rd_load (ad := adv_28) rfl Try.underlying9 rfl (by show Value.pointer _ = _; rw [hev_28]) hcv_28) ?_
                refine xo_pure (v := (.bool (seq v_27 v_28))) rfl (wanted_yes (d := 44) rfl rfl (by decide) rfl hb8) (p_seq rfl rfl rfl) ?_
                refine xo_pure (v := (.bool (seq v_27 v_28))) rfl (wanted_none rfl _) (p_pickT rfl rfl hb8 rfl) ?_
                refine xo_pure (v := (.bool (seq v_27 v_28))) rfl (wanted_none rfl _) (p_move rfl rfl) ?_
                refine ifB_cases H ?_ ?_
                · clear H; intro hb9 H
                  refine xo_pure (v := (.pointer (some (a_1.add 0)))) rfl (wanted_yes (d := 51) rfl rfl (by decide) rfl hb9) (p_fieldAddr (off := 0) (ft := 3) (size := 1) rfl Try.underlying67 rfl Try.ti3 (by decide) rfl rfl) ?_
                  obtain ⟨adv_29, v_29, hev_29, hcv_29, H⟩ := H
                  refine xo_read (v := (.int .i64 v_29)) rfl (wanted_yes (d := 51) rfl rfl (by decide) rfl hb9) (rd_load (ad := adv_29) rfl Try.underlying3 rfl (by show Value.pointer _ = _; rw [hev_29]) hcv_29) ?_
                  refine xo_pure (v := (.bool (!decide (v_29 = 3)))) rfl (wanted_yes (d := 51) rfl rfl (by decide) rfl hb9) (p_ne rfl rfl rfl) ?_
                  refine xo_pure (v := (.bool (!decide (v_29 = 3)))) rfl (wanted_yes (d := 51) rfl rfl (by decide) rfl hb9) (p_move rfl rfl) ?_
                  refine ifB_cases H ?_ ?_
                  · clear H; intro hb10 H
                    refine xo_skip rfl (wanted_no (d := 55) rfl rfl (by decide) rfl hb10) ?_
                    refine xo_skip rfl (wanted_no (d := 55) rfl rfl (by decide) rfl hb10) ?_
                    refine xo_skip rfl (wanted_no (d := 55) rfl rfl (by decide) rfl hb10) ?_
                    refine xo_skip rfl (wanted_no (d := 55) rfl rfl (by decide) rfl hb10) ?_
                    refine xo_skip rfl (wanted_no (d := 55) rfl rfl (by decide) rfl hb10) ?_
                    refine xo_pure (v := (.bool true)) rfl (wanted_yes (d := 51) rfl rfl (by decide) rfl hb9) (p_pickT rfl rfl hb10 rfl) ?_
                    refine xo_pure (v := (.bool true)) rfl (wanted_none rfl _) (p_pickT rfl rfl hb9 rfl) ?_
                    refine xo_pure (v := (.bool true)) rfl (wanted_none rfl _) (p_assign rfl rfl) ?_
                    refine xo_end ?_
                    refine r_upd (i := 5) (v := (Sl.v v_14)) rfl ?_
                    refine r_upd (i := 6) (v := (Sl.v v_16)) rfl ?_
                    refine r_upd (i := 7) (v := (.bool true)) rfl ?_
                    exact J3 (v_14, v_16, true) _ _ H
                  · clear H; intro hb10 H
                    refine xo_pure (v := (.pointer (some (a_1.add 5)))) rfl (wanted_yes (d := 55) rfl rfl (by decide) rfl hb10) (p_fieldAddr (off := 5) (ft := 65) (size := 48) rfl Try.underlying67 rfl Try.ti65 (by decide) rfl rfl) ?_
                    obtain ⟨adv_30, v_30, hev_30, hnv_30, hcv_30, H⟩ := H
                    refine xo_read (v := (.agg v_30)) rfl (wanted_yes (d := 55) rfl rfl (by decide) rfl hb10) (rd_loadN (ad := adv_30) rfl Try.underlying65 rfl Try.ti65 (by show Value.pointer _ = _; rw [hev_30]) hnv_30 hcv_30) ?_
                    refine xo_pure (v := (.pointer (some (a_2.add 5)))) rfl (wanted_yes (d := 55) rfl rfl (by decide) rfl hb10) (p_fieldAddr (off := 5) (ft := 65) (size := 48) rfl Try.underlying67 rfl Try.ti65 (by decide) rfl rfl) ?_
                    obtain ⟨adv_31, v_31, hev_31, hnv_31, hcv_31, H⟩ := H
                    refine xo_read (v := (.agg v_31)) rfl (wanted_yes (d := 55) rfl rfl (by decide) rfl hb10) (rd_loadN (ad := adv_31) rfl Try.underlying65 rfl Try.ti65 (by show Value.pointer _ = _; rw [hev_31]) hnv_31 hcv_31) ?_
                    obtain ⟨b_32, hqb_32, H⟩ := H
                    refine xo_pure (v := (.bool b_32)) rfl (wanted_yes (d := 55) rfl rfl (by decide) rfl hb10) (p_aggEq rfl hqb_32 rfl rfl) ?_
                    refine xo_pure (v := (.bool b_32)) rfl (wanted_yes (d := 51) rfl rfl (by decide) rfl hb9) (p_pickF rfl rfl hb10 rfl) ?_
                    refine xo_pure (v := (.bool b_32)) rfl (wanted_none rfl _) (p_pickT rfl rfl hb9 rfl) ?_
                    refine xo_pure (v := (.bool b_32)) rfl (wanted_none rfl _) (p_assign rfl rfl) ?_
                    refine xo_end ?_
                    refine r_upd (i := 5) (v := (Sl.v v_14)) rfl ?_
                    refine r_upd (i := 6) (v := (Sl.v v_16)) rfl ?_
                    refine r_upd (i := 7) (v := (.bool b_32)) rfl ?_
                    exact J3 (v_14, v_16, b_32) _ _ H
                · clear H; intro hb9 H
                  refine xo_skip rfl (wanted_no (d := 51) rfl rfl (by decide) rfl hb9) ?_
                  refine xo_skip rfl (wanted_no (d := 51) rfl rfl (by decide) rfl hb9) ?_
                  refine xo_skip rfl (wanted_no (d := 51) rfl rfl (by decide) rfl hb9) ?_
                  refine xo_skip rfl (wanted_no (d := 51) rfl rfl (by decide) rfl hb9) ?_
                  refine xo_skip rfl (wanted_undef (d := 55) rfl rfl (by decide) rfl) ?_
                  refine xo_skip rfl (wanted_undef (d := 55) rfl rfl (by decide) rfl) ?_
                  refine xo_skip rfl (wanted_undef (d := 55) rfl rfl (by decide) rfl) ?_
                  refine xo_skip rfl (wanted_undef (d := 55) rfl rfl (by decide) rfl) ?_
                  refine xo_skip rfl (wanted_undef (d := 55) rfl rfl (by decide) rfl) ?_
                  refine xo_skip rfl (wanted_no (d := 51) rfl rfl (by decide) rfl hb9) ?_
                  refine xo_pure (v := (.bool false)) rfl (wanted_none rfl _) (p_pickF rfl rfl hb9 rfl) ?_
                  refine xo_pure (v := (.bool false)) rfl (wanted_none rfl _) (p_assign rfl rfl) ?_
                  refine xo_end ?_
                  refine r_upd (i := 5) (v := (Sl.v v_14)) rfl ?_
                  refine r_upd (i := 6) (v := (Sl.v v_16)) rfl ?_
                  refine r_upd (i := 7) (v := (.bool false)) rfl ?_
                  exact J3 (v_14, v_16, false) _ _ H
              · clear H; intro hb8 H
                refine xo_skip rfl (wanted_no (d := 44) rfl rfl (by decide) rfl hb8) ?_
                refine xo_skip rfl (wanted_no (d := 44) rfl rfl (by decide) rfl hb8) ?_
                refine xo_skip rfl (wanted_no (d := 44) rfl rfl (by decide) rfl hb8) ?_
                refine xo_skip rfl (wanted_no (d := 44) rfl rfl (by decide) rfl hb8) ?_
                refine xo_skip rfl (wanted_no (d := 44) rfl rfl (by decide) rfl hb8) ?_
                refine xo_pure (v := (.bool false)) rfl (wanted_none rfl _) (p_pickF rfl rfl hb8 rfl) ?_
                refine xo_pure (v := (.bool false)) rfl (wanted_none rfl _) (p_move rfl rfl) ?_
                refine xo_skip rfl (wanted_no (d := 51) rfl rfl (by decide) rfl rfl) ?_
                refine xo_skip rfl (wanted_no (d := 51) rfl rfl (by decide) rfl rfl) ?_
                refine xo_skip rfl (wanted_no (d := 51) rfl rfl (by decide) rfl rfl) ?_
                refine xo_skip rfl (wanted_no (d := 51) rfl rfl (by decide) rfl rfl) ?_
                refine xo_skip rfl (wanted_undef (d := 55) rfl rfl (by decide) rfl) ?_
                refine xo_skip rfl (wanted_undef (d := 55) rfl rfl (by decide) rfl) ?_
                refine xo_skip rfl (wanted_undef (d := 55) rfl rfl (by decide) rfl) ?_
                refine xo_skip rfl (wanted_undef (d := 55) rfl rfl (by decide) rfl) ?_
                refine xo_skip rfl (wanted_undef (d := 55) rfl rfl (by decide) rfl) ?_
                refine xo_skip rfl (wanted_no (d := 51) rfl rfl (by decide) rfl rfl) ?_
                refine xo_pure (v := (.bool false)) rfl (wanted_none rfl _) (p_pickF rfl rfl rfl rfl) ?_
                refine xo_pure (v := (.bool false)) rfl (wanted_none rfl _) (p_assign rfl rfl) ?_
                refine xo_end ?_
                refine r_upd (i := 5) (v := (Sl.v v_14)) rfl ?_
                refine r_upd (i := 6) (v := (Sl.v v_16)) rfl ?_
                refine r_upd (i := 7) (v := (.bool false)) rfl ?_
                exact J3 (v_14, v_16, false) _ _ H
            · clear H; intro hb7 H
              refine xo_skip rfl (wanted_no (d := 37) rfl rfl (by decide) rfl hb7) ?_
              refine xo_skip rfl (wanted_no (d := 37) rfl rfl (by decide) rfl hb7) ?_
              refine xo_skip rfl (wanted_no (d := 37) rfl rfl (by decide) rfl hb7) ?_
              refine xo_skip rfl (wanted_no (d := 37) rfl rfl (by decide) rfl hb7) ?_
              refine xo_skip rfl (wanted_no (d := 37) rfl rfl (by decide) rfl hb7) ?_
              refine xo_pure (v := (.bool false)) rfl (wanted_none rfl _) (p_pickF rfl rfl hb7 rfl) ?_
              refine xo_pure (v := (.bool false)) rfl (wanted_none rfl _) (p_move rfl rfl) ?_
              refine xo_skip rfl (wanted_no (d := 44) rfl rfl (by decide) rfl rfl) ?_
              refine xo_skip rfl (wanted_no (d := 44) rfl rfl (by decide) rfl rfl) ?_
              refine xo_skip rfl (wanted_no (d := 44) rfl rfl (by decide) rfl rfl) ?_
              refine xo_skip rfl (wanted_no (d := 44) rfl rfl (by decide) rfl rfl) ?_
              refine xo_skip rfl (wanted_no (d := 44) rfl rfl (by decide) rfl rfl) ?_
              refine xo_pure (v := (.bool false)) rfl (wanted_none rfl _) (p_pickF rfl rfl rfl rfl) ?_
              refine xo_pure (v := (.bool false)) rfl (wanted_none rfl _) (p_move rfl rfl) ?_
              refine xo_skip rfl (wanted_no (d := 51) rfl rfl (by decide) rfl rfl) ?_
              refine xo_skip rfl (wanted_no (d := 51) rfl rfl (by decide) rfl rfl) ?_
              refine xo_skip rfl (wanted_no (d := 51) rfl rfl (by decide) rfl rfl) ?_
              refine xo_skip rfl (wanted_no (d := 51) rfl rfl (by decide) rfl rfl) ?_
              refine xo_skip rfl (wanted_undef (d := 55) rfl rfl (by decide) rfl) ?_
              refine xo_skip rfl (wanted_undef (d := 55) rfl rfl (by decide) rfl) ?_
              refine xo_skip rfl (wanted_undef (d := 55) rfl rfl (by decide) rfl) ?_
              refine xo_skip rfl (wanted_undef (d := 55) rfl rfl (by decide) rfl) ?_
              refine xo_skip rfl (wanted_undef (d := 55) rfl rfl (by decide) rfl) ?_
              refine xo_skip rfl (wanted_no (d := 51) rfl rfl (by decide) rfl rfl) ?_
              refine xo_pure (v := (.bool false)) rfl (wanted_none rfl _) (p_pickF rfl rfl rfl rfl) ?_
              refine xo_pure (v := (.bool false)) rfl (wanted_none rfl _) (p_assign rfl rfl) ?_
              refine xo_end ?_
              refine r_upd (i := 5) (v := (Sl.v v_14)) rfl ?_
              refine r_upd (i := 6) (v := (Sl.v v_16)) rfl ?_
              refine r_upd (i := 7) (v := (.bool false)) rfl ?_
              exact J3 (v_14, v_16, false) _ _ H
          · clear H; intro hb6 H
            refine xo_skip rfl (wanted_no (d := 30) rfl rfl (by decide) rfl hb6) ?_
            refine xo_skip rfl (wanted_no (d := 30) rfl rfl (by decide) rfl hb6) ?_
            refine xo_skip rfl (wanted_no (d := 30) rfl rfl (by decide) rfl hb6) ?_
            refine xo_skip rfl (wanted_no (d := 30) rfl rfl (by decide) rfl hb6) ?_
            refine xo_skip rfl (wanted_no (d := 30) rfl rfl (by decide) rfl hb6) ?_
            refine xo_pure (v := (.bool false)) rfl (wanted_none rfl _) (p_pickF rfl rfl hb6 rfl) ?_
            refine xo_pure (v := (.bool false)) rfl (wanted_none rfl _) (p_move rfl rfl) ?_
            refine xo_skip rfl (wanted_no (d := 37) rfl rfl (by decide) rfl rfl) ?_
            refine xo_skip rfl (wanted_no (d := 37) rfl rfl (by decide) rfl rfl) ?_
            refine xo_skip rfl (wanted_no (d := 37) rfl rfl (by decide) rfl rfl) ?_
            refine xo_skip rfl (wanted_no (d := 37) rfl rfl (by decide) rfl rfl) ?_
            refine xo_skip rfl (wanted_no (d := 37) rfl rfl (by decide) rfl rfl) ?_
            refine xo_pure (v := (.bool false)) rfl (wanted_none rfl _) (p_pickF rfl rfl rfl rfl) ?_
            refine xo_pure (v := (.bool false)) rfl (wanted_none rfl _) (p_move rfl rfl) ?_
            refine xo_skip rfl (wanted_no (d := 44) rfl rfl (by decide) rfl rfl) ?_
            refine xo_skip rfl (wanted_no (d := 44) rfl rfl (by decide) rfl rfl) ?_
            refine xo_skip rfl (wanted_no (d := 44) rfl rfl (by decide) rfl rfl) ?_
            refine xo_skip rfl (wanted_no (d := 44) rfl rfl (by decide) rfl rfl) ?_
            refine xo_skip rfl (wanted_no (d := 44) rfl rfl (by decide) rfl rfl) ?_
            refine xo_pure (v := (.bool false)) rfl (wanted_none rfl _) (p_pickF rfl rfl rfl rfl) ?_
            refine xo_pure (v := (.bool false)) rfl (wanted_none rfl _) (p_move rfl rfl) ?_
            refine xo_skip rfl (wanted_no (d := 51) rfl rfl (by decide) rfl rfl) ?_
            refine xo_skip rfl (wanted_no (d := 51) rfl rfl (by decide) rfl rfl) ?_
            refine xo_skip rfl (wanted_no (d := 51) rfl rfl (by decide) rfl rfl) ?_
            refine xo_skip rfl (wanted_no (d := 51) rfl rfl (by decide) rfl rfl) ?_
            refine xo_skip rfl (wanted_undef (d := 55) rfl rfl (by decide) rfl) ?_
            refine xo_skip rfl (wanted_undef (d := 55) rfl rfl (by decide) rfl) ?_
            refine xo_skip rfl (wanted_undef (d := 55) rfl rfl (by decide) rfl) ?_
            refine xo_skip rfl (wanted_undef (d := 55) rfl rfl (by decide) rfl) ?_
            refine xo_skip rfl (wanted_undef (d := 55) rfl rfl (by decide) rfl) ?_
            refine xo_skip rfl (wanted_no (d := 51) rfl rfl (by decide) rfl rfl) ?_
            refine xo_pure (v := (.bool false)) rfl (wanted_none rfl _) (p_pickF rfl rfl rfl rfl) ?_
            refine xo_pure (v := (.bool false)) rfl (wanted_none rfl _) (p_assign rfl rfl) ?_
            refine xo_end ?_
            refine r_upd (i := 5) (v := (Sl.v v_14)) rfl ?_
            refine r_upd (i := 6) (v := (Sl.v v_16)) rfl ?_
            refine r_upd (i := 7) (v := (.bool false)) rfl ?_
            exact J3 (v_14, v_16, false) _ _ H
        · clear H; intro hb5 H
          refine xo_skip rfl (wanted_no (d := 23) rfl rfl (by decide) rfl hb5) ?_
          refine xo_skip rfl (wanted_no (d := 23) rfl rfl (by decide) rfl hb5) ?_
          refine xo_skip rfl (wanted_no (d := 23) rfl rfl (by decide) rfl hb5) ?_
          refine xo_skip rfl (wanted_no (d := 23) rfl rfl (by decide) rfl hb5) ?_
          refine xo_skip rfl (wanted_no (d := 23) rfl rfl (by decide) rfl hb5) ?_
          refine xo_pure (v := (.bool false)) rfl (wanted_none rfl _) (p_pickF rfl rfl hb5 rfl) ?_
          refine xo_pure (v := (.bool false)) rfl (wanted_none rfl _) (p_move rfl rfl) ?_
          refine xo_skip rfl (wanted_no (d := 30) rfl rfl (by decide) rfl rfl) ?_
          refine xo_skip rfl (wanted_no (d := 30) rfl rfl (by decide) rfl rfl) ?_
          refine xo_skip rfl (wanted_no (d := 30) rfl rfl (by decide) rfl rfl) ?_
          refine xo_skip rfl (wanted_no (d := 30) rfl rfl (by decide) rfl rfl) ?_
          refine xo_skip rfl (wanted_no (d := 30) rfl rfl (by decide) rfl rfl) ?_
          refine xo_pure (v := (.bool false)) rfl (wanted_none rfl _) (p_pickF rfl rfl rfl rfl) ?_
          refine xo_pure (v := (.bool false)) rfl (wanted_none rfl _) (p_move rfl rfl) ?_
          refine xo_skip rfl (wanted_no (d := 37) rfl rfl (by decide) rfl rfl) ?_
          refine xo_skip rfl (wanted_no (d := 37) rfl rfl (by decide) rfl rfl) ?_
          refine xo_skip rfl (wanted_no (d := 37) rfl rfl (by decide) rfl rfl) ?_
          refine xo_skip rfl (wanted_no (d := 37) rfl rfl (by decide) rfl rfl) ?_
          refine xo_skip rfl (wanted_no (d := 37) rfl rfl (by decide) rfl rfl) ?_
          refine xo_pure (v := (.bool false)) rfl (wanted_none rfl _) (p_pickF rfl rfl rfl rfl) ?_
          refine xo_pure (v := (.bool false)) rfl (wanted_none rfl _) (p_move rfl rfl) ?_
          refine xo_skip rfl (wanted_no (d := 44) rfl rfl (by decide) rfl rfl) ?_
          refine xo_skip rfl (wanted_no (d := 44) rfl rfl (by decide) rfl rfl) ?_
          refine xo_skip rfl (wanted_no (d := 44) rfl rfl (by decide) rfl rfl) ?_
          refine xo_skip rfl (wanted_no (d := 44) rfl rfl (by decide) rfl rfl) ?_
          refine xo_skip rfl (wanted_no (d := 44) rfl rfl (by decide) rfl rfl) ?_
          refine xo_pure (v := (.bool false)) rfl (wanted_none rfl _) (p_pickF rfl rfl rfl rfl) ?_
          refine xo_pure (v := (.bool false)) rfl (wanted_none rfl _) (p_move rfl rfl) ?_
          refine xo_skip rfl (wanted_no (d := 51) rfl rfl (by decide) rfl rfl) ?_
          refine xo_skip rfl (wanted_no (d := 51) rfl rfl (by decide) rfl rfl) ?_
          refine xo_skip rfl (wanted_no (d := 51) rfl rfl (by decide) rfl rfl) ?_
          refine xo_skip rfl (wanted_no (d := 51) rfl rfl (by decide) rfl rfl) ?_
          refine xo_skip rfl (wanted_undef (d := 55) rfl rfl (by decide) rfl) ?_
          refine xo_skip rfl (wanted_undef (d := 55) rfl rfl (by decide) rfl) ?_
          refine xo_skip rfl (wanted_undef (d := 55) rfl rfl (by decide) rfl) ?_
          refine xo_skip rfl (wanted_undef (d := 55) rfl rfl (by decide) rfl) ?_
          refine xo_skip rfl (wanted_undef (d := 55) rfl rfl (by decide) rfl) ?_
          refine xo_skip rfl (wanted_no (d := 51) rfl rfl (by decide) rfl rfl) ?_
          refine xo_pure (v := (.bool false)) rfl (wanted_none rfl _) (p_pickF rfl rfl rfl rfl) ?_
          refine xo_pure (v := (.bool false)) rfl (wanted_none rfl _) (p_assign rfl rfl) ?_
          refine xo_end ?_
          refine r_upd (i := 5) (v := (Sl.v v_14)) rfl ?_
          refine r_upd (i := 6) (v := (Sl.v v_16)) rfl ?_
          refine r_upd (i := 7) (v := (.bool false)) rfl ?_
          exact J3 (v_14, v_16, false) _ _ H

/-! 34 sporran/sporranlaw15.speaks -/
def sporranlaw15_speaks (R : Value → World → Prop)  (w : World) : Prop :=
  CallF Try.prog 36 #[] w fun u_1 w_1 => As Value.pointer u_1 fun v_2 =>
  Built #[(0, 1), (1, 1), (2, 1), (3, 1), (4, 1), (5, 48)] Try.z67 [(0, (.int .i64 1)), (1, (.string (ByteArray.mk #[97]))), (4, (.int .i64 1))] fun c_3 =>
  CallF Try.prog 37 #[(.pointer v_2), (.agg c_3)] w_1 fun u_4 w_2 => As Value.agg u_4 fun v_5 =>
  New Try.z73 73 w_2 fun a_6 w_3 =>
  StN 51 (some a_6) v_5 w_3 fun w_4 =>
  BuiltA 1 Try.z65 [(0, (.int .u8 7))] fun c_7 =>
  Built #[(0, 1), (1, 1), (2, 1), (3, 1), (4, 1), (5, 48)] Try.z67 [(0, (.int .i64 3)), (1, (.string (ByteArray.mk #[97]))), (5, (.agg c_7))] fun c_8 =>
  CallF Try.prog 37 #[(.pointer v_2), (.agg c_8)] w_4 fun u_9 w_5 => As Value.agg u_9 fun v_10 =>
  New Try.z73 73 w_5 fun a_11 w_6 =>
  StN 51 (some a_11) v_10 w_6 fun w_7 =>
  Built #[(0, 1), (1, 1), (2, 1), (3, 1), (4, 1), (5, 48)] Try.z67 [(0, (.int .i64 5)), (1, (.string (ByteArray.mk #[97])))] fun c_12 =>
  CallF Try.prog 37 #[(.pointer v_2), (.agg c_12)] w_7 fun u_13 w_8 => As Value.agg u_13 fun v_14 =>
  New Try.z73 73 w_8 fun a_15 w_9 =>
  StN 51 (some a_15) v_14 w_9 fun w_10 =>
  Ld (Value.int .i64) (some (a_6.add 0)) w_10 fun v_16 =>
  IfB (decide (v_16 = 0)) (
    Ld (Value.int .i64) (some (a_11.add 0)) w_10 fun v_17 =>
    IfB (decide (v_17 = 0)) (
      Ld Value.bool (some (a_15.add 1)) w_10 fun v_18 =>
      IfB v_18 (
        LdN 48 (some (a_15.add 2)) w_10 fun v_19 =>
        BuiltA 1 Try.z65 [(0, (.int .u8 7))] fun c_20 =>
        AggEq Try.prog 65 v_19 c_20 fun b_21 =>
        IfB b_21 (
          CallF Try.prog 64 #[(.pointer v_2)] w_10 fun u_22 w_11 => As (Value.int .i64) u_22 fun v_23 =>
          R (.bool (decide (v_23 = 1))) w_11) (
          R (.bool false) w_10)) (
        R (.bool false) w_10)) (
      R (.bool false) w_10)) (
    R (.bool false) w_10)

theorem sporranlaw15_speaks_ok (R : Value → World → Prop)  (w : World) (H : sporranlaw15_speaks R  w) : CallF Try.prog 34 #[] w R := by
  refine calls_of_runs (fn := Try.f34) Try.func34 rfl (Nat.le_of_ble_eq_true rfl) ?_
  show Runs _ _ 39 _ _ _ _
  unfold sporranlaw15_speaks at H

  refine r_seq ?_
  refine r_region ?_
  refine xo_pure (v := (.bool false)) rfl (wanted_none rfl _) (p_assign rfl rfl) ?_
  refine xo_end ?_
  refine r_seq ?_
  refine r_region ?_
  refine xo_eff rfl (wanted_none rfl _) (e_call (fn := Try.f36) H rfl rfl Try.func36 rfl rfl rfl) ?_
  rintro _ w_1 ⟨v_2, rfl, H⟩
  refine xo_pure (v := (.pointer v_2)) rfl (wanted_none rfl _) (p_assign rfl rfl) ?_
  refine xo_end ?_
  refine r_seq ?_
  refine r_region ?_
  refine xo_pure (v := (.pointer v_2)) rfl (wanted_none rfl _) (p_move rfl rfl) ?_
  obtain ⟨c_3, hflc_3, H⟩ := H
  refine xo_pure (v := (.agg c_3)) rfl (wanted_none rfl _) (p_buildS (places := #[(0, 1), (1, 1), (2, 1), (3, 1), (4, 1), (5, 48)]) rfl Try.pl67 Try.ti67 hflc_3 rfl) ?_
  refine xo_eff rfl (wanted_none rfl _) (e_call (fn := Try.f37) H rfl rfl Try.func37 rfl rfl rfl) ?_
  rintro _ w_2 ⟨v_5, rfl, H⟩
  refine xo_eff rfl (wanted_none rfl _) (e_alloc rfl Try.ti73 H) ?_
  rintro _ w_3 ⟨a_6, rfl, H⟩
  refine xo_effN rfl (wanted_none rfl _) (e_storeN rfl Try.ti73 rfl rfl H) ?_
  intro _ w_4 H
  refine xo_end ?_
  refine r_seq ?_
  refine r_region ?_
  refine xo_pure (v := (.pointer v_2)) rfl (wanted_none rfl _) (p_move rfl rfl) ?_
  obtain ⟨c_7, hflc_7, H⟩ := H
  refine xo_pure (v := (.agg c_7)) rfl (wanted_none rfl _) (p_buildA (size := 1) rfl Try.underlying65 Try.ti65 Try.ti5 hflc_7 rfl) ?_
  obtain ⟨c_8, hflc_8, H⟩ := H
  refine xo_pure (v := (.agg c_8)) rfl (wanted_none rfl _) (p_buildS (places := #[(0, 1), (1, 1), (2, 1), (3, 1), (4, 1), (5, 48)]) rfl Try.pl67 Try.ti67 hflc_8 rfl) ?_
  refine xo_eff rfl (wanted_none rfl _) (e_call (fn := Try.f37) H rfl rfl Try.func37 rfl rfl rfl) ?_
  rintro _ w_5 ⟨v_10, rfl, H⟩
  refine xo_eff rfl (wanted_none rfl _) (e_alloc rfl Try.ti73 H) ?_
  rintro _ w_6 ⟨a_11, rfl, H⟩
  refine xo_effN rfl (wanted_none rfl _) (e_storeN rfl Try.ti73 rfl rfl H) ?_
  intro _ w_7 H
  refine xo_end ?_
  refine r_seq ?_
  refine r_region ?_
  refine xo_pure (v := (.pointer v_2)) rfl (wanted_none rfl _) (p_move rfl rfl) ?_
  obtain ⟨c_12, hflc_12, H⟩ := H
  refine xo_pure (v := (.agg c_12)) rfl (wanted_none rfl _) (p_buildS (places := #[(0, 1), (1, 1), (2, 1), (3, 1), (4, 1), (5, 48)]) rfl Try.pl67 Try.ti67 hflc_12 rfl) ?_
  refine xo_eff rfl (wanted_none rfl _) (e_call (fn := Try.f37) H rfl rfl Try.func37 rfl rfl rfl) ?_
  rintro _ w_8 ⟨v_14, rfl, H⟩
  refine xo_eff rfl (wanted_none rfl _) (e_alloc rfl Try.ti73 H) ?_
  rintro _ w_9 ⟨a_15, rfl, H⟩
  refine xo_effN rfl (wanted_none rfl _) (e_storeN rfl Try.ti73 rfl rfl H) ?_
  intro _ w_10 H
  refine xo_end ?_
  refine r_seq ?_
  refine r_region ?_
  refine xo_pure (v := (.pointer (some (a_6.add 0)))) rfl (wanted_none rfl _) (p_fieldAddr (off := 0) (ft := 31) (size := 1) rfl Try.underlying73 rfl Try.ti31 (by decide) rfl rfl) ?_
  obtain ⟨adv_16, v_16, hev_16, hcv_16, H⟩ := H
  refine xo_read (v := (.int .i64 v_16)) rfl (wanted_none rfl _) (rd_load (ad := adv_16) rfl Try.underlying31 rfl (by show Value.pointer _ = _; rw [hev_16]) hcv_16) ?_
  refine xo_pure (v := (.bool (decide (v_16 = 0)))) rfl (wanted_none rfl _) (p_eq rfl rfl rfl) ?_
  refine xo_pure (v := (.bool (decide (v_16 = 0)))) rfl (wanted_none rfl _) (p_move rfl rfl) ?_
  refine ifB_cases H ?_ ?_
  · clear H; intro hb1 H
    refine xo_pure (v := (.pointer (some (a_11.add 0)))) rfl (wanted_yes (d := 19) rfl rfl (by decide) rfl hb1) (p_fieldAddr (off := 0) (ft := 31) (size := 1) rfl Try.underlying73 rfl Try.ti31 (by decide) rfl rfl) ?_
    obtain ⟨adv_17, v_17, hev_17, hcv_17, H⟩ := H
    refine xo_read (v := (.int .i64 v_17)) rfl (wanted_yes (d := 19) rfl rfl (by decide) rfl hb1) (rd_load (ad := adv_17) rfl Try.underlying31 rfl (by show Value.pointer _ = _; rw [hev_17]) hcv_17) ?_
    refine xo_pure (v := (.bool (decide (v_17 = 0)))) rfl (wanted_yes (d := 19) rfl rfl (by decide) rfl hb1) (p_eq rfl rfl rfl) ?_
    refine xo_pure (v := (.bool (decide (v_17 = 0)))) rfl (wanted_none rfl _) (p_pickT rfl rfl hb1 rfl) ?_
    refine xo_pure (v := (.bool (decide (v_17 = 0)))) rfl (wanted_none rfl _) (p_move rfl rfl) ?_
    refine ifB_cases H ?_ ?_
    · clear H; intro hb2 H
      refine xo_pure (v := (.pointer (some (a_15.add 1)))) rfl (wanted_yes (d := 24) rfl rfl (by decide) rfl hb2) (p_fieldAddr (off := 1) (ft := 4) (size := 1) rfl Try.underlying73 rfl Try.ti4 (by decide) rfl rfl) ?_
      obtain ⟨adv_18, v_18, hev_18, hcv_18, H⟩ := H
      refine xo_read (v := (.bool v_18)) rfl (wanted_yes (d := 24) rfl rfl (by decide) rfl hb2) (rd_load (ad := adv_18) rfl Try.underlying4 rfl (by show Value.pointer _ = _; rw [hev_18]) hcv_18) ?_
      refine xo_pure (v := (.bool v_18)) rfl (wanted_none rfl _) (p_pickT rfl rfl hb2 rfl) ?_
      refine xo_pure (v := (.bool v_18)) rfl (wanted_none rfl _) (p_move rfl rfl) ?_
      refine ifB_cases H ?_ ?_
      · clear H; intro hb3 H
        refine xo_pure (v := (.pointer (some (a_15.add 2)))) rfl (wanted_yes (d := 28) rfl rfl (by decide) rfl hb3) (p_fieldAddr (off := 2) (ft := 65) (size := 48) rfl Try.underlying73 rfl Try.ti65 (by decide) rfl rfl) ?_
        obtain ⟨adv_19, v_19, hev_19, hnv_19, hcv_19, H⟩ := H
        refine xo_read (v := (.agg v_19)) rfl (wanted_yes (d := 28) rfl rfl (by decide) rfl hb3) (rd_loadN (ad := adv_19) rfl Try.underlying65 rfl Try.ti65 (by show Value.pointer _ = _; rw [hev_19]) hnv_19 hcv_19) ?_
        obtain ⟨c_20, hflc_20, H⟩ := H
        refine xo_pure (v := (.agg c_20)) rfl (wanted_yes (d := 28) rfl rfl (by decide) rfl hb3) (p_buildA (size := 1) rfl Try.underlying65 Try.ti65 Try.ti5 hflc_20 rfl) ?_
        obtain ⟨b_21, hqb_21, H⟩ := H
        refine xo_pure (v := (.bool b_21)) rfl (wanted_yes (d := 28) rfl rfl (by decide) rfl hb3) (p_aggEq rfl hqb_21 rfl rfl) ?_
        refine xo_pure (v := (.bool b_21)) rfl (wanted_none rfl _) (p_pickT rfl rfl hb3 rfl) ?_
        refine xo_pure (v := (.bool b_21)) rfl (wanted_none rfl _) (p_move rfl rfl) ?_
        refine ifB_cases H ?_ ?_
        · clear H; intro hb4 H
          refine xo_pure (v := (.pointer v_2)) rfl (wanted_yes (d := 34) rfl rfl (by decide) rfl hb4) (p_move rfl rfl) ?_
          refine xo_eff rfl (wanted_yes (d := 34) rfl rfl (by decide) rfl hb4) (e_call (fn := Try.f64) H rfl rfl Try.func64 rfl rfl rfl) ?_
          rintro _ w_11 ⟨v_23, rfl, H⟩
          refine xo_pure (v := (.bool (decide (v_23 = 1)))) rfl (wanted_yes (d := 34) rfl rfl (by decide) rfl hb4) (p_eq rfl rfl rfl) ?_
          refine xo_pure (v := (.bool (decide (v_23 = 1)))) rfl (wanted_none rfl _) (p_pickT rfl rfl hb4 rfl) ?_
          refine xo_pure (v := (.bool (decide (v_23 = 1)))) rfl (wanted_none rfl _) (p_assign rfl rfl) ?_
          refine xo_end ?_
          exact r_ret (fn := Try.f34) Try.func34 (res_1 rfl ⟨by decide, rfl⟩) H
        · clear H; intro hb4 H
          refine xo_skip rfl (wanted_no (d := 34) rfl rfl (by decide) rfl hb4) ?_
          refine xo_skip rfl (wanted_no (d := 34) rfl rfl (by decide) rfl hb4) ?_
          refine xo_skip rfl (wanted_no (d := 34) rfl rfl (by decide) rfl hb4) ?_
          refine xo_pure (v := (.bool false)) rfl (wanted_none rfl _) (p_pickF rfl rfl hb4 rfl) ?_
          refine xo_pure (v := (.bool false)) rfl (wanted_none rfl _) (p_assign rfl rfl) ?_
          refine xo_end ?_
          exact r_ret (fn := Try.f34) Try.func34 (res_1 rfl ⟨by decide, rfl⟩) H
      · clear H; intro hb3 H
        refine xo_skip rfl (wanted_no (d := 28) rfl rfl (by decide) rfl hb3) ?_
        refine xo_skip rfl (wanted_no (d := 28) rfl rfl (by decide) rfl hb3) ?_
        refine xo_skip rfl (wanted_no (d := 28) rfl rfl (by decide) rfl hb3) ?_
        refine xo_skip rfl (wanted_no (d := 28) rfl rfl (by decide) rfl hb3) ?_
        refine xo_pure (v := (.bool false)) rfl (wanted_none rfl _) (p_pickF rfl rfl hb3 rfl) ?_
        refine xo_pure (v := (.bool false)) rfl (wanted_none rfl _) (p_move rfl rfl) ?_
        refine xo_skip rfl (wanted_no (d := 34) rfl rfl (by decide) rfl rfl) ?_
        refine xo_skip rfl (wanted_no (d := 34) rfl rfl (by decide) rfl rfl) ?_
        refine xo_skip rfl (wanted_no (d := 34) rfl rfl (by decide) rfl rfl) ?_
        refine xo_pure (v := (.bool false)) rfl (wanted_none rfl _) (p_pickF rfl rfl rfl rfl) ?_
        refine xo_pure (v := (.bool false)) rfl (wanted_none rfl _) (p_assign rfl rfl) ?_
        refine xo_end ?_
        exact r_ret (fn := Try.f34) Try.func34 (res_1 rfl ⟨by decide, rfl⟩) H
    · clear H; intro hb2 H
      refine xo_skip rfl (wanted_no (d := 24) rfl rfl (by decide) rfl hb2) ?_
      refine xo_skip rfl (wanted_no (d := 24) rfl rfl (by decide) rfl hb2) ?_
      refine xo_pure (v := (.bool false)) rfl (wanted_none rfl _) (p_pickF rfl rfl hb2 rfl) ?_
      refine xo_pure (v := (.bool false)) rfl (wanted_none rfl _) (p_move rfl rfl) ?_
      refine xo_skip rfl (wanted_no (d := 28) rfl rfl (by decide) rfl rfl) ?_
      refine xo_skip rfl (wanted_no (d := 28) rfl rfl (by decide) rfl rfl) ?_
      refine xo_skip rfl (wanted_no (d := 28) rfl rfl (by decide) rfl rfl) ?_
      refine xo_skip rfl (wanted_no (d := 28) rfl rfl (by decide) rfl rfl) ?_
      refine xo_pure (v := (.bool false)) rfl (wanted_none rfl _) (p_pickF rfl rfl rfl rfl) ?_
      refine xo_pure (v := (.bool false)) rfl (wanted_none rfl _) (p_move rfl rfl) ?_
      refine xo_skip rfl (wanted_no (d := 34) rfl rfl (by decide) rfl rfl) ?_
      refine xo_skip rfl (wanted_no (d := 34) rfl rfl (by decide) rfl rfl) ?_
      refine xo_skip rfl (wanted_no (d := 34) rfl rfl (by decide) rfl rfl) ?_
      refine xo_pure (v := (.bool false)) rfl (wanted_none rfl _) (p_pickF rfl rfl rfl rfl) ?_
      refine xo_pure (v := (.bool false)) rfl (wanted_none rfl _) (p_assign rfl rfl) ?_
      refine xo_end ?_
      exact r_ret (fn := Try.f34) Try.func34 (res_1 rfl ⟨by decide, rfl⟩) H
  · clear H; intro hb1 H
    refine xo_skip rfl (wanted_no (d := 19) rfl rfl (by decide) rfl hb1) ?_
    refine xo_skip rfl (wanted_no (d := 19) rfl rfl (by decide) rfl hb1) ?_
    refine xo_skip rfl (wanted_no (d := 19) rfl rfl (by decide) rfl hb1) ?_
    refine xo_pure (v := (.bool false)) rfl (wanted_none rfl _) (p_pickF rfl rfl hb1 rfl) ?_
    refine xo_pure (v := (.bool false)) rfl (wanted_none rfl _) (p_move rfl rfl) ?_
    refine xo_skip rfl (wanted_no (d := 24) rfl rfl (by decide) rfl rfl) ?_
    refine xo_skip rfl (wanted_no (d := 24) rfl rfl (by decide) rfl rfl) ?_
    refine xo_pure (v := (.bool false)) rfl (wanted_none rfl _) (p_pickF rfl rfl rfl rfl) ?_
    refine xo_pure (v := (.bool false)) rfl (wanted_none rfl _) (p_move rfl rfl) ?_
    refine xo_skip rfl (wanted_no (d := 28) rfl rfl (by decide) rfl rfl) ?_
    refine xo_skip rfl (wanted_no (d := 28) rfl rfl (by decide) rfl rfl) ?_
    refine xo_skip rfl (wanted_no (d := 28) rfl rfl (by decide) rfl rfl) ?_
    refine xo_skip rfl (wanted_no (d := 28) rfl rfl (by decide) rfl rfl) ?_
    refine xo_pure (v := (.bool false)) rfl (wanted_none rfl _) (p_pickF rfl rfl rfl rfl) ?_
    refine xo_pure (v := (.bool false)) rfl (wanted_none rfl _) (p_move rfl rfl) ?_
    refine xo_skip rfl (wanted_no (d := 34) rfl rfl (by decide) rfl rfl) ?_
    refine xo_skip rfl (wanted_no (d := 34) rfl rfl (by decide) rfl rfl) ?_
    refine xo_skip rfl (wanted_no (d := 34) rfl rfl (by decide) rfl rfl) ?_
    refine xo_pure (v := (.bool false)) rfl (wanted_none rfl _) (p_pickF rfl rfl rfl rfl) ?_
    refine xo_pure (v := (.bool false)) rfl (wanted_none rfl _) (p_assign rfl rfl) ?_
    refine xo_end ?_
    exact r_ret (fn := Try.f34) Try.func34 (res_1 rfl ⟨by decide, rfl⟩) H

/-! 35 sporran/sporranlaw15.Great -/
def sporranlaw15_Great_k1 (R : Value → World → Prop) (ag2 : (Sl × Int × Int) → World → Prop) (t8 : Sl) (t9 : Int) (t10 : Int) (t23 : Bool) (w : World) : Prop :=
  IfB t23 (
    R (.bool true) w) (
    ag2 (t8, t9, (IntKind.i64.wrap (t10 + 1))) w)

def sporranlaw15_Great_b0 (R : Value → World → Prop) (ag2 : (Sl × Int × Int) → World → Prop) (t8 : Sl) (t9 : Int) (t10 : Int) (w : World) : Prop :=
  IfB (decide (t10 < t9)) (
    Ix t8 t10 fun p_1 =>
    LdN 53 (some (p_1.add (t10.toNat * 53))) w fun v_2 =>
    New Try.z67 67 w fun a_3 w_1 =>
    StN 53 (some a_3) v_2 w_1 fun w_2 =>
    Ld Value.string (some (a_3.add 1)) w_2 fun v_4 =>
    IfB (decide (100 < (v_4.size : Int))) (
      sporranlaw15_Great_k1 R ag2 t8 t9 t10 true w_2) (
      Ld Value.string (some (a_3.add 2)) w_2 fun v_5 =>
      sporranlaw15_Great_k1 R ag2 t8 t9 t10 (decide (100 < (v_5.size : Int))) w_2)) (
    R (.bool false) w)

def sporranlaw15_Great (R : Value → World → Prop) (ops0 : Sl) (w : World) : Prop :=
  IfB (decide (80 < (ops0.len : Int))) (
    R (.bool true) w) (
    Lp (fun ag (s : Sl × Int × Int) w => sporranlaw15_Great_b0 R ag s.1 s.2.1 s.2.2 w) (ops0, (ops0.len : Int), 0) w)

theorem sporranlaw15_Great_ok (R : Value → World → Prop) (ops0 : Sl) (w : World) (H : sporranlaw15_Great R ops0 w) : CallF Try.prog 35 #[(Sl.v ops0)] w R := by
  refine calls_of_runs (fn := Try.f35) Try.func35 rfl (Nat.le_of_ble_eq_true rfl) ?_
  show Runs _ _ 25 _ _ _ _
  unfold sporranlaw15_Great at H
  refine r_upd (i := 0) (v := (Sl.v ops0)) rfl ?_
  refine r_seq ?_
  refine r_region ?_
  refine xo_pure (v := (.bool false)) rfl (wanted_none rfl _) (p_assign rfl rfl) ?_
  refine xo_end ?_
  refine r_seq ?_
  refine r_seq ?_
  refine r_region ?_
  refine xo_pure (v := (Sl.v ops0)) rfl (wanted_none rfl _) (p_move rfl rfl) ?_
  refine xo_pure (v := (.int .i64 (ops0.len : Int))) rfl (wanted_none rfl _) (p_len rfl Try.underlying63 rfl) ?_
  refine xo_pure (v := (.bool (decide (80 < (ops0.len : Int))))) rfl (wanted_none rfl _) (p_gt rfl rfl rfl) ?_
  refine xo_end ?_
  refine r_condB (b := (decide (80 < (ops0.len : Int)))) rfl H ?_ ?_
  · clear H; intro hb1 H
    refine r_seq ?_
    refine r_region ?_
    refine xo_pure (v := (.bool true)) rfl (wanted_none rfl _) (p_assign rfl rfl) ?_
    refine xo_end ?_
    exact r_ret (fn := Try.f35) Try.func35 (res_1 rfl ⟨by decide, rfl⟩) H
  · clear H; intro hb1 H
    refine r_skip ?_
    refine r_seq ?_
    refine r_seq ?_
    refine r_region ?_
    refine xo_pure (v := (Sl.v ops0)) rfl (wanted_none rfl _) (p_move rfl rfl) ?_
    refine xo_pure (v := (.int .i64 (ops0.len : Int))) rfl (wanted_none rfl _) (p_len rfl Try.underlying63 rfl) ?_
    refine xo_pure (v := (.int .i64 0)) rfl (wanted_none rfl _) (p_move rfl rfl) ?_
    refine xo_end ?_
    refine r_block ?_
    refine r_upd (i := 8) (v := (Sl.v ops0)) rfl ?_
    refine r_upd (i := 9) (v := (.int .i64 (ops0.len : Int))) rfl ?_
    refine r_upd (i := 10) (v := (.int .i64 0)) rfl ?_
    refine r_loopJ (fun (s : Sl × Int × Int) σ => upd 10 (.int .i64 s.2.2) (upd 9 (.int .i64 s.2.1) (upd 8 (Sl.v s.1) (σ)))) (s := (ops0, (ops0.len : Int), 0)) H ?_
    clear H
    rintro ag2 ⟨t8, t9, t10⟩ σ w H hag2
    replace H : sporranlaw15_Great_b0 R ag2 t8 t9 t10 w := H
    show Runs _ _ _ _ _ (upd 10 (.int .i64 t10) (upd 9 (.int .i64 t9) (upd 8 (Sl.v t8) (σ)))) _
    unfold sporranlaw15_Great_b0 at H
    refine r_seq ?_
    refine r_region ?_
    refine xo_pure (v := (.bool (decide (t10 < t9)))) rfl (wanted_none rfl _) (p_lt rfl rfl rfl) ?_
    refine xo_end ?_
    refine r_seq ?_
    refine r_condB (b := (decide (t10 < t9))) rfl H ?_ ?_
    · clear H; intro hb3 H
      refine r_skip ?_
      refine r_seq ?_
      refine r_block ?_
      refine r_seq ?_
      refine r_region ?_
      obtain ⟨p_1, hap_1, hlp_1, hup_1, H⟩ := H
      refine xo_pure (v := (.pointer (some (p_1.add (t10.toNat * 53))))) rfl (wanted_none rfl _) (p_indexAddr (s := t8) (ad := p_1) (size := 53) rfl Try.underlying63 Try.ti67 rfl rfl hap_1 hlp_1 hup_1) ?_
      obtain ⟨adv_2, v_2, hev_2, hnv_2, hcv_2, H⟩ := H
      refine xo_read (v := (.agg v_2)) rfl (wanted_none rfl _) (rd_loadN (ad := adv_2) rfl Try.underlying67 rfl Try.ti67 (by show Value.pointer _ = _; rw [hev_2]) hnv_2 hcv_2) ?_
      refine xo_eff rfl (wanted_none rfl _) (e_alloc rfl Try.ti67 H) ?_
      rintro _ w_1 ⟨a_3, rfl, H⟩
      refine xo_effN rfl (wanted_none rfl _) (e_storeN rfl Try.ti67 rfl rfl H) ?_
      intro _ w_2 H
      refine xo_end ?_
      refine r_seq ?_
      refine r_topJ (fun (s : Sl × Int × Int × Bool) σ => upd 23 (.bool s.2.2.2) (upd 10 (.int .i64 s.2.2.1) (upd 9 (.int .i64 s.2.1) (upd 8 (Sl.v s.1) (σ))))) (fun (s : Sl × Int × Int × Bool) w => sporranlaw15_Great_k1 R ag2 s.1 s.2.1 s.2.2.1 s.2.2.2 w) ?_ ?_
      · rintro ⟨t8, t9, t10, t23⟩ σ w H
        replace H : sporranlaw15_Great_k1 R ag2 t8 t9 t10 t23 w := H
        show Runs _ _ _ _ _ (upd 23 (.bool t23) (upd 10 (.int .i64 t10) (upd 9 (.int .i64 t9) (upd 8 (Sl.v t8) (σ))))) _
        unfold sporranlaw15_Great_k1 at H
        refine r_condB (b := t23) rfl H ?_ ?_
        · clear H; intro hb5 H
          refine r_seq ?_
          refine r_region ?_
          refine xo_pure (v := (.bool true)) rfl (wanted_none rfl _) (p_assign rfl rfl) ?_
          refine xo_end ?_
          exact r_ret (fn := Try.f35) Try.func35 (res_1 rfl ⟨by decide, rfl⟩) H
        · clear H; intro hb5 H
          refine r_skip ?_
          refine r_inBlock ?_
          refine r_region ?_
          refine xo_pure (v := (.int .i64 (IntKind.i64.wrap (t10 + 1)))) rfl (wanted_none rfl _) (p_add rfl rfl rfl) ?_
          refine xo_pure (v := (.int .i64 (IntKind.i64.wrap (t10 + 1)))) rfl (wanted_none rfl _) (p_move rfl rfl) ?_
          refine xo_end ?_
          refine r_upd (i := 8) (v := (Sl.v t8)) rfl ?_
          refine r_upd (i := 9) (v := (.int .i64 t9)) rfl ?_
          refine r_upd (i := 10) (v := (.int .i64 (IntKind.i64.wrap (t10 + 1)))) rfl ?_
          exact hag2 (t8, t9, (IntKind.i64.wrap (t10 + 1))) _ _ H
      · intro J4
        refine r_region ?_
        refine xo_pure (v := (.pointer (some (a_3.add 1)))) rfl (wanted_none rfl _) (p_fieldAddr (off := 1) (ft := 9) (size := 1) rfl Try.underlying67 rfl Try.ti9 (by decide) rfl rfl) ?_
        obtain ⟨adv_4, v_4, hev_4, hcv_4, H⟩ := H
        refine xo_read (v := (.string v_4)) rfl (wanted_none rfl _) (rd_load (ad := adv_4) rfl Try.underlying9 rfl (by show Value.pointer _ = _; rw [hev_4]) hcv_4) ?_
        refine xo_pure (v := (.int .i64 (v_4.size : Int))) rfl (wanted_none rfl _) (p_lenS rfl Try.underlying9 rfl) ?_
        refine xo_pure (v := (.bool (decide (100 < (v_4.size : Int))))) rfl (wanted_none rfl _) (p_gt rfl rfl rfl) ?_
        refine xo_pure (v := (.bool (decide (100 < (v_4.size : Int))))) rfl (wanted_none rfl _) (p_move rfl rfl) ?_
        refine ifB_cases H ?_ ?_
        · clear H; intro hb6 H
          refine xo_skip rfl (wanted_no (d := 18) rfl rfl (by decide) rfl hb6) ?_
          refine xo_skip rfl (wanted_no (d := 18) rfl rfl (by decide) rfl hb6) ?_
          refine xo_skip rfl (wanted_no (d := 18) rfl rfl (by decide) rfl hb6) ?_
          refine xo_skip rfl (wanted_no (d := 18) rfl rfl (by decide) rfl hb6) ?_
          refine xo_pure (v := (.bool true)) rfl (wanted_none rfl _) (p_pickT rfl rfl hb6 rfl) ?_
          refine xo_end ?_
          refine r_upd (i := 8) (v := (Sl.v t8)) rfl ?_
          refine r_upd (i := 9) (v := (.int .i64 t9)) rfl ?_
          refine r_upd (i := 10) (v := (.int .i64 t10)) rfl ?_
          refine r_upd (i := 23) (v := (.bool true)) rfl ?_
          exact J4 (t8, t9, t10, true) _ _ H
        · clear H; intro hb6 H
          refine xo_pure (v := (.pointer (some (a_3.add 2)))) rfl (wanted_yes (d := 18) rfl rfl (by decide) rfl hb6) (p_fieldAddr (off := 2) (ft := 9) (size := 1) rfl Try.underlying67 rfl Try.ti9 (by decide) rfl rfl) ?_
          obtain ⟨adv_5, v_5, hev_5, hcv_5, H⟩ := H
          refine xo_read (v := (.string v_5)) rfl (wanted_yes (d := 18) rfl rfl (by decide) rfl hb6) (rd_load (ad := adv_5) rfl Try.underlying9 rfl (by show Value.pointer _ = _; rw [hev_5]) hcv_5) ?_
          refine xo_pure (v := (.int .i64 (v_5.size : Int))) rfl (wanted_yes (d := 18) rfl rfl (by decide) rfl hb6) (p_lenS rfl Try.underlying9 rfl) ?_
          refine xo_pure (v := (.bool (decide (100 < (v_5.size : Int))))) rfl (wanted_yes (d := 18) rfl rfl (by decide) rfl hb6) (p_gt rfl rfl rfl) ?_
          refine xo_pure (v := (.bool (decide (100 < (v_5.size : Int))))) rfl (wanted_none rfl _) (p_pickF rfl rfl hb6 rfl) ?_
          refine xo_end ?_
          refine r_upd (i := 8) (v := (Sl.v t8)) rfl ?_
          refine r_upd (i := 9) (v := (.int .i64 t9)) rfl ?_
          refine r_upd (i := 10) (v := (.int .i64 t10)) rfl ?_
          refine r_upd (i := 23) (v := (.bool (decide (100 < (v_5.size : Int))))) rfl ?_
          exact J4 (t8, t9, t10, (decide (100 < (v_5.size : Int)))) _ _ H
    · clear H; intro hb3 H
      refine r_exit rfl ?_
      refine r_seq ?_
      refine r_region ?_
      refine xo_pure (v := (.bool false)) rfl (wanted_none rfl _) (p_assign rfl rfl) ?_
      refine xo_end ?_
      exact r_ret (fn := Try.f35) Try.func35 (res_1 rfl ⟨by decide, rfl⟩) H

/-! 36 sporran/model.New -/
def model_New (R : Value → World → Prop)  (w : World) : Prop :=
  Ef Try.prog (Instr.makeMap 163 none) Value.map w fun v_1 w_1 =>
  Built #[(0, 1)] #[(.map none)] [(0, (.map v_1))] fun c_2 =>
  New c_2 165 w_1 fun a_3 w_2 =>
  R (.pointer (some a_3)) w_2

theorem model_New_ok (R : Value → World → Prop)  (w : World) (H : model_New R  w) : CallF Try.prog 36 #[] w R := by
  refine calls_of_runs (fn := Try.f36) Try.func36 rfl (Nat.le_of_ble_eq_true rfl) ?_
  show Runs _ _ 4 _ _ _ _
  unfold model_New at H

  refine r_seq ?_
  refine r_region ?_
  refine xo_pure (v := (.pointer none)) rfl (wanted_none rfl _) (p_assign rfl rfl) ?_
  refine xo_end ?_
  refine r_seq ?_
  refine r_region ?_
  refine xo_eff rfl (wanted_none rfl _) (e_gen (s := Instr.makeMap 163 none) (enc := Value.map) rfl H) ?_
  rintro _ w_1 ⟨v_1, rfl, H⟩
  obtain ⟨c_2, hflc_2, H⟩ := H
  refine xo_pure (v := (.agg c_2)) rfl (wanted_none rfl _) (p_buildS (places := #[(0, 1)]) rfl Try.pl165 Try.ti165 hflc_2 rfl) ?_
  refine xo_eff rfl (wanted_none rfl _) (e_box (v := (.agg c_2)) rfl rfl H) ?_
  rintro _ w_2 ⟨a_3, rfl, H⟩
  refine xo_pure (v := (.pointer (some a_3))) rfl (wanted_none rfl _) (p_assign rfl rfl) ?_
  refine xo_end ?_
  exact r_ret (fn := Try.f36) Try.func36 (res_1 rfl ⟨by decide, rfl⟩) H

/-! 37 (*sporran/model.Model).Do -/
def model_Model_Do_k1 (R : Value → World → Prop) (m0 : Option Addr) (o3 : Option Addr) (t4 : Option Addr) (t8 : Int) (t50 : Bool) (w : World) : Prop :=
  IfB t50 (
    LdN 53 o3 w fun v_31 =>
    CallF Try.prog 94 #[(.pointer m0), (.agg v_31)] w fun u_32 w_15 => As (Value.int .i64) u_32 fun v_33 =>
    Built #[(0, 1), (1, 1), (2, 48), (50, 1)] Try.z73 [(0, (.int .i64 v_33))] fun c_34 =>
    StN 51 t4 c_34 w_15 fun w_16 =>
    LdN 51 t4 w_16 fun r_35 =>
    R (.agg r_35) w_16) (
    IfB (decide (t8 = 8)) (
      NotNil m0 fun p_36 =>
      Ld Value.map (some (p_36.add 0)) w fun v_37 =>
      CallF Try.prog 96 #[(.map v_37)] w fun v_39 w_17 =>
      CallF Try.prog 95 #[v_39] w_17 fun u_40 w_18 => As Sl.v u_40 fun v_41 =>
      Built #[(0, 1), (1, 1), (2, 48), (50, 1)] Try.z73 [(3, (Sl.v v_41))] fun c_42 =>
      StN 51 t4 c_42 w_18 fun w_19 =>
      LdN 51 t4 w_19 fun r_43 =>
      R (.agg r_43) w_19) (
      Built #[(0, 1), (1, 1), (2, 48), (50, 1)] Try.z73 [(0, (.int .i64 1))] fun c_44 =>
      StN 51 t4 c_44 w fun w_20 =>
      LdN 51 t4 w_20 fun r_45 =>
      R (.agg r_45) w_20))

def model_Model_Do_k0 (R : Value → World → Prop) (m0 : Option Addr) (o3 : Option Addr) (t4 : Option Addr) (t8 : Int) (t43 : Bool) (w : World) : Prop :=
  IfB t43 (
    LdN 53 o3 w fun v_27 =>
    CallF Try.prog 93 #[(.pointer m0), (.agg v_27)] w fun u_28 w_13 => As Value.agg u_28 fun v_29 =>
    StN 51 t4 v_29 w_13 fun w_14 =>
    LdN 51 t4 w_14 fun r_30 =>
    R (.agg r_30) w_14) (
    IfB (decide (t8 = 6)) (
      model_Model_Do_k1 R m0 o3 t4 t8 (decide (t8 = 6)) w) (
      model_Model_Do_k1 R m0 o3 t4 t8 (decide (t8 = 7)) w))

def model_Model_Do (R : Value → World → Prop) (m0 : Option Addr) (o1 : Array Value) (w : World) : Prop :=
  New o1 67 w fun a_1 w_1 =>
  New Try.z73 73 w_1 fun a_2 w_2 =>
  Ld (Value.int .i64) (some (a_1.add 0)) w_2 fun v_3 =>
  IfB (decide (v_3 = 1)) (
    Ld Value.string (some (a_1.add 1)) w_2 fun v_4 =>
    Ld (Value.int .i64) (some (a_1.add 4)) w_2 fun v_5 =>
    Ef Try.prog (Instr.makeMap 168 none) Value.map w_2 fun v_6 w_3 =>
    Built #[(0, 1), (1, 1), (2, 1)] #[(.int .i64 0), (.bool false), (.map none)] [(0, (.int .i64 v_5)), (2, (.map v_6))] fun c_7 =>
    New c_7 170 w_3 fun a_8 w_4 =>
    CallF Try.prog 92 #[(.pointer m0), (.string v_4), (.pointer (some a_8)), (.int .i64 0)] w_4 fun u_9 w_5 => As (Value.int .i64) u_9 fun v_10 =>
    Built #[(0, 1), (1, 1), (2, 48), (50, 1)] Try.z73 [(0, (.int .i64 v_10))] fun c_11 =>
    StN 51 (some a_2) c_11 w_5 fun w_6 =>
    LdN 51 (some a_2) w_6 fun r_12 =>
    R (.agg r_12) w_6) (
    IfB (decide (v_3 = 2)) (
      NotNil m0 fun p_13 =>
      Ld Value.map (some (p_13.add 0)) (World.drew w_2) fun v_14 =>
      Ld Value.string (some (a_1.add 1)) (World.drew w_2) fun v_15 =>
      Ef Try.prog (Instr.lookup 163 (.map v_14) (.string v_15) true) id (World.drew w_2) fun u_18 w_8 => AsT2 Value.pointer Value.bool u_18 fun v_16 v_17 =>
      IfB (!v_17) (
        Built #[(0, 1), (1, 1), (2, 48), (50, 1)] Try.z73 [(0, (.int .i64 5))] fun c_19 =>
        StN 51 (some a_2) c_19 w_8 fun w_9 =>
        LdN 51 (some a_2) w_9 fun r_20 =>
        R (.agg r_20) w_9) (
        NotNil m0 fun p_21 =>
        Ld Value.map (some (p_21.add 0)) (World.drew w_8) fun v_22 =>
        Ld Value.string (some (a_1.add 1)) (World.drew w_8) fun v_23 =>
        Ef Try.prog (Builtin.delete_ #[163, 9] 0 #[(.map v_22), (.string v_23)]) id (World.drew w_8) fun v_24 w_11 =>
        Built #[(0, 1), (1, 1), (2, 48), (50, 1)] Try.z73 [] fun c_25 =>
        StN 51 (some a_2) c_25 w_11 fun w_12 =>
        LdN 51 (some a_2) w_12 fun r_26 =>
        R (.agg r_26) w_12)) (
      IfB (decide (v_3 = 3)) (
        model_Model_Do_k0 R m0 (some a_1) (some a_2) v_3 (decide (v_3 = 3)) w_2) (
        IfB (decide (v_3 = 4)) (
          model_Model_Do_k0 R m0 (some a_1) (some a_2) v_3 (decide (v_3 = 4)) w_2) (
          model_Model_Do_k0 R m0 (some a_1) (some a_2) v_3 (decide (v_3 = 5)) w_2))))

theorem model_Model_Do_ok (R : Value → World → Prop) (m0 : Option Addr) (o1 : Array Value) (w : World) (H : model_Model_Do R m0 o1 w) : CallF Try.prog 37 #[(.pointer m0), (.agg o1)] w R := by
  refine calls_of_runs (fn := Try.f37) Try.func37 rfl (Nat.le_of_ble_eq_true rfl) ?_
  show Runs _ _ 67 _ _ _ _
  unfold model_Model_Do at H
  refine r_upd (i := 0) (v := (.pointer m0)) rfl ?_
  refine r_upd (i := 1) (v := (.agg o1)) rfl ?_
  refine r_seq ?_
  refine r_region ?_
  refine xo_eff rfl (wanted_none rfl _) (e_box (v := (.agg o1)) rfl rfl H) ?_
  rintro _ w_1 ⟨a_1, rfl, H⟩
  refine xo_eff rfl (wanted_none rfl _) (e_alloc rfl Try.ti73 H) ?_
  rintro _ w_2 ⟨a_2, rfl, H⟩
  refine xo_end ?_
  refine r_seq ?_
  refine r_seq ?_
  refine r_region ?_
  refine xo_pure (v := (.pointer (some (a_1.add 0)))) rfl (wanted_none rfl _) (p_fieldAddr (off := 0) (ft := 3) (size := 1) rfl Try.underlying67 rfl Try.ti3 (by decide) rfl rfl) ?_
  obtain ⟨adv_3, v_3, hev_3, hcv_3, H⟩ := H
  refine xo_read (v := (.int .i64 v_3)) rfl (wanted_none rfl _) (rd_load (ad := adv_3) rfl Try.underlying3 rfl (by show Value.pointer _ = _; rw [hev_3]) hcv_3) ?_
  refine xo_end ?_
  refine r_block ?_
  refine r_seq ?_
  refine r_region ?_
  refine xo_pure (v := (.bool (decide (v_3 = 1)))) rfl (wanted_none rfl _) (p_eq rfl rfl rfl) ?_
  refine xo_pure (v := (.bool (decide (v_3 = 1)))) rfl (wanted_none rfl _) (p_assign rfl rfl) ?_
  refine xo_end ?_
  refine r_condB (b := (decide (v_3 = 1))) rfl H ?_ ?_
  · clear H; intro hb1 H
    refine r_seq ?_
    refine r_region ?_
    refine xo_pure (v := (.pointer m0)) rfl (wanted_none rfl _) (p_move rfl rfl) ?_
    refine xo_pure (v := (.pointer (some (a_1.add 1)))) rfl (wanted_none rfl _) (p_fieldAddr (off := 1) (ft := 9) (size := 1) rfl Try.underlying67 rfl Try.ti9 (by decide) rfl rfl) ?_
    obtain ⟨adv_4, v_4, hev_4, hcv_4, H⟩ := H
    refine xo_read (v := (.string v_4)) rfl (wanted_none rfl _) (rd_load (ad := adv_4) rfl Try.underlying9 rfl (by show Value.pointer _ = _; rw [hev_4]) hcv_4) ?_
    refine xo_pure (v := (.pointer (some (a_1.add 4)))) rfl (wanted_none rfl _) (p_fieldAddr (off := 4) (ft := 3) (size := 1) rfl Try.underlying67 rfl Try.ti3 (by decide) rfl rfl) ?_
    obtain ⟨adv_5, v_5, hev_5, hcv_5, H⟩ := H
    refine xo_read (v := (.int .i64 v_5)) rfl (wanted_none rfl _) (rd_load (ad := adv_5) rfl Try.underlying3 rfl (by show Value.pointer _ = _; rw [hev_5]) hcv_5) ?_
    refine xo_eff rfl (wanted_none rfl _) (e_gen (s := Instr.makeMap 168 none) (enc := Value.map) rfl H) ?_
    rintro _ w_3 ⟨v_6, rfl, H⟩
    obtain ⟨c_7, hflc_7, H⟩ := H
    refine xo_pure (v := (.agg c_7)) rfl (wanted_none rfl _) (p_buildS (places := #[(0, 1), (1, 1), (2, 1)]) rfl Try.pl170 Try.ti170 hflc_7 rfl) ?_
    refine xo_eff rfl (wanted_none rfl _) (e_box (v := (.agg c_7)) rfl rfl H) ?_
    rintro _ w_4 ⟨a_8, rfl, H⟩
    refine xo_eff rfl (wanted_none rfl _) (e_call (fn := Try.f92) H rfl rfl Try.func92 rfl rfl rfl) ?_
    rintro _ w_5 ⟨v_10, rfl, H⟩
    obtain ⟨c_11, hflc_11, H⟩ := H
    refine xo_pure (v := (.agg c_11)) rfl (wanted_none rfl _) (p_buildS (places := #[(0, 1), (1, 1), (2, 48), (50, 1)]) rfl Try.pl73 Try.ti73 hflc_11 rfl) ?_
    refine xo_effN rfl (wanted_none rfl _) (e_storeN rfl Try.ti73 rfl rfl H) ?_
    intro _ w_6 H
    refine xo_end ?_
    obtain ⟨adr_12, r_12, her_12, hnr_12, hrr_12, H⟩ := H
    exact r_ret (fn := Try.f37) Try.func37 (res_1 rfl (resV_cellN (by decide) (by show Value.pointer _ = _; rw [her_12]) Try.underlying73 rfl Try.ti73 hnr_12 hrr_12)) H
  · clear H; intro hb1 H
    refine r_seq ?_
    refine r_region ?_
    refine xo_pure (v := (.bool (decide (v_3 = 2)))) rfl (wanted_none rfl _) (p_eq rfl rfl rfl) ?_
    refine xo_pure (v := (.bool (decide (v_3 = 2)))) rfl (wanted_none rfl _) (p_assign rfl rfl) ?_
    refine xo_end ?_
    refine r_condB (b := (decide (v_3 = 2))) rfl H ?_ ?_
    · clear H; intro hb2 H
      refine r_seq ?_
      refine r_seq ?_
      refine r_draw #[[], [0], [0, 1], [0, 1, 2], [], [4], [0, 1, 2, 3, 4, 5], [0, 1, 2, 3, 4, 5, 6], [0, 1, 2, 3, 4, 5, 6, 7], [0, 1, 2, 3, 4, 5, 6, 7], [0, 1, 2, 3, 4, 5, 6, 7, 8], [0, 1, 2, 3, 4, 5, 6, 7, 8, 9, 10]] 12 rfl rfl ?_
      refine xa_pure (v := (.pointer m0)) 0 (by decide +kernel) rfl rfl (wanted_none rfl _) (p_move rfl rfl) ?_
      obtain ⟨p_13, hpp_13, H⟩ := H
      refine xa_pure (v := (.pointer (some p_13))) 1 (by decide +kernel) rfl rfl (wanted_none rfl _) (p_nilCheck rfl rfl hpp_13) ?_
      refine xa_pure (v := (.pointer (some (p_13.add 0)))) 2 (by decide +kernel) rfl rfl (wanted_none rfl _) (p_fieldAddr (off := 0) (ft := 163) (size := 1) rfl Try.underlying165 rfl Try.ti163 (by decide) rfl rfl) ?_
      obtain ⟨adv_14, v_14, hev_14, hcv_14, H⟩ := H
      refine xa_read (v := (.map v_14)) (S := (fun w => w.cell? adv_14 = some (.map v_14))) 3 (by decide +kernel) rfl rfl (wanted_none rfl _) (fun w hc => rd_load (ad := adv_14) rfl Try.underlying163 rfl (by show Value.pointer _ = _; rw [hev_14]) hc) hcv_14 ?_
      refine xa_pure (v := (.pointer (some (a_1.add 1)))) 4 (by decide +kernel) rfl rfl (wanted_none rfl _) (p_fieldAddr (off := 1) (ft := 9) (size := 1) rfl Try.underlying67 rfl Try.ti9 (by decide) rfl rfl) ?_
      obtain ⟨adv_15, v_15, hev_15, hcv_15, H⟩ := H
      refine xa_read (v := (.string v_15)) (S := (fun w => w.cell? adv_15 = some (.string v_15))) 5 (by decide +kernel) rfl rfl (wanted_none rfl _) (fun w hc => rd_load (ad := adv_15) rfl Try.underlying9 rfl (by show Value.pointer _ = _; rw [hev_15]) hc) hcv_15 ?_
      refine xa_eff 6 [] (by decide +kernel) rfl rfl rfl (wanted_none rfl _) (e_genV (s := Instr.lookup 163 (.map v_14) (.string v_15) true) rfl H) ?_
      rintro _ w_8 ⟨v_16, v_17, rfl, H⟩
      refine ⟨AllHeld.nil, ?_⟩
      refine xa_pure (v := (.tuple #[(.pointer v_16), (.bool v_17)])) 7 (by decide +kernel) rfl rfl (wanted_none rfl _) (p_move rfl rfl) ?_
      refine xa_pure (v := (.pointer v_16)) 8 (by decide +kernel) rfl rfl (wanted_none rfl _) (p_extract (vs := #[(.pointer v_16), (.bool v_17)]) rfl rfl rfl) ?_
      refine xa_pure (v := (.bool v_17)) 9 (by decide +kernel) rfl rfl (wanted_none rfl _) (p_extract (vs := #[(.pointer v_16), (.bool v_17)]) rfl rfl rfl) ?_
      refine xa_pure (v := (.pointer v_16)) 10 (by decide +kernel) rfl rfl (wanted_none rfl _) (p_assign rfl rfl) ?_
      refine xa_pure (v := (.bool v_17)) 11 (by decide +kernel) rfl rfl (wanted_none rfl _) (p_assign rfl rfl) ?_
      refine xa_end (by decide +kernel) ?_
      refine r_seq ?_
      refine r_region ?_
      refine xo_pure (v := (.bool v_17)) rfl (wanted_none rfl _) (p_move rfl rfl) ?_
      refine xo_pure (v := (.bool (!v_17))) rfl (wanted_none rfl _) (p_not rfl rfl) ?_
      refine xo_end ?_
      refine r_condB (b := (!v_17)) rfl H ?_ ?_
      · clear H; intro hb3 H
        refine r_seq ?_
        refine r_region ?_
        obtain ⟨c_19, hflc_19, H⟩ := H
        refine xo_pure (v := (.agg c_19)) rfl (wanted_none rfl _) (p_buildS (places := #[(0, 1), (1, 1), (2, 48), (50, 1)]) rfl Try.pl73 Try.ti73 hflc_19 rfl) ?_
        refine xo_effN rfl (wanted_none rfl _) (e_storeN rfl Try.ti73 rfl rfl H) ?_
        intro _ w_9 H
        refine xo_end ?_
        obtain ⟨adr_20, r_20, her_20, hnr_20, hrr_20, H⟩ := H
        exact r_ret (fn := Try.f37) Try.func37 (res_1 rfl (resV_cellN (by decide) (by show Value.pointer _ = _; rw [her_20]) Try.underlying73 rfl Try.ti73 hnr_20 hrr_20)) H
      · clear H; intro hb3 H
        refine r_skip ?_
        refine r_seq ?_
        refine r_draw #[[], [0], [0, 1], [0, 1, 2], [], [4], [0, 1, 2, 3, 4, 5]] 7 rfl rfl ?_
        refine xa_pure (v := (.pointer m0)) 0 (by decide +kernel) rfl rfl (wanted_none rfl _) (p_move rfl rfl) ?_
        obtain ⟨p_21, hpp_21, H⟩ := H
        refine xa_pure (v := (.pointer (some p_21))) 1 (by decide +kernel) rfl rfl (wanted_none rfl _) (p_nilCheck rfl rfl hpp_21) ?_
        refine xa_pure (v := (.pointer (some (p_21.add 0)))) 2 (by decide +kernel) rfl rfl (wanted_none rfl _) (p_fieldAddr (off := 0) (ft := 163) (size := 1) rfl Try.underlying165 rfl Try.ti163 (by decide) rfl rfl) ?_
        obtain ⟨adv_22, v_22, hev_22, hcv_22, H⟩ := H
        refine xa_read (v := (.map v_22)) (S := (fun w => w.cell? adv_22 = some (.map v_22))) 3 (by decide +kernel) rfl rfl (wanted_none rfl _) (fun w hc => rd_load (ad := adv_22) rfl Try.underlying163 rfl (by show Value.pointer _ = _; rw [hev_22]) hc) hcv_22 ?_
        refine xa_pure (v := (.pointer (some (a_1.add 1)))) 4 (by decide +kernel) rfl rfl (wanted_none rfl _) (p_fieldAddr (off := 1) (ft := 9) (size := 1) rfl Try.underlying67 rfl Try.ti9 (by decide) rfl rfl) ?_
        obtain ⟨adv_23, v_23, hev_23, hcv_23, H⟩ := H
        refine xa_read (v := (.string v_23)) (S := (fun w => w.cell? adv_23 = some (.string v_23))) 5 (by decide +kernel) rfl rfl (wanted_none rfl _) (fun w hc => rd_load (ad := adv_23) rfl Try.underlying9 rfl (by show Value.pointer _ = _; rw [hev_23]) hc) hcv_23 ?_
        refine xa_effN 6 [] (by decide +kernel) rfl rfl rfl (wanted_none rfl _) (e_biV (b := .delete) H rfl rfl rfl) ?_
        intro v_24 w_11 H
        refine ⟨AllHeld.nil, ?_⟩
        refine xa_end (by decide +kernel) ?_
        refine r_seq ?_
        refine r_region ?_
        obtain ⟨c_25, hflc_25, H⟩ := H
        refine xo_pure (v := (.agg c_25)) rfl (wanted_none rfl _) (p_buildS (places := #[(0, 1), (1, 1), (2, 48), (50, 1)]) rfl Try.pl73 Try.ti73 hflc_25 rfl) ?_
        refine xo_effN rfl (wanted_none rfl _) (e_storeN rfl Try.ti73 rfl rfl H) ?_
        intro _ w_12 H
        refine xo_end ?_
        obtain ⟨adr_26, r_26, her_26, hnr_26, hrr_26, H⟩ := H
        exact r_ret (fn := Try.f37) Try.func37 (res_1 rfl (resV_cellN (by decide) (by show Value.pointer _ = _; rw [her_26]) Try.underlying73 rfl Try.ti73 hnr_26 hrr_26)) H
    · clear H; intro hb2 H
      refine r_seqJ (fun (s : Option Addr × Option Addr × Option Addr × Int × Bool) σ => upd 43 (.bool s.2.2.2.2) (upd 8 (.int .i64 s.2.2.2.1) (upd 4 (.pointer s.2.2.1) (upd 3 (.pointer s.2.1) (upd 0 (.pointer s.1) (σ)))))) (fun (s : Option Addr × Option Addr × Option Addr × Int × Bool) w => model_Model_Do_k0 R s.1 s.2.1 s.2.2.1 s.2.2.2.1 s.2.2.2.2 w) ?_ ?_
      · rintro ⟨m0, o3, t4, t8, t43⟩ σ w H
        replace H : model_Model_Do_k0 R m0 o3 t4 t8 t43 w := H
        show Runs _ _ _ _ _ (upd 43 (.bool t43) (upd 8 (.int .i64 t8) (upd 4 (.pointer t4) (upd 3 (.pointer o3) (upd 0 (.pointer m0) (σ)))))) _
        unfold model_Model_Do_k0 at H
        refine r_condB (b := t43) rfl H ?_ ?_
        · clear H; intro hb5 H
          refine r_seq ?_
          refine r_region ?_
          refine xo_pure (v := (.pointer m0)) rfl (wanted_none rfl _) (p_move rfl rfl) ?_
          obtain ⟨adv_27, v_27, hev_27, hnv_27, hcv_27, H⟩ := H
          refine xo_read (v := (.agg v_27)) rfl (wanted_none rfl _) (rd_loadN (ad := adv_27) rfl Try.underlying67 rfl Try.ti67 (by show Value.pointer _ = _; rw [hev_27]) hnv_27 hcv_27) ?_
          refine xo_eff rfl (wanted_none rfl _) (e_call (fn := Try.f93) H rfl rfl Try.func93 rfl rfl rfl) ?_
          rintro _ w_13 ⟨v_29, rfl, H⟩
          refine xo_effN rfl (wanted_none rfl _) (e_storeN rfl Try.ti73 rfl rfl H) ?_
          intro _ w_14 H
          refine xo_end ?_
          obtain ⟨adr_30, r_30, her_30, hnr_30, hrr_30, H⟩ := H
          exact r_ret (fn := Try.f37) Try.func37 (res_1 rfl (resV_cellN (by decide) (by show Value.pointer _ = _; rw [her_30]) Try.underlying73 rfl Try.ti73 hnr_30 hrr_30)) H
        · clear H; intro hb5 H
          refine r_seqJ (fun (s : Option Addr × Option Addr × Option Addr × Int × Bool) σ => upd 50 (.bool s.2.2.2.2) (upd 8 (.int .i64 s.2.2.2.1) (upd 4 (.pointer s.2.2.1) (upd 3 (.pointer s.2.1) (upd 0 (.pointer s.1) (σ)))))) (fun (s : Option Addr × Option Addr × Option Addr × Int × Bool) w => model_Model_Do_k1 R s.1 s.2.1 s.2.2.1 s.2.2.2.1 s.2.2.2.2 w) ?_ ?_
          · rintro ⟨m0, o3, t4, t8, t50⟩ σ w H
            replace H : model_Model_Do_k1 R m0 o3 t4 t8 t50 w := H
            show Runs _ _ _ _ _ (upd 50 (.bool t50) (upd 8 (.int .i64 t8) (upd 4 (.pointer t4) (upd 3 (.pointer o3) (upd 0 (.pointer m0) (σ)))))) _
            unfold model_Model_Do_k1 at H
            refine r_condB (b := t50) rfl H ?_ ?_
            · clear H; intro hb7 H
              refine r_seq ?_
              refine r_region ?_
              refine xo_pure (v := (.pointer m0)) rfl (wanted_none rfl _) (p_move rfl rfl) ?_
              obtain ⟨adv_31, v_31, hev_31, hnv_31, hcv_31, H⟩ := H
              refine xo_read (v := (.agg v_31)) rfl (wanted_none rfl _) (rd_loadN (ad := adv_31) rfl Try.underlying67 rfl Try.ti67 (by show Value.pointer _ = _; rw [hev_31]) hnv_31 hcv_31) ?_
              refine xo_eff rfl (wanted_none rfl _) (e_call (fn := Try.f94) H rfl rfl Try.func94 rfl rfl rfl) ?_
              rintro _ w_15 ⟨v_33, rfl, H⟩
              obtain ⟨c_34, hflc_34, H⟩ := H
              refine xo_pure (v := (.agg c_34)) rfl (wanted_none rfl _) (p_buildS (places := #[(0, 1), (1, 1), (2, 48), (50, 1)]) rfl Try.pl73 Try.ti73 hflc_34 rfl) ?_
              refine xo_effN rfl (wanted_none rfl _) (e_storeN rfl Try.ti73 rfl rfl H) ?_
              intro _ w_16 H
              refine xo_end ?_
              obtain ⟨adr_35, r_35, her_35, hnr_35, hrr_35, H⟩ := H
              exact r_ret (fn := Try.f37) Try.func37 (res_1 rfl (resV_cellN (by decide) (by show Value.pointer _ = _; rw [her_35]) Try.underlying73 rfl Try.ti73 hnr_35 hrr_35)) H
            · clear H; intro hb7 H
              refine r_seq ?_
              refine r_region ?_
              refine xo_pure (v := (.bool (decide (t8 = 8)))) rfl (wanted_none rfl _) (p_eq rfl rfl rfl) ?_
              refine xo_pure (v := (.bool (decide (t8 = 8)))) rfl (wanted_none rfl _) (p_assign rfl rfl) ?_
              refine xo_end ?_
              refine r_condB (b := (decide (t8 = 8))) rfl H ?_ ?_
              · clear H; intro hb8 H
                refine r_seq ?_
                refine r_region ?_
                refine xo_pure (v := (.pointer m0)) rfl (wanted_none rfl _) (p_move rfl rfl) ?_
                obtain ⟨p_36, hpp_36, H⟩ := H
                refine xo_pure (v := (.pointer (some p_36))) rfl (wanted_none rfl _) (p_nilCheck rfl rfl hpp_36) ?_
                refine xo_pure (v := (.pointer (some (p_36.add 0)))) rfl (wanted_none rfl _) (p_fieldAddr (off := 0) (ft := 163) (size := 1) rfl Try.underlying165 rfl Try.ti163 (by decide) rfl rfl) ?_
                obtain ⟨adv_37, v_37, hev_37, hcv_37, H⟩ := H
                refine xo_read (v := (.map v_37)) rfl (wanted_none rfl _) (rd_load (ad := adv_37) rfl Try.underlying163 rfl (by show Value.pointer _ = _; rw [hev_37]) hcv_37) ?_
                refine xo_eff rfl (wanted_none rfl _) (e_call (fn := Try.f96) H rfl rfl Try.func96 rfl rfl rfl) ?_
                intro v_39 w_17 H
                refine xo_eff rfl (wanted_none rfl _) (e_call (fn := Try.f95) H rfl rfl Try.func95 rfl rfl rfl) ?_
                rintro _ w_18 ⟨v_41, rfl, H⟩
                obtain ⟨c_42, hflc_42, H⟩ := H
                refine xo_pure (v := (.agg c_42)) rfl (wanted_none rfl _) (p_buildS (places := #[(0, 1), (1, 1), (2, 48), (50, 1)]) rfl Try.pl73 Try.ti73 hflc_42 rfl) ?_
                refine xo_effN rfl (wanted_none rfl _) (e_storeN rfl Try.ti73 rfl rfl H) ?_
                intro _ w_19 H
                refine xo_end ?_
                obtain ⟨adr_43, r_43, her_43, hnr_43, hrr_43, H⟩ := H
                exact r_ret (fn := Try.f37) Try.func37 (res_1 rfl (resV_cellN (by decide) (by show Value.pointer _ = _; rw [her_43]) Try.underlying73 rfl Try.ti73 hnr_43 hrr_43)) H
              · clear H; intro hb8 H
                refine r_skip ?_
                refine r_inBlock ?_
                refine r_seq ?_
                refine r_region ?_
                obtain ⟨c_44, hflc_44, H⟩ := H
                refine xo_pure (v := (.agg c_44)) rfl (wanted_none rfl _) (p_buildS (places := #[(0, 1), (1, 1), (2, 48), (50, 1)]) rfl Try.pl73 Try.ti73 hflc_44 rfl) ?_
                refine xo_effN rfl (wanted_none rfl _) (e_storeN rfl Try.ti73 rfl rfl H) ?_
                intro _ w_20 H
                refine xo_end ?_
                obtain ⟨adr_45, r_45, her_45, hnr_45, hrr_45, H⟩ := H
                exact r_ret (fn := Try.f37) Try.func37 (res_1 rfl (resV_cellN (by decide) (by show Value.pointer _ = _; rw [her_45]) Try.underlying73 rfl Try.ti73 hnr_45 hrr_45)) H
          · intro J6
            refine r_seq ?_
            refine r_region ?_
            refine xo_pure (v := (.bool (decide (t8 = 6)))) rfl (wanted_none rfl _) (p_eq rfl rfl rfl) ?_
            refine xo_pure (v := (.bool (decide (t8 = 6)))) rfl (wanted_none rfl _) (p_assign rfl rfl) ?_
            refine xo_end ?_
            refine r_condB (b := (decide (t8 = 6))) rfl H ?_ ?_
            · clear H; intro hb9 H
              refine r_skip ?_
              refine r_upd (i := 0) (v := (.pointer m0)) rfl ?_
              refine r_upd (i := 3) (v := (.pointer o3)) rfl ?_
              refine r_upd (i := 4) (v := (.pointer t4)) rfl ?_
              refine r_upd (i := 8) (v := (.int .i64 t8)) rfl ?_
              refine r_upd (i := 50) (v := (.bool (decide (t8 = 6)))) rfl ?_
              exact J6 (m0, o3, t4, t8, (decide (t8 = 6))) _ _ H
            · clear H; intro hb9 H
              refine r_region ?_
              refine xo_pure (v := (.bool (decide (t8 = 7)))) rfl (wanted_none rfl _) (p_eq rfl rfl rfl) ?_
              refine xo_pure (v := (.bool (decide (t8 = 7)))) rfl (wanted_none rfl _) (p_assign rfl rfl) ?_
              refine xo_end ?_
              refine r_upd (i := 0) (v := (.pointer m0)) rfl ?_
              refine r_upd (i := 3) (v := (.pointer o3)) rfl ?_
              refine r_upd (i := 4) (v := (.pointer t4)) rfl ?_
              refine r_upd (i := 8) (v := (.int .i64 t8)) rfl ?_
              refine r_upd (i := 50) (v := (.bool (decide (t8 = 7)))) rfl ?_
              exact J6 (m0, o3, t4, t8, (decide (t8 = 7))) _ _ H
      · intro J4
        refine r_seq ?_
        refine r_region ?_
        refine xo_pure (v := (.bool (decide (v_3 = 3)))) rfl (wanted_none rfl _) (p_eq rfl rfl rfl) ?_
        refine xo_pure (v := (.bool (decide (v_3 = 3)))) rfl (wanted_none rfl _) (p_assign rfl rfl) ?_
        refine xo_end ?_
        refine r_condB (b := (decide (v_3 = 3))) rfl H ?_ ?_
        · clear H; intro hb10 H
          refine r_skip ?_
          refine r_upd (i := 0) (v := (.pointer m0)) rfl ?_
          refine r_upd (i := 3) (v := (.pointer (some a_1))) rfl ?_
          refine r_upd (i := 4) (v := (.pointer (some a_2))) rfl ?_
          refine r_upd (i := 8) (v := (.int .i64 v_3)) rfl ?_
          refine r_upd (i := 43) (v := (.bool (decide (v_3 = 3)))) rfl ?_
          exact J4 (m0, (some a_1), (some a_2), v_3, (decide (v_3 = 3))) _ _ H
        · clear H; intro hb10 H
          refine r_seq ?_
          refine r_region ?_
          refine xo_pure (v := (.bool (decide (v_3 = 4)))) rfl (wanted_none rfl _) (p_eq rfl rfl rfl) ?_
          refine xo_pure (v := (.bool (decide (v_3 = 4)))) rfl (wanted_none rfl _) (p_assign rfl rfl) ?_
          refine xo_end ?_
          refine r_condB (b := (decide (v_3 = 4))) rfl H ?_ ?_
          · clear H; intro hb11 H
            refine r_skip ?_
            refine r_upd (i := 0) (v := (.pointer m0)) rfl ?_
            refine r_upd (i := 3) (v := (.pointer (some a_1))) rfl ?_
            refine r_upd (i := 4) (v := (.pointer (some a_2))) rfl ?_
            refine r_upd (i := 8) (v := (.int .i64 v_3)) rfl ?_
            refine r_upd (i := 43) (v := (.bool (decide (v_3 = 4)))) rfl ?_
            exact J4 (m0, (some a_1), (some a_2), v_3, (decide (v_3 = 4))) _ _ H
          · clear H; intro hb11 H
            refine r_region ?_
            refine xo_pure (v := (.bool (decide (v_3 = 5)))) rfl (wanted_none rfl _) (p_eq rfl rfl rfl) ?_
            refine xo_pure (v := (.bool (decide (v_3 = 5)))) rfl (wanted_none rfl _) (p_assign rfl rfl) ?_
            refine xo_end ?_
            refine r_upd (i := 0) (v := (.pointer m0)) rfl ?_
            refine r_upd (i := 3) (v := (.pointer (some a_1))) rfl ?_
            refine r_upd (i := 4) (v := (.pointer (some a_2))) rfl ?_
            refine r_upd (i := 8) (v := (.int .i64 v_3)) rfl ?_
            refine r_upd (i := 43) (v := (.bool (decide (v_3 = 5)))) rfl ?_
            exact J4 (m0, (some a_1), (some a_2), v_3, (decide (v_3 = 5))) _ _ H
end Go.Proofs
