/- Laid by program. -/
import Derived.Test.YtnjilbgcflbghaaXFT
set_option linter.all false
set_option linter.unusedVariables false
set_option linter.unusedSimpArgs false
set_option maxRecDepth 20000
set_option maxHeartbeats 4000000
namespace Go.Proofs
open Go Go.X
/-! 6 sporran/sporranlaw15.ModelTrims -/
def sporranlaw15_ModelTrims_k2 (R : Value → World → Prop) (ag4 : (Option Addr × Option Addr × Sl × Int × Int) → World → Prop) (o3 : Option Addr) (m5 : Option Addr) (read8 : Option Addr) (t55 : Bool) (w : World) : Prop :=
  IfB t55 (
    R (.bool false) w) (
    NotNil o3 fun p_23 =>
    St (some (p_23.add 0)) (.int .i64 3) w fun w_15 =>
    LdN 53 o3 w_15 fun v_24 =>
    CallF Try.prog 37 #[(.pointer m5), (.agg v_24)] w_15 fun u_25 w_16 => As Value.agg u_25 fun v_26 =>
    New Try.z73 73 w_16 fun a_27 w_17 =>
    StN 51 (some a_27) v_26 w_17 fun w_18 =>
    LdN 53 read8 w_18 fun v_28 =>
    CallF Try.prog 37 #[(.pointer m5), (.agg v_28)] w_18 fun u_29 w_19 => As Value.agg u_29 fun v_30 =>
    New Try.z73 73 w_19 fun a_31 w_20 =>
    StN 51 (some a_31) v_30 w_20 fun w_21 =>
    Ld (Value.int .i64) (some (a_27.add 0)) w_21 fun v_32 =>
    IfB (decide (v_32 = 8)) (
      Ld Value.bool (some (a_31.add 1)) w_21 fun v_33 =>
      IfB (!v_33) (
        R (.bool true) w_21) (
        Ld (Value.int .i64) (some (a_27.add 0)) w_21 fun v_34 =>
        IfB (decide (v_34 = 0)) (
          Ld Value.bool (some (a_31.add 1)) w_21 fun v_35 =>
          IfB v_35 (
            LdN 48 (some (a_31.add 2)) w_21 fun v_36 =>
            NotNil o3 fun p_37 =>
            LdN 48 (some (p_37.add 5)) w_21 fun v_38 =>
            AggEq Try.prog 65 v_36 v_38 fun b_39 =>
            R (.bool b_39) w_21) (
            R (.bool false) w_21)) (
          R (.bool false) w_21))) (
      Ld (Value.int .i64) (some (a_27.add 0)) w_21 fun v_40 =>
      IfB (decide (v_40 = 0)) (
        Ld Value.bool (some (a_31.add 1)) w_21 fun v_41 =>
        IfB v_41 (
          LdN 48 (some (a_31.add 2)) w_21 fun v_42 =>
          NotNil o3 fun p_43 =>
          LdN 48 (some (p_43.add 5)) w_21 fun v_44 =>
          AggEq Try.prog 65 v_42 v_44 fun b_45 =>
          R (.bool b_45) w_21) (
          R (.bool false) w_21)) (
        R (.bool false) w_21)))

def sporranlaw15_ModelTrims_b1 (R : Value → World → Prop) (ag4 : (Option Addr × Option Addr × Sl × Int × Int) → World → Prop) (o3 : Option Addr) (m5 : Option Addr) (t22 : Sl) (t23 : Int) (t24 : Int) (w : World) : Prop :=
  IfB (decide (t24 < t23)) (
    Ix t22 t24 fun p_6 =>
    LdN 53 (some (p_6.add (t24.toNat * 53))) w fun v_7 =>
    New Try.z67 67 w fun a_8 w_4 =>
    StN 53 (some a_8) v_7 w_4 fun w_5 =>
    LdN 53 (some a_8) w_5 fun v_9 =>
    CallF Try.prog 37 #[(.pointer m5), (.agg v_9)] w_5 fun u_10 w_6 => As Value.agg u_10 fun v_11 =>
    ag4 (o3, m5, t22, t23, (IntKind.i64.wrap (t24 + 1))) w_6) (
    NotNil o3 fun p_12 =>
    St (some (p_12.add 0)) (.int .i64 4) w fun w_7 =>
    LdN 53 o3 w_7 fun v_13 =>
    CallF Try.prog 37 #[(.pointer m5), (.agg v_13)] w_7 fun u_14 w_8 => As Value.agg u_14 fun v_15 =>
    At (Value.int .i64) v_15 0 fun f_16 =>
    IfB (!decide (f_16 = 0)) (
      R (.bool true) w_8) (
      LdN 53 o3 w_8 fun v_17 =>
      New Try.z67 67 w_8 fun a_18 w_9 =>
      StN 53 (some a_18) v_17 w_9 fun w_10 =>
      St (some (a_18.add 0)) (.int .i64 5) w_10 fun w_11 =>
      LdN 53 (some a_18) w_11 fun v_19 =>
      CallF Try.prog 37 #[(.pointer m5), (.agg v_19)] w_11 fun u_20 w_12 => As Value.agg u_20 fun v_21 =>
      New Try.z73 73 w_12 fun a_22 w_13 =>
      StN 51 (some a_22) v_21 w_13 fun w_14 =>
      Ld (Value.int .i64) (some (a_22.add 0)) w_14 fun v_46 =>
      IfB (!decide (v_46 = 0)) (
        sporranlaw15_ModelTrims_k2 R ag4 o3 m5 (some a_18) true w_14) (
        Ld Value.bool (some (a_22.add 1)) w_14 fun v_47 =>
        IfB v_47 (
          sporranlaw15_ModelTrims_k2 R ag4 o3 m5 (some a_18) true w_14) (
          LdN 48 (some (a_22.add 2)) w_14 fun v_48 =>
          BuiltA 1 Try.z65 [] fun c_49 =>
          AggEq Try.prog 65 v_48 c_49 fun b_50 =>
          sporranlaw15_ModelTrims_k2 R ag4 o3 m5 (some a_18) (!b_50) w_14))))

def sporranlaw15_ModelTrims_k0 (R : Value → World → Prop) (ops0 : Sl) (o3 : Option Addr) (t20 : Bool) (w : World) : Prop :=
  IfB t20 (
    R (.bool true) w) (
    CallF Try.prog 36 #[] w fun u_4 w_3 => As Value.pointer u_4 fun v_5 =>
    Lp (fun ag (s : Option Addr × Option Addr × Sl × Int × Int) w => sporranlaw15_ModelTrims_b1 R ag s.1 s.2.1 s.2.2.1 s.2.2.2.1 s.2.2.2.2 w) (o3, v_5, ops0, (ops0.len : Int), 0) w_3)

def sporranlaw15_ModelTrims (R : Value → World → Prop) (ops0 : Sl) (o1 : Array Value) (w : World) : Prop :=
  New o1 67 w fun a_1 w_1 =>
  CallF Try.prog 34 #[] w_1 fun u_2 w_2 => As Value.bool u_2 fun v_3 =>
  IfB (!v_3) (
    R (.bool false) w_2) (
    CallF Try.prog 35 #[(Sl.v ops0)] w_2 fun u_51 w_22 => As Value.bool u_51 fun v_52 =>
    IfB v_52 (
      sporranlaw15_ModelTrims_k0 R ops0 (some a_1) true w_22) (
      LdN 53 (some a_1) w_22 fun v_53 =>
      v_53.size = 53 ∧ (
      New v_53 67 w_22 fun a_54 w_23 =>
      CallF Try.prog 35 #[(Sl.v ⟨some a_54, 1, 1⟩)] w_23 fun u_56 w_24 => As Value.bool u_56 fun v_57 =>
      sporranlaw15_ModelTrims_k0 R ops0 (some a_1) v_57 w_24)))

theorem sporranlaw15_ModelTrims_ok (R : Value → World → Prop) (ops0 : Sl) (o1 : Array Value) (w : World) (H : sporranlaw15_ModelTrims R ops0 o1 w) : CallF Try.prog 6 #[(Sl.v ops0), (.agg o1)] w R := by
  refine calls_of_runs (fn := Try.f6) Try.func6 rfl (Nat.le_of_ble_eq_true rfl) ?_
  show Runs _ _ 87 _ _ _ _
  unfold sporranlaw15_ModelTrims at H
  refine r_upd (i := 0) (v := (Sl.v ops0)) rfl ?_
  refine r_upd (i := 1) (v := (.agg o1)) rfl ?_
  refine r_seq ?_
  refine r_region ?_
  refine xo_eff rfl (wanted_none rfl _) (e_box (v := (.agg o1)) rfl rfl H) ?_
  rintro _ w_1 ⟨a_1, rfl, H⟩
  refine xo_pure (v := (.bool false)) rfl (wanted_none rfl _) (p_assign rfl rfl) ?_
  refine xo_end ?_
  refine r_seq ?_
  refine r_seq ?_
  refine r_region ?_
  refine xo_eff rfl (wanted_none rfl _) (e_call (fn := Try.f34) H rfl rfl Try.func34 rfl rfl rfl) ?_
  rintro _ w_2 ⟨v_3, rfl, H⟩
  refine xo_pure (v := (.bool (!v_3))) rfl (wanted_none rfl _) (p_not rfl rfl) ?_
  refine xo_end ?_
  refine r_condB (b := (!v_3)) rfl H ?_ ?_
  · clear H; intro hb1 H
    refine r_seq ?_
    refine r_region ?_
    refine xo_pure (v := (.bool false)) rfl (wanted_none rfl _) (p_assign rfl rfl) ?_
    refine xo_end ?_
    exact r_ret (fn := Try.f6) Try.func6 (res_1 rfl ⟨by decide, rfl⟩) H
  · clear H; intro hb1 H
    refine r_skip ?_
    refine r_seq ?_
    refine r_seq ?_
    refine r_topJ (fun (s : Sl × Option Addr × Bool) σ => upd 20 (.bool s.2.2) (upd 3 (.pointer s.2.1) (upd 0 (Sl.v s.1) (σ)))) (fun (s : Sl × Option Addr × Bool) w => sporranlaw15_ModelTrims_k0 R s.1 s.2.1 s.2.2 w) ?_ ?_
    · rintro ⟨ops0, o3, t20⟩ σ w H
      replace H : sporranlaw15_ModelTrims_k0 R ops0 o3 t20 w := H
      show Runs _ _ _ _ _ (upd 20 (.bool t20) (upd 3 (.pointer o3) (upd 0 (Sl.v ops0) (σ)))) _
      unfold sporranlaw15_ModelTrims_k0 at H
      refine r_condB (b := t20) rfl H ?_ ?_
      · clear H; intro hb3 H
        refine r_seq ?_
        refine r_region ?_
        refine xo_pure (v := (.bool true)) rfl (wanted_none rfl _) (p_assign rfl rfl) ?_
        refine xo_end ?_
        exact r_ret (fn := Try.f6) Try.func6 (res_1 rfl ⟨by decide, rfl⟩) H
      · clear H; intro hb3 H
        refine r_skip ?_
        refine r_seq ?_
        refine r_region ?_
        refine xo_eff rfl (wanted_none rfl _) (e_call (fn := Try.f36) H rfl rfl Try.func36 rfl rfl rfl) ?_
        rintro _ w_3 ⟨v_5, rfl, H⟩
        refine xo_pure (v := (.pointer v_5)) rfl (wanted_none rfl _) (p_assign rfl rfl) ?_
        refine xo_end ?_
        refine r_seq ?_
        refine r_seq ?_
        refine r_region ?_
        refine xo_pure (v := (Sl.v ops0)) rfl (wanted_none rfl _) (p_move rfl rfl) ?_
        refine xo_pure (v := (.int .i64 (ops0.len : Int))) rfl (wanted_none rfl _) (p_len rfl Try.underlying63 rfl) ?_
        refine xo_pure (v := (.int .i64 0)) rfl (wanted_none rfl _) (p_move rfl rfl) ?_
        refine xo_end ?_
        refine r_block ?_
        refine r_upd (i := 3) (v := (.pointer o3)) rfl ?_
        refine r_upd (i := 5) (v := (.pointer v_5)) rfl ?_
        refine r_upd (i := 22) (v := (Sl.v ops0)) rfl ?_
        refine r_upd (i := 23) (v := (.int .i64 (ops0.len : Int))) rfl ?_
        refine r_upd (i := 24) (v := (.int .i64 0)) rfl ?_
        refine r_loopJ (fun (s : Option Addr × Option Addr × Sl × Int × Int) σ => upd 24 (.int .i64 s.2.2.2.2) (upd 23 (.int .i64 s.2.2.2.1) (upd 22 (Sl.v s.2.2.1) (upd 5 (.pointer s.2.1) (upd 3 (.pointer s.1) (σ)))))) (s := (o3, v_5, ops0, (ops0.len : Int), 0)) H ?_
        clear H
        rintro ag4 ⟨o3, m5, t22, t23, t24⟩ σ w H hag4
        replace H : sporranlaw15_ModelTrims_b1 R ag4 o3 m5 t22 t23 t24 w := H
        show Runs _ _ _ _ _ (upd 24 (.int .i64 t24) (upd 23 (.int .i64 t23) (upd 22 (Sl.v t22) (upd 5 (.pointer m5) (upd 3 (.pointer o3) (σ)))))) _
        unfold sporranlaw15_ModelTrims_b1 at H
        refine r_seq ?_
        refine r_region ?_
        refine xo_pure (v := (.bool (decide (t24 < t23)))) rfl (wanted_none rfl _) (p_lt rfl rfl rfl) ?_
        refine xo_end ?_
        refine r_seq ?_
        refine r_condB (b := (decide (t24 < t23))) rfl H ?_ ?_
        · clear H; intro hb5 H
          refine r_skip ?_
          refine r_seq ?_
          refine r_block ?_
          refine r_seq ?_
          refine r_region ?_
          obtain ⟨p_6, hap_6, hlp_6, hup_6, H⟩ := H
          refine xo_pure (v := (.pointer (some (p_6.add (t24.toNat * 53))))) rfl (wanted_none rfl _) (p_indexAddr (s := t22) (ad := p_6) (size := 53) rfl Try.underlying63 Try.ti67 rfl rfl hap_6 hlp_6 hup_6) ?_
          obtain ⟨adv_7, v_7, hev_7, hnv_7, hcv_7, H⟩ := H
          refine xo_read (v := (.agg v_7)) rfl (wanted_none rfl _) (rd_loadN (ad := adv_7) rfl Try.underlying67 rfl Try.ti67 (by show Value.pointer _ = _; rw [hev_7]) hnv_7 hcv_7) ?_
          refine xo_eff rfl (wanted_none rfl _) (e_alloc rfl Try.ti67 H) ?_
          rintro _ w_4 ⟨a_8, rfl, H⟩
          refine xo_effN rfl (wanted_none rfl _) (e_storeN rfl Try.ti67 rfl rfl H) ?_
          intro _ w_5 H
          refine xo_end ?_
          refine r_region ?_
          refine xo_pure (v := (.pointer m5)) rfl (wanted_none rfl _) (p_move rfl rfl) ?_
          obtain ⟨adv_9, v_9, hev_9, hnv_9, hcv_9, H⟩ := H
          refine xo_read (v := (.agg v_9)) rfl (wanted_none rfl _) (rd_loadN (ad := adv_9) rfl Try.underlying67 rfl Try.ti67 (by show Value.pointer _ = _; rw [hev_9]) hnv_9 hcv_9) ?_
          refine xo_eff rfl (wanted_none rfl _) (e_call (fn := Try.f37) H rfl rfl Try.func37 rfl rfl rfl) ?_
          rintro _ w_6 ⟨v_11, rfl, H⟩
          refine xo_end ?_
          refine r_inBlock ?_
          refine r_region ?_
          refine xo_pure (v := (.int .i64 (IntKind.i64.wrap (t24 + 1)))) rfl (wanted_none rfl _) (p_add rfl rfl rfl) ?_
          refine xo_pure (v := (.int .i64 (IntKind.i64.wrap (t24 + 1)))) rfl (wanted_none rfl _) (p_move rfl rfl) ?_
          refine xo_end ?_
          refine r_upd (i := 3) (v := (.pointer o3)) rfl ?_
          refine r_upd (i := 5) (v := (.pointer m5)) rfl ?_
          refine r_upd (i := 22) (v := (Sl.v t22)) rfl ?_
          refine r_upd (i := 23) (v := (.int .i64 t23)) rfl ?_
          refine r_upd (i := 24) (v := (.int .i64 (IntKind.i64.wrap (t24 + 1)))) rfl ?_
          exact hag4 (o3, m5, t22, t23, (IntKind.i64.wrap (t24 + 1))) _ _ H
        · clear H; intro hb5 H
          refine r_exit rfl ?_
          refine r_seq ?_
          refine r_region ?_
          obtain ⟨p_12, hpp_12, H⟩ := H
          refine xo_pure (v := (.pointer (some (p_12.add 0)))) rfl (wanted_none rfl _) (p_fieldAddr (off := 0) (ft := 3) (size := 1) rfl Try.underlying67 rfl Try.ti3 (by decide) rfl hpp_12) ?_
          refine xo_effN rfl (wanted_none rfl _) (e_store rfl Try.ti3 rfl rfl rfl H) ?_
          intro _ w_7 H
          refine xo_end ?_
          refine r_seq ?_
          refine r_seq ?_
          refine r_region ?_
          refine xo_pure (v := (.pointer m5)) rfl (wanted_none rfl _) (p_move rfl rfl) ?_
          obtain ⟨adv_13, v_13, hev_13, hnv_13, hcv_13, H⟩ := H
          refine xo_read (v := (.agg v_13)) rfl (wanted_none rfl _) (rd_loadN (ad := adv_13) rfl Try.underlying67 rfl Try.ti67 (by show Value.pointer _ = _; rw [hev_13]) hnv_13 hcv_13) ?_
          refine xo_eff rfl (wanted_none rfl _) (e_call (fn := Try.f37) H rfl rfl Try.func37 rfl rfl rfl) ?_
          rintro _ w_8 ⟨v_15, rfl, H⟩
          obtain ⟨f_16, hff_16, H⟩ := H
          refine xo_pure (v := (.int .i64 f_16)) rfl (wanted_none rfl _) (p_field1 (off := 0) (ft := 31) rfl Try.underlying73 rfl Try.underlying31 rfl rfl hff_16) ?_
          refine xo_pure (v := (.bool (!decide (f_16 = 0)))) rfl (wanted_none rfl _) (p_ne rfl rfl rfl) ?_
          refine xo_end ?_
          refine r_condB (b := (!decide (f_16 = 0))) rfl H ?_ ?_
          · clear H; intro hb6 H
            refine r_seq ?_
            refine r_region ?_
            refine xo_pure (v := (.bool true)) rfl (wanted_none rfl _) (p_assign rfl rfl) ?_
            refine xo_end ?_
            exact r_ret (fn := Try.f6) Try.func6 (res_1 rfl ⟨by decide, rfl⟩) H
          · clear H; intro hb6 H
            refine r_skip ?_
            refine r_seq ?_
            refine r_region ?_
            obtain ⟨adv_17, v_17, hev_17, hnv_17, hcv_17, H⟩ := H
            refine xo_read (v := (.agg v_17)) rfl (wanted_none rfl _) (rd_loadN (ad := adv_17) rfl Try.underlying67 rfl Try.ti67 (by show Value.pointer _ = _; rw [hev_17]) hnv_17 hcv_17) ?_
            refine xo_eff rfl (wanted_none rfl _) (e_alloc rfl Try.ti67 H) ?_
            rintro _ w_9 ⟨a_18, rfl, H⟩
            refine xo_effN rfl (wanted_none rfl _) (e_storeN rfl Try.ti67 rfl rfl H) ?_
            intro _ w_10 H
            refine xo_end ?_
            refine r_seq ?_
            refine r_region ?_
            refine xo_pure (v := (.pointer (some (a_18.add 0)))) rfl (wanted_none rfl _) (p_fieldAddr (off := 0) (ft := 3) (size := 1) rfl Try.underlying67 rfl Try.ti3 (by decide) rfl rfl) ?_
            refine xo_effN rfl (wanted_none rfl _) (e_store rfl Try.ti3 rfl rfl rfl H) ?_
            intro _ w_11 H
            refine xo_end ?_
            refine r_seq ?_
            refine r_region ?_
            refine xo_pure (v := (.pointer m5)) rfl (wanted_none rfl _) (p_move rfl rfl) ?_
            obtain ⟨adv_19, v_19, hev_19, hnv_19, hcv_19, H⟩ := H
            refine xo_read (v := (.agg v_19)) rfl (wanted_none rfl _) (rd_loadN (ad := adv_19) rfl Try.underlying67 rfl Try.ti67 (by show Value.pointer _ = _; rw [hev_19]) hnv_19 hcv_19) ?_
            refine xo_eff rfl (wanted_none rfl _) (e_call (fn := Try.f37) H rfl rfl Try.func37 rfl rfl rfl) ?_
            rintro _ w_12 ⟨v_21, rfl, H⟩
            refine xo_eff rfl (wanted_none rfl _) (e_alloc rfl Try.ti73 H) ?_
            rintro _ w_13 ⟨a_22, rfl, H⟩
            refine xo_effN rfl (wanted_none rfl _) (e_storeN rfl Try.ti73 rfl rfl H) ?_
            intro _ w_14 H
            refine xo_end ?_
            refine r_seq ?_
            refine r_seq ?_
            refine r_topJ (fun (s : Option Addr × Option Addr × Option Addr × Bool) σ => upd 55 (.bool s.2.2.2) (upd 8 (.pointer s.2.2.1) (upd 5 (.pointer s.2.1) (upd 3 (.pointer s.1) (σ))))) (fun (s : Option Addr × Option Addr × Option Addr × Bool) w => sporranlaw15_ModelTrims_k2 R ag4 s.1 s.2.1 s.2.2.1 s.2.2.2 w) ?_ ?_
            · rintro ⟨o3, m5, read8, t55⟩ σ w H
              replace H : sporranlaw15_ModelTrims_k2 R ag4 o3 m5 read8 t55 w := H
              show Runs _ _ _ _ _ (upd 55 (.bool t55) (upd 8 (.pointer read8) (upd 5 (.pointer m5) (upd 3 (.pointer o3) (σ))))) _
              unfold sporranlaw15_ModelTrims_k2 at H
              refine r_condB (b := t55) rfl H ?_ ?_
              · clear H; intro hb8 H
                refine r_seq ?_
                refine r_region ?_
                refine xo_pure (v := (.bool false)) rfl (wanted_none rfl _) (p_assign rfl rfl) ?_
                refine xo_end ?_
                exact r_ret (fn := Try.f6) Try.func6 (res_1 rfl ⟨by decide, rfl⟩) H
              · clear H; intro hb8 H
                refine r_skip ?_
                refine r_seq ?_
                refine r_region ?_
                obtain ⟨p_23, hpp_23, H⟩ := H
                refine xo_pure (v := (.pointer (some (p_23.add 0)))) rfl (wanted_none rfl _) (p_fieldAddr (off := 0) (ft := 3) (size := 1) rfl Try.underlying67 rfl Try.ti3 (by decide) rfl hpp_23) ?_
                refine xo_effN rfl (wanted_none rfl _) (e_store rfl Try.ti3 rfl rfl rfl H) ?_
                intro _ w_15 H
                refine xo_end ?_
                refine r_seq ?_
                refine r_region ?_
                refine xo_pure (v := (.pointer m5)) rfl (wanted_none rfl _) (p_move rfl rfl) ?_
                obtain ⟨adv_24, v_24, hev_24, hnv_24, hcv_24, H⟩ := H
                refine xo_read (v := (.agg v_24)) rfl (wanted_none rfl _) (rd_loadN (ad := adv_24) rfl Try.underlying67 rfl Try.ti67 (by show Value.pointer _ = _; rw [hev_24]) hnv_24 hcv_24) ?_
                refine xo_eff rfl (wanted_none rfl _) (e_call (fn := Try.f37) H rfl rfl Try.func37 rfl rfl rfl) ?_
                rintro _ w_16 ⟨v_26, rfl, H⟩
                refine xo_eff rfl (wanted_none rfl _) (e_alloc rfl Try.ti73 H) ?_
                rintro _ w_17 ⟨a_27, rfl, H⟩
                refine xo_effN rfl (wanted_none rfl _) (e_storeN rfl Try.ti73 rfl rfl H) ?_
                intro _ w_18 H
                refine xo_end ?_
                refine r_seq ?_
                refine r_region ?_
                refine xo_pure (v := (.pointer m5)) rfl (wanted_none rfl _) (p_move rfl rfl) ?_
                obtain ⟨adv_28, v_28, hev_28, hnv_28, hcv_28, H⟩ := H
                refine xo_read (v := (.agg v_28)) rfl (wanted_none rfl _) (rd_loadN (ad := adv_28) rfl Try.underlying67 rfl Try.ti67 (by show Value.pointer _ = _; rw [hev_28]) hnv_28 hcv_28) ?_
                refine xo_eff rfl (wanted_none rfl _) (e_call (fn := Try.f37) H rfl rfl Try.func37 rfl rfl rfl) ?_
                rintro _ w_19 ⟨v_30, rfl, H⟩
                refine xo_eff rfl (wanted_none rfl _) (e_alloc rfl Try.ti73 H) ?_
                rintro _ w_20 ⟨a_31, rfl, H⟩
                refine xo_effN rfl (wanted_none rfl _) (e_storeN rfl Try.ti73 rfl rfl H) ?_
                intro _ w_21 H
                refine xo_end ?_
                refine r_seq ?_
                refine r_region ?_
                refine xo_pure (v := (.pointer (some (a_27.add 0)))) rfl (wanted_none rfl _) (p_fieldAddr (off := 0) (ft := 31) (size := 1) rfl Try.underlying73 rfl Try.ti31 (by decide) rfl rfl) ?_
                obtain ⟨adv_32, v_32, hev_32, hcv_32, H⟩ := H
                refine xo_read (v := (.int .i64 v_32)) rfl (wanted_none rfl _) (rd_load (ad := adv_32) rfl Try.underlying31 rfl (by show Value.pointer _ = _; rw [hev_32]) hcv_32) ?_
                refine xo_pure (v := (.bool (decide (v_32 = 8)))) rfl (wanted_none rfl _) (p_eq rfl rfl rfl) ?_
                refine xo_pure (v := (.bool (decide (v_32 = 8)))) rfl (wanted_none rfl _) (p_move rfl rfl) ?_
                refine ifB_cases H ?_ ?_
                · clear H; intro hb9 H
                  refine xo_pure (v := (.pointer (some (a_31.add 1)))) rfl (wanted_yes (d := 66) rfl rfl (by decide) rfl hb9) (p_fieldAddr (off := 1) (ft := 4) (size := 1) rfl Try.underlying73 rfl Try.ti4 (by decide) rfl rfl) ?_
                  obtain ⟨adv_33, v_33, hev_33, hcv_33, H⟩ := H
                  refine xo_read (v := (.bool v_33)) rfl (wanted_yes (d := 66) rfl rfl (by decide) rfl hb9) (rd_load (ad := adv_33) rfl Try.underlying4 rfl (by show Value.pointer _ = _; rw [hev_33]) hcv_33) ?_
                  refine xo_pure (v := (.bool (!v_33))) rfl (wanted_yes (d := 66) rfl rfl (by decide) rfl hb9) (p_not rfl rfl) ?_
                  refine xo_pure (v := (.bool (!v_33))) rfl (wanted_none rfl _) (p_pickT rfl rfl hb9 rfl) ?_
                  refine xo_pure (v := (.bool (!v_33))) rfl (wanted_none rfl _) (p_move rfl rfl) ?_
                  refine ifB_cases H ?_ ?_
                  · clear H; intro hb10 H
                    refine xo_skip rfl (wanted_no (d := 71) rfl rfl (by decide) rfl hb10) ?_
                    refine xo_skip rfl (wanted_no (d := 71) rfl rfl (by decide) rfl hb10) ?_
                    refine xo_skip rfl (wanted_no (d := 71) rfl rfl (by decide) rfl hb10) ?_
                    refine xo_skip rfl (wanted_no (d := 71) rfl rfl (by decide) rfl hb10) ?_
                    refine xo_skip rfl (wanted_undef (d := 75) rfl rfl (by decide) rfl) ?_
                    refine xo_skip rfl (wanted_undef (d := 75) rfl rfl (by decide) rfl) ?_
                    refine xo_skip rfl (wanted_no (d := 71) rfl rfl (by decide) rfl hb10) ?_
                    refine xo_skip rfl (wanted_no (d := 71) rfl rfl (by decide) rfl hb10) ?_
                    refine xo_skip rfl (wanted_undef (d := 79) rfl rfl (by decide) rfl) ?_
                    refine xo_skip rfl (wanted_undef (d := 79) rfl rfl (by decide) rfl) ?_
                    refine xo_skip rfl (wanted_undef (d := 79) rfl rfl (by decide) rfl) ?_
                    refine xo_skip rfl (wanted_undef (d := 79) rfl rfl (by decide) rfl) ?_
                    refine xo_skip rfl (wanted_undef (d := 79) rfl rfl (by decide) rfl) ?_
                    refine xo_skip rfl (wanted_no (d := 71) rfl rfl (by decide) rfl hb10) ?_
                    refine xo_pure (v := (.bool true)) rfl (wanted_none rfl _) (p_pickT rfl rfl hb10 rfl) ?_
                    refine xo_pure (v := (.bool true)) rfl (wanted_none rfl _) (p_assign rfl rfl) ?_
                    refine xo_end ?_
                    exact r_ret (fn := Try.f6) Try.func6 (res_1 rfl ⟨by decide, rfl⟩) H
                  · clear H; intro hb10 H
                    refine xo_pure (v := (.pointer (some (a_27.add 0)))) rfl (wanted_yes (d := 71) rfl rfl (by decide) rfl hb10) (p_fieldAddr (off := 0) (ft := 31) (size := 1) rfl Try.underlying73 rfl Try.ti31 (by decide) rfl rfl) ?_
                    obtain ⟨adv_34, v_34, hev_34, hcv_34, H⟩ := H
                    refine xo_read (v := (.int .i64 v_34)) rfl (wanted_yes (d := 71) rfl rfl (by decide) rfl hb10) (rd_load (ad := adv_34) rfl Try.underlying31 rfl (by show Value.pointer _ = _; rw [hev_34]) hcv_34) ?_
                    refine xo_pure (v := (.bool (decide (v_34 = 0)))) rfl (wanted_yes (d := 71) rfl rfl (by decide) rfl hb10) (p_eq rfl rfl rfl) ?_
                    refine xo_pure (v := (.bool (decide (v_34 = 0)))) rfl (wanted_yes (d := 71) rfl rfl (by decide) rfl hb10) (p_move rfl rfl) ?_
                    refine ifB_cases H ?_ ?_
                    · clear H; intro hb11 H
                      refine xo_pure (v := (.pointer (some (a_31.add 1)))) rfl (wanted_yes (d := 75) rfl rfl (by decide) rfl hb11) (p_fieldAddr (off := 1) (ft := 4) (size := 1) rfl Try.underlying73 rfl Try.ti4 (by decide) rfl rfl) ?_
                      obtain ⟨adv_35, v_35, hev_35, hcv_35, H⟩ := H
                      refine xo_read (v := (.bool v_35)) rfl (wanted_yes (d := 75) rfl rfl (by decide) rfl hb11) (rd_load (ad := adv_35) rfl Try.underlying4 rfl (by show Value.pointer _ = _; rw [hev_35]) hcv_35) ?_
                      refine xo_pure (v := (.bool v_35)) rfl (wanted_yes (d := 71) rfl rfl (by decide) rfl hb10) (p_pickT rfl rfl hb11 rfl) ?_
                      refine xo_pure (v := (.bool v_35)) rfl (wanted_yes (d := 71) rfl rfl (by decide) rfl hb10) (p_move rfl rfl) ?_
                      refine ifB_cases H ?_ ?_
                      · clear H; intro hb12 H
                        refine xo_pure (v := (.pointer (some (a_31.add 2)))) rfl (wanted_yes (d := 79) rfl rfl (by decide) rfl hb12) (p_fieldAddr (off := 2) (ft := 65) (size := 48) rfl Try.underlying73 rfl Try.ti65 (by decide) rfl rfl) ?_
                        obtain ⟨adv_36, v_36, hev_36, hnv_36, hcv_36, H⟩ := H
                        refine xo_read (v := (.agg v_36)) rfl (wanted_yes (d := 79) rfl rfl (by decide) rfl hb12) (rd_loadN (ad := adv_36) rfl Try.underlying65 rfl Try.ti65 (by show Value.pointer _ = _; rw [hev_36]) hnv_36 hcv_36) ?_
                        obtain ⟨p_37, hpp_37, H⟩ := H
                        refine xo_pure (v := (.pointer (some (p_37.add 5)))) rfl (wanted_yes (d := 79) rfl rfl (by decide) rfl hb12) (p_fieldAddr (off := 5) (ft := 65) (size := 48) rfl Try.underlying67 rfl Try.ti65 (by decide) rfl hpp_37) ?_
                        obtain ⟨adv_38, v_38, hev_38, hnv_38, hcv_38, H⟩ := H
                        refine xo_read (v := (.agg v_38)) rfl (wanted_yes (d := 79) rfl rfl (by decide) rfl hb12) (rd_loadN (ad := adv_38) rfl Try.underlying65 rfl Try.ti65 (by show Value.pointer _ = _; rw [hev_38]) hnv_38 hcv_38) ?_
                        obtain ⟨b_39, hqb_39, H⟩ := H
                        refine xo_pure (v := (.bool b_39)) rfl (wanted_yes (d := 79) rfl rfl (by decide) rfl hb12) (p_aggEq rfl hqb_39 rfl rfl) ?_
                        refine xo_pure (v := (.bool b_39)) rfl (wanted_yes (d := 71) rfl rfl (by decide) rfl hb10) (p_pickT rfl rfl hb12 rfl) ?_
                        refine xo_pure (v := (.bool b_39)) rfl (wanted_none rfl _) (p_pickF rfl rfl hb10 rfl) ?_
                        refine xo_pure (v := (.bool b_39)) rfl (wanted_none rfl _) (p_assign rfl rfl) ?_
                        refine xo_end ?_
                        exact r_ret (fn := Try.f6) Try.func6 (res_1 rfl ⟨by decide, rfl⟩) H
                      · clear H; intro hb12 H
                        refine xo_skip rfl (wanted_no (d := 79) rfl rfl (by decide) rfl hb12) ?_
                        refine xo_skip rfl (wanted_no (d := 79) rfl rfl (by decide) rfl hb12) ?_
                        refine xo_skip rfl (wanted_no (d := 79) rfl rfl (by decide) rfl hb12) ?_
                        refine xo_skip rfl (wanted_no (d := 79) rfl rfl (by decide) rfl hb12) ?_
                        refine xo_skip rfl (wanted_no (d := 79) rfl rfl (by decide) rfl hb12) ?_
                        refine xo_pure (v := (.bool false)) rfl (wanted_yes (d := 71) rfl rfl (by decide) rfl hb10) (p_pickF rfl rfl hb12 rfl) ?_
                        refine xo_pure (v := (.bool false)) rfl (wanted_none rfl _) (p_pickF rfl rfl hb10 rfl) ?_
                        refine xo_pure (v := (.bool false)) rfl (wanted_none rfl _) (p_assign rfl rfl) ?_
                        refine xo_end ?_
                        exact r_ret (fn := Try.f6) Try.func6 (res_1 rfl ⟨by decide, rfl⟩) H
                    · clear H; intro hb11 H
                      refine xo_skip rfl (wanted_no (d := 75) rfl rfl (by decide) rfl hb11) ?_
                      refine xo_skip rfl (wanted_no (d := 75) rfl rfl (by decide) rfl hb11) ?_
                      refine xo_pure (v := (.bool false)) rfl (wanted_yes (d := 71) rfl rfl (by decide) rfl hb10) (p_pickF rfl rfl hb11 rfl) ?_
                      refine xo_pure (v := (.bool false)) rfl (wanted_yes (d := 71) rfl rfl (by decide) rfl hb10) (p_move rfl rfl) ?_
                      refine xo_skip rfl (wanted_no (d := 79) rfl rfl (by decide) rfl rfl) ?_
                      refine xo_skip rfl (wanted_no (d := 79) rfl rfl (by decide) rfl rfl) ?_
                      refine xo_skip rfl (wanted_no (d := 79) rfl rfl (by decide) rfl rfl) ?_
                      refine xo_skip rfl (wanted_no (d := 79) rfl rfl (by decide) rfl rfl) ?_
                      refine xo_skip rfl (wanted_no (d := 79) rfl rfl (by decide) rfl rfl) ?_
                      refine xo_pure (v := (.bool false)) rfl (wanted_yes (d := 71) rfl rfl (by decide) rfl hb10) (p_pickF rfl rfl rfl rfl) ?_
                      refine xo_pure (v := (.bool false)) rfl (wanted_none rfl _) (p_pickF rfl rfl hb10 rfl) ?_
                      refine xo_pure (v := (.bool false)) rfl (wanted_none rfl _) (p_assign rfl rfl) ?_
                      refine xo_end ?_
                      exact r_ret (fn := Try.f6) Try.func6 (res_1 rfl ⟨by decide, rfl⟩) H
                · clear H; intro hb9 H
                  refine xo_skip rfl (wanted_no (d := 66) rfl rfl (by decide) rfl hb9) ?_
                  refine xo_skip rfl (wanted_no (d := 66) rfl rfl (by decide) rfl hb9) ?_
                  refine xo_skip rfl (wanted_no (d := 66) rfl rfl (by decide) rfl hb9) ?_
                  refine xo_pure (v := (.bool false)) rfl (wanted_none rfl _) (p_pickF rfl rfl hb9 rfl) ?_
                  refine xo_pure (v := (.bool false)) rfl (wanted_none rfl _) (p_move rfl rfl) ?_
                  refine xo_pure (v := (.pointer (some (a_27.add 0)))) rfl (wanted_yes (d := 71) rfl rfl (by decide) rfl rfl) (p_fieldAddr (off := 0) (ft := 31) (size := 1) rfl Try.underlying73 rfl Try.ti31 (by decide) rfl rfl) ?_
                  obtain ⟨adv_40, v_40, hev_40, hcv_40, H⟩ := H
                  refine xo_read (v := (.int .i64 v_40)) rfl (wanted_yes (d := 71) rfl rfl (by decide) rfl rfl) (rd_load (ad := adv_40) rfl Try.underlying31 rfl (by show Value.pointer _ = _; rw [hev_40]) hcv_40) ?_
                  refine xo_pure (v := (.bool (decide (v_40 = 0)))) rfl (wanted_yes (d := 71) rfl rfl (by decide) rfl rfl) (p_eq rfl rfl rfl) ?_
                  refine xo_pure (v := (.bool (decide (v_40 = 0)))) rfl (wanted_yes (d := 71) rfl rfl (by decide) rfl rfl) (p_move rfl rfl) ?_
                  refine ifB_cases H ?_ ?_
                  · clear H; intro hb13 H
                    refine xo_pure (v := (.pointer (some (a_31.add 1)))) rfl (wanted_yes (d := 75) rfl rfl (by decide) rfl hb13) (p_fieldAddr (off := 1) (ft := 4) (size := 1) rfl Try.underlying73 rfl Try.ti4 (by decide) rfl rfl) ?_
                    obtain ⟨adv_41, v_41, hev_41, hcv_41, H⟩ := H
                    refine xo_read (v := (.bool v_41)) rfl (wanted_yes (d := 75) rfl rfl (by decide) rfl hb13) (rd_load (ad := adv_41) rfl Try.underlying4 rfl (by show Value.pointer _ = _; rw [hev_41]) hcv_41) ?_
                    refine xo_pure (v := (.bool v_41)) rfl (wanted_yes (d := 71) rfl rfl (by decide) rfl rfl) (p_pickT rfl rfl hb13 rfl) ?_
                    refine xo_pure (v := (.bool v_41)) rfl (wanted_yes (d := 71) rfl rfl (by decide) rfl rfl) (p_move rfl rfl) ?_
                    refine ifB_cases H ?_ ?_
                    · clear H; intro hb14 H
                      refine xo_pure (v := (.pointer (some (a_31.add 2)))) rfl (wanted_yes (d := 79) rfl rfl (by decide) rfl hb14) (p_fieldAddr (off := 2) (ft := 65) (size := 48) rfl Try.underlying73 rfl Try.ti65 (by decide) rfl rfl) ?_
                      obtain ⟨adv_42, v_42, hev_42, hnv_42, hcv_42, H⟩ := H
                      refine xo_read (v := (.agg v_42)) rfl (wanted_yes (d := 79) rfl rfl (by decide) rfl hb14) (rd_loadN (ad := adv_42) rfl Try.underlying65 rfl Try.ti65 (by show Value.pointer _ = _; rw [hev_42]) hnv_42 hcv_42) ?_
                      obtain ⟨p_43, hpp_43, H⟩ := H
                      refine xo_pure (v := (.pointer (some (p_43.add 5)))) rfl (wanted_yes (d := 79) rfl rfl (by decide) rfl hb14) (p_fieldAddr (off := 5) (ft := 65) (size := 48) rfl Try.underlying67 rfl Try.ti65 (by decide) rfl hpp_43) ?_
                      obtain ⟨adv_44, v_44, hev_44, hnv_44, hcv_44, H⟩ := H
                      refine xo_read (v := (.agg v_44)) rfl (wanted_yes (d := 79) rfl rfl (by decide) rfl hb14) (rd_loadN (ad := adv_44) rfl Try.underlying65 rfl Try.ti65 (by show Value.pointer _ = _; rw [hev_44]) hnv_44 hcv_44) ?_
                      obtain ⟨b_45, hqb_45, H⟩ := H
                      refine xo_pure (v := (.bool b_45)) rfl (wanted_yes (d := 79) rfl rfl (by decide) rfl hb14) (p_aggEq rfl hqb_45 rfl rfl) ?_
                      refine xo_pure (v := (.bool b_45)) rfl (wanted_yes (d := 71) rfl rfl (by decide) rfl rfl) (p_pickT rfl rfl hb14 rfl) ?_
                      refine xo_pure (v := (.bool b_45)) rfl (wanted_none rfl _) (p_pickF rfl rfl rfl rfl) ?_
                      refine xo_pure (v := (.bool b_45)) rfl (wanted_none rfl _) (p_assign rfl rfl) ?_
                      refine xo_end ?_
                      exact r_ret (fn := Try.f6) Try.func6 (res_1 rfl ⟨by decide, rfl⟩) H
                    · clear H; intro hb14 H
                      refine xo_skip rfl (wanted_no (d := 79) rfl rfl (by decide) rfl hb14) ?_
                      refine xo_skip rfl (wanted_no (d := 79) rfl rfl (by decide) rfl hb14) ?_
                      refine xo_skip rfl (wanted_no (d := 79) rfl rfl (by decide) rfl hb14) ?_
                      refine xo_skip rfl (wanted_no (d := 79) rfl rfl (by decide) rfl hb14) ?_
                      refine xo_skip rfl (wanted_no (d := 79) rfl rfl (by decide) rfl hb14) ?_
                      refine xo_pure (v := (.bool false)) rfl (wanted_yes (d := 71) rfl rfl (by decide) rfl rfl) (p_pickF rfl rfl hb14 rfl) ?_
                      refine xo_pure (v := (.bool false)) rfl (wanted_none rfl _) (p_pickF rfl rfl rfl rfl) ?_
                      refine xo_pure (v := (.bool false)) rfl (wanted_none rfl _) (p_assign rfl rfl) ?_
                      refine xo_end ?_
                      exact r_ret (fn := Try.f6) Try.func6 (res_1 rfl ⟨by decide, rfl⟩) H
                  · clear H; intro hb13 H
                    refine xo_skip rfl (wanted_no (d := 75) rfl rfl (by decide) rfl hb13) ?_
                    refine xo_skip rfl (wanted_no (d := 75) rfl rfl (by decide) rfl hb13) ?_
                    refine xo_pure (v := (.bool false)) rfl (wanted_yes (d := 71) rfl rfl (by decide) rfl rfl) (p_pickF rfl rfl hb13 rfl) ?_
                    refine xo_pure (v := (.bool false)) rfl (wanted_yes (d := 71) rfl rfl (by decide) rfl rfl) (p_move rfl rfl) ?_
                    refine xo_skip rfl (wanted_no (d := 79) rfl rfl (by decide) rfl rfl) ?_
                    refine xo_skip rfl (wanted_no (d := 79) rfl rfl (by decide) rfl rfl) ?_
                    refine xo_skip rfl (wanted_no (d := 79) rfl rfl (by decide) rfl rfl) ?_
                    refine xo_skip rfl (wanted_no (d := 79) rfl rfl (by decide) rfl rfl) ?_
                    refine xo_skip rfl (wanted_no (d := 79) rfl rfl (by decide) rfl rfl) ?_
                    refine xo_pure (v := (.bool false)) rfl (wanted_yes (d := 71) rfl rfl (by decide) rfl rfl) (p_pickF rfl rfl rfl rfl) ?_
                    refine xo_pure (v := (.bool false)) rfl (wanted_none rfl _) (p_pickF rfl rfl rfl rfl) ?_
                    refine xo_pure (v := (.bool false)) rfl (wanted_none rfl _) (p_assign rfl rfl) ?_
                    refine xo_end ?_
                    exact r_ret (fn := Try.f6) Try.func6 (res_1 rfl ⟨by decide, rfl⟩) H
            · intro J7
              refine r_region ?_
              refine xo_pure (v := (.pointer (some (a_22.add 0)))) rfl (wanted_none rfl _) (p_fieldAddr (off := 0) (ft := 31) (size := 1) rfl Try.underlying73 rfl Try.ti31 (by decide) rfl rfl) ?_
              obtain ⟨adv_46, v_46, hev_46, hcv_46, H⟩ := H
              refine xo_read (v := (.int .i64 v_46)) rfl (wanted_none rfl _) (rd_load (ad := adv_46) rfl Try.underlying31 rfl (by show Value.pointer _ = _; rw [hev_46]) hcv_46) ?_
              refine xo_pure (v := (.bool (!decide (v_46 = 0)))) rfl (wanted_none rfl _) (p_ne rfl rfl rfl) ?_
              refine xo_pure (v := (.bool (!decide (v_46 = 0)))) rfl (wanted_none rfl _) (p_move rfl rfl) ?_
              refine ifB_cases H ?_ ?_
              · clear H; intro hb15 H
                refine xo_skip rfl (wanted_no (d := 46) rfl rfl (by decide) rfl hb15) ?_
                refine xo_skip rfl (wanted_no (d := 46) rfl rfl (by decide) rfl hb15) ?_
                refine xo_pure (v := (.bool true)) rfl (wanted_none rfl _) (p_pickT rfl rfl hb15 rfl) ?_
                refine xo_pure (v := (.bool true)) rfl (wanted_none rfl _) (p_move rfl rfl) ?_
                refine xo_skip rfl (wanted_no (d := 50) rfl rfl (by decide) rfl rfl) ?_
                refine xo_skip rfl (wanted_no (d := 50) rfl rfl (by decide) rfl rfl) ?_
                refine xo_skip rfl (wanted_no (d := 50) rfl rfl (by decide) rfl rfl) ?_
                refine xo_skip rfl (wanted_no (d := 50) rfl rfl (by decide) rfl rfl) ?_
                refine xo_pure (v := (.bool true)) rfl (wanted_none rfl _) (p_pickT rfl rfl rfl rfl) ?_
                refine xo_end ?_
                refine r_upd (i := 3) (v := (.pointer o3)) rfl ?_
                refine r_upd (i := 5) (v := (.pointer m5)) rfl ?_
                refine r_upd (i := 8) (v := (.pointer (some a_18))) rfl ?_
                refine r_upd (i := 55) (v := (.bool true)) rfl ?_
                exact J7 (o3, m5, (some a_18), true) _ _ H
              · clear H; intro hb15 H
                refine xo_pure (v := (.pointer (some (a_22.add 1)))) rfl (wanted_yes (d := 46) rfl rfl (by decide) rfl hb15) (p_fieldAddr (off := 1) (ft := 4) (size := 1) rfl Try.underlying73 rfl Try.ti4 (by decide) rfl rfl) ?_
                obtain ⟨adv_47, v_47, hev_47, hcv_47, H⟩ := H
                refine xo_read (v := (.bool v_47)) rfl (wanted_yes (d := 46) rfl rfl (by decide) rfl hb15) (rd_load (ad := adv_47) rfl Try.underlying4 rfl (by show Value.pointer _ = _; rw [hev_47]) hcv_47) ?_
                refine xo_pure (v := (.bool v_47)) rfl (wanted_none rfl _) (p_pickF rfl rfl hb15 rfl) ?_
                refine xo_pure (v := (.bool v_47)) rfl (wanted_none rfl _) (p_move rfl rfl) ?_
                refine ifB_cases H ?_ ?_
                · clear H; intro hb16 H
                  refine xo_skip rfl (wanted_no (d := 50) rfl rfl (by decide) rfl hb16) ?_
                  refine xo_skip rfl (wanted_no (d := 50) rfl rfl (by decide) rfl hb16) ?_
                  refine xo_skip rfl (wanted_no (d := 50) rfl rfl (by decide) rfl hb16) ?_
                  refine xo_skip rfl (wanted_no (d := 50) rfl rfl (by decide) rfl hb16) ?_
                  refine xo_pure (v := (.bool true)) rfl (wanted_none rfl _) (p_pickT rfl rfl hb16 rfl) ?_
                  refine xo_end ?_
                  refine r_upd (i := 3) (v := (.pointer o3)) rfl ?_
                  refine r_upd (i := 5) (v := (.pointer m5)) rfl ?_
                  refine r_upd (i := 8) (v := (.pointer (some a_18))) rfl ?_
                  refine r_upd (i := 55) (v := (.bool true)) rfl ?_
                  exact J7 (o3, m5, (some a_18), true) _ _ H
                · clear H; intro hb16 H
                  refine xo_pure (v := (.pointer (some (a_22.add 2)))) rfl (wanted_yes (d := 50) rfl rfl (by decide) rfl hb16) (p_fieldAddr (off := 2) (ft := 65) (size := 48) rfl Try.underlying73 rfl Try.ti65 (by decide) rfl rfl) ?_
                  obtain ⟨adv_48, v_48, hev_48, hnv_48, hcv_48, H⟩ := H
                  refine xo_read (v := (.agg v_48)) rfl (wanted_yes (d := 50) rfl rfl (by decide) rfl hb16) (rd_loadN (ad := adv_48) rfl Try.underlying65 rfl Try.ti65 (by show Value.pointer _ = _; rw [hev_48]) hnv_48 hcv_48) ?_
                  obtain ⟨c_49, hflc_49, H⟩ := H
                  refine xo_pure (v := (.agg c_49)) rfl (wanted_yes (d := 50) rfl rfl (by decide) rfl hb16) (p_buildA (size := 1) rfl Try.underlying65 Try.ti65 Try.ti5 hflc_49 rfl) ?_
                  obtain ⟨b_50, hqb_50, H⟩ := H
                  refine xo_pure (v := (.bool (!b_50))) rfl (wanted_yes (d := 50) rfl rfl (by decide) rfl hb16) (p_aggNe rfl hqb_50 rfl rfl) ?_
                  refine xo_pure (v := (.bool (!b_50))) rfl (wanted_none rfl _) (p_pickF rfl rfl hb16 rfl) ?_
                  refine xo_end ?_
                  refine r_upd (i := 3) (v := (.pointer o3)) rfl ?_
                  refine r_upd (i := 5) (v := (.pointer m5)) rfl ?_
                  refine r_upd (i := 8) (v := (.pointer (some a_18))) rfl ?_
                  refine r_upd (i := 55) (v := (.bool (!b_50))) rfl ?_
                  exact J7 (o3, m5, (some a_18), (!b_50)) _ _ H
    · intro J2
      refine r_region ?_
      refine xo_pure (v := (Sl.v ops0)) rfl (wanted_none rfl _) (p_move rfl rfl) ?_
      refine xo_eff rfl (wanted_none rfl _) (e_call (fn := Try.f35) H rfl rfl Try.func35 rfl rfl rfl) ?_
      rintro _ w_22 ⟨v_52, rfl, H⟩
      refine xo_pure (v := (.bool v_52)) rfl (wanted_none rfl _) (p_move rfl rfl) ?_
      refine ifB_cases H ?_ ?_
      · clear H; intro hb17 H
        refine xo_skip rfl (wanted_no (d := 16) rfl rfl (by decide) rfl hb17) ?_
        refine xo_skip rfl (wanted_no (d := 16) rfl rfl (by decide) rfl hb17) ?_
        refine xo_skip rfl (wanted_no (d := 16) rfl rfl (by decide) rfl hb17) ?_
        refine xo_pure (v := (.bool true)) rfl (wanted_none rfl _) (p_pickT rfl rfl hb17 rfl) ?_
        refine xo_end ?_
        refine r_upd (i := 0) (v := (Sl.v ops0)) rfl ?_
        refine r_upd (i := 3) (v := (.pointer (some a_1))) rfl ?_
        refine r_upd (i := 20) (v := (.bool true)) rfl ?_
        exact J2 (ops0, (some a_1), true) _ _ H
      · clear H; intro hb17 H
        obtain ⟨adv_53, v_53, hev_53, hnv_53, hcv_53, H⟩ := H
        refine xo_read (v := (.agg v_53)) rfl (wanted_yes (d := 16) rfl rfl (by decide) rfl hb17) (rd_loadN (ad := adv_53) rfl Try.underlying67 rfl Try.ti67 (by show Value.pointer _ = _; rw [hev_53]) hnv_53 hcv_53) ?_
        obtain ⟨hzq_55, H⟩ := H
        refine xo_eff rfl (wanted_yes (d := 16) rfl rfl (by decide) rfl hb17) (e_buildAgg (size := 53) H rfl Try.underlying63 Try.ti67 (by decide) (by decide) rfl hzq_55) ?_
        rintro _ w_23 ⟨a_54, rfl, H⟩
        refine xo_eff rfl (wanted_yes (d := 16) rfl rfl (by decide) rfl hb17) (e_call (fn := Try.f35) H rfl rfl Try.func35 rfl rfl rfl) ?_
        rintro _ w_24 ⟨v_57, rfl, H⟩
        refine xo_pure (v := (.bool v_57)) rfl (wanted_none rfl _) (p_pickF rfl rfl hb17 rfl) ?_
        refine xo_end ?_
        refine r_upd (i := 0) (v := (Sl.v ops0)) rfl ?_
        refine r_upd (i := 3) (v := (.pointer (some a_1))) rfl ?_
        refine r_upd (i := 20) (v := (.bool v_57)) rfl ?_
        exact J2 (ops0, (some a_1), v_57) _ _ H

/-! 21 sporran/sporranref01.Same -/
def sporranref01_Same_b0 (R : Value → World → Prop) (ag2 : (Sl × Sl × Int) → World → Prop) (a0 : Sl) (b1 : Sl) (i5 : Int) (w : World) : Prop :=
  IfB (decide (i5 < (a0.len : Int))) (
    Ix a0 i5 fun p_1 =>
    Ld (Value.int .u8) (some (p_1.add (i5.toNat * 1))) (World.drew w) fun v_2 =>
    Ix b1 i5 fun p_3 =>
    Ld (Value.int .u8) (some (p_3.add (i5.toNat * 1))) (World.drew w) fun v_4 =>
    IfB (!decide (v_2 = v_4)) (
      R (.bool false) (World.drew w)) (
      ag2 (a0, b1, (IntKind.i64.wrap (i5 + 1))) (World.drew w))) (
    R (.bool true) w)

def sporranref01_Same (R : Value → World → Prop) (a0 : Sl) (b1 : Sl) (w : World) : Prop :=
  IfB (!decide ((a0.len : Int) = (b1.len : Int))) (
    R (.bool false) w) (
    Lp (fun ag (s : Sl × Sl × Int) w => sporranref01_Same_b0 R ag s.1 s.2.1 s.2.2 w) (a0, b1, 0) w)

theorem sporranref01_Same_ok (R : Value → World → Prop) (a0 : Sl) (b1 : Sl) (w : World) (H : sporranref01_Same R a0 b1 w) : CallF Try.prog 21 #[(Sl.v a0), (Sl.v b1)] w R := by
  refine calls_of_runs (fn := Try.f21) Try.func21 rfl (Nat.le_of_ble_eq_true rfl) ?_
  show Runs _ _ 26 _ _ _ _
  unfold sporranref01_Same at H
  refine r_upd (i := 0) (v := (Sl.v a0)) rfl ?_
  refine r_upd (i := 1) (v := (Sl.v b1)) rfl ?_
  refine r_seq ?_
  refine r_region ?_
  refine xo_pure (v := (.bool false)) rfl (wanted_none rfl _) (p_assign rfl rfl) ?_
  refine xo_end ?_
  refine r_seq ?_
  refine r_seq ?_
  refine r_region ?_
  refine xo_pure (v := (Sl.v a0)) rfl (wanted_none rfl _) (p_move rfl rfl) ?_
  refine xo_pure (v := (.int .i64 (a0.len : Int))) rfl (wanted_none rfl _) (p_len rfl Try.underlying39 rfl) ?_
  refine xo_pure (v := (Sl.v b1)) rfl (wanted_none rfl _) (p_move rfl rfl) ?_
  refine xo_pure (v := (.int .i64 (b1.len : Int))) rfl (wanted_none rfl _) (p_len rfl Try.underlying39 rfl) ?_
  refine xo_pure (v := (.bool (!decide ((a0.len : Int) = (b1.len : Int))))) rfl (wanted_none rfl _) (p_ne rfl rfl rfl) ?_
  refine xo_end ?_
  refine r_condB (b := (!decide ((a0.len : Int) = (b1.len : Int)))) rfl H ?_ ?_
  · clear H; intro hb1 H
    refine r_seq ?_
    refine r_region ?_
    refine xo_pure (v := (.bool false)) rfl (wanted_none rfl _) (p_assign rfl rfl) ?_
    refine xo_end ?_
    exact r_ret (fn := Try.f21) Try.func21 (res_1 rfl ⟨by decide, rfl⟩) H
  · clear H; intro hb1 H
    refine r_skip ?_
    refine r_seq ?_
    refine r_seq ?_
    refine r_region ?_
    refine xo_pure (v := (.int .i64 0)) rfl (wanted_none rfl _) (p_assign rfl rfl) ?_
    refine xo_end ?_
    refine r_block ?_
    refine r_upd (i := 0) (v := (Sl.v a0)) rfl ?_
    refine r_upd (i := 1) (v := (Sl.v b1)) rfl ?_
    refine r_upd (i := 5) (v := (.int .i64 0)) rfl ?_
    refine r_loopJ (fun (s : Sl × Sl × Int) σ => upd 5 (.int .i64 s.2.2) (upd 1 (Sl.v s.2.1) (upd 0 (Sl.v s.1) (σ)))) (s := (a0, b1, 0)) H ?_
    clear H
    rintro ag2 ⟨a0, b1, i5⟩ σ w H hag2
    replace H : sporranref01_Same_b0 R ag2 a0 b1 i5 w := H
    show Runs _ _ _ _ _ (upd 5 (.int .i64 i5) (upd 1 (Sl.v b1) (upd 0 (Sl.v a0) (σ)))) _
    unfold sporranref01_Same_b0 at H
    refine r_seq ?_
    refine r_seq ?_
    refine r_region ?_
    refine xo_pure (v := (.int .i64 i5)) rfl (wanted_none rfl _) (p_move rfl rfl) ?_
    refine xo_pure (v := (Sl.v a0)) rfl (wanted_none rfl _) (p_move rfl rfl) ?_
    refine xo_pure (v := (.int .i64 (a0.len : Int))) rfl (wanted_none rfl _) (p_len rfl Try.underlying39 rfl) ?_
    refine xo_pure (v := (.bool (decide (i5 < (a0.len : Int))))) rfl (wanted_none rfl _) (p_lt rfl rfl rfl) ?_
    refine xo_end ?_
    refine r_condB (b := (decide (i5 < (a0.len : Int)))) rfl H ?_ ?_
    · clear H; intro hb3 H
      refine r_skip ?_
      refine r_seq ?_
      refine r_block ?_
      refine r_seq ?_
      refine r_draw #[[], [], [0, 1], [0, 1, 2], [], [], [4, 5], [4, 5, 6], [0, 1, 2, 3, 4, 5, 6, 7]] 9 rfl rfl ?_
      refine xa_pure (v := (Sl.v a0)) 0 (by decide +kernel) rfl rfl (wanted_none rfl _) (p_move rfl rfl) ?_
      refine xa_pure (v := (.int .i64 i5)) 1 (by decide +kernel) rfl rfl (wanted_none rfl _) (p_move rfl rfl) ?_
      obtain ⟨p_1, hap_1, hlp_1, hup_1, H⟩ := H
      refine xa_pure (v := (.pointer (some (p_1.add (i5.toNat * 1))))) 2 (by decide +kernel) rfl rfl (wanted_none rfl _) (p_indexAddr (s := a0) (ad := p_1) (size := 1) rfl Try.underlying39 Try.ti5 rfl rfl hap_1 hlp_1 hup_1) ?_
      obtain ⟨adv_2, v_2, hev_2, hcv_2, H⟩ := H
      refine xa_read (v := (.int .u8 v_2)) (S := (fun w => w.cell? adv_2 = some (.int .u8 v_2))) 3 (by decide +kernel) rfl rfl (wanted_none rfl _) (fun w hc => rd_load (ad := adv_2) rfl Try.underlying5 rfl (by show Value.pointer _ = _; rw [hev_2]) hc) hcv_2 ?_
      refine xa_pure (v := (Sl.v b1)) 4 (by decide +kernel) rfl rfl (wanted_none rfl _) (p_move rfl rfl) ?_
      refine xa_pure (v := (.int .i64 i5)) 5 (by decide +kernel) rfl rfl (wanted_none rfl _) (p_move rfl rfl) ?_
      obtain ⟨p_3, hap_3, hlp_3, hup_3, H⟩ := H
      refine xa_pure (v := (.pointer (some (p_3.add (i5.toNat * 1))))) 6 (by decide +kernel) rfl rfl (wanted_none rfl _) (p_indexAddr (s := b1) (ad := p_3) (size := 1) rfl Try.underlying39 Try.ti5 rfl rfl hap_3 hlp_3 hup_3) ?_
      obtain ⟨adv_4, v_4, hev_4, hcv_4, H⟩ := H
      refine xa_read (v := (.int .u8 v_4)) (S := (fun w => w.cell? adv_4 = some (.int .u8 v_4))) 7 (by decide +kernel) rfl rfl (wanted_none rfl _) (fun w hc => rd_load (ad := adv_4) rfl Try.underlying5 rfl (by show Value.pointer _ = _; rw [hev_4]) hc) hcv_4 ?_
      refine xa_pure (v := (.bool (!decide (v_2 = v_4)))) 8 (by decide +kernel) rfl rfl (wanted_none rfl _) (p_ne rfl rfl rfl) ?_
      refine xa_end (by decide +kernel) ?_
      refine r_condB (b := (!decide (v_2 = v_4))) rfl H ?_ ?_
      · clear H; intro hb4 H
        refine r_seq ?_
        refine r_region ?_
        refine xo_pure (v := (.bool false)) rfl (wanted_none rfl _) (p_assign rfl rfl) ?_
        refine xo_end ?_
        exact r_ret (fn := Try.f21) Try.func21 (res_1 rfl ⟨by decide, rfl⟩) H
      · clear H; intro hb4 H
        refine r_skip ?_
        refine r_inBlock ?_
        refine r_region ?_
        refine xo_pure (v := (.int .i64 i5)) rfl (wanted_none rfl _) (p_move rfl rfl) ?_
        refine xo_pure (v := (.int .i64 (IntKind.i64.wrap (i5 + 1)))) rfl (wanted_none rfl _) (p_add rfl rfl rfl) ?_
        refine xo_pure (v := (.int .i64 (IntKind.i64.wrap (i5 + 1)))) rfl (wanted_none rfl _) (p_assign rfl rfl) ?_
        refine xo_end ?_
        refine r_upd (i := 0) (v := (Sl.v a0)) rfl ?_
        refine r_upd (i := 1) (v := (Sl.v b1)) rfl ?_
        refine r_upd (i := 5) (v := (.int .i64 (IntKind.i64.wrap (i5 + 1)))) rfl ?_
        exact hag2 (a0, b1, (IntKind.i64.wrap (i5 + 1))) _ _ H
    · clear H; intro hb3 H
      refine r_exit rfl ?_
      refine r_seq ?_
      refine r_region ?_
      refine xo_pure (v := (.bool true)) rfl (wanted_none rfl _) (p_assign rfl rfl) ?_
      refine xo_end ?_
      exact r_ret (fn := Try.f21) Try.func21 (res_1 rfl ⟨by decide, rfl⟩) H

/-! 34 sporran/sporranlaw15.speaks -/
def sporranlaw15_speaks (R : Value → World → Prop)  (w : World) : Prop :=
  CallF Try.prog 36 #[] w fun u_1 w_1 => As Value.pointer u_1 fun v_2 =>
  Built #[(0, 1), (1, 1), (2, 1), (3, 1), (4, 1), (5, 48)] Try.z67 [(0, (.int .i64 1)), (1, (.string (ByteArray.mk #[97]))), (4, (.int .i64 1))] fun c_3 =>
  CallF Try.prog 37 #[(.pointer v_2), (.agg c_3)] w_1 fun u_4 w_2 => As Value.agg u_4 fun v_5 =>
  New Try.z73 73 w_2 fun a_6 w_3 =>
  StN 51 (some a_6) v_5 w_3 fun w_4 =>
  BuiltA 1 Try.z65 [(0, (.int .u8 7))] fun c_7 =>
  Built #[(0, 1), (1, 1), (2, 1), (3, 1), (4, 1), (5, 48)] Try.z67 [(0, (.int .i64 3)), (1, (.string (ByteArray.mk #[97]))), (5, (.agg c_7))] fun c_8 =>
  CallF Try.prog 37 #[(.pointer v_2), (.agg c_8)] w_4 fun u_9 w_5 => As Value.agg u_9 fun v_10 =>
  New Try.z73 73 w_5 fun a_11 w_6 =>
  StN 51 (some a_11) v_10 w_6 fun w_7 =>
  Built #[(0, 1), (1, 1), (2, 1), (3, 1), (4, 1), (5, 48)] Try.z67 [(0, (.int .i64 5)), (1, (.string (ByteArray.mk #[97])))] fun c_12 =>
  CallF Try.prog 37 #[(.pointer v_2), (.agg c_12)] w_7 fun u_13 w_8 => As Value.agg u_13 fun v_14 =>
  New Try.z73 73 w_8 fun a_15 w_9 =>
  StN 51 (some a_15) v_14 w_9 fun w_10 =>
  Ld (Value.int .i64) (some (a_6.add 0)) w_10 fun v_16 =>
  IfB (decide (v_16 = 0)) (
    Ld (Value.int .i64) (some (a_11.add 0)) w_10 fun v_17 =>
    IfB (decide (v_17 = 0)) (
      Ld Value.bool (some (a_15.add 1)) w_10 fun v_18 =>
      IfB v_18 (
        LdN 48 (some (a_15.add 2)) w_10 fun v_19 =>
        BuiltA 1 Try.z65 [(0, (.int .u8 7))] fun c_20 =>
        AggEq Try.prog 65 v_19 c_20 fun b_21 =>
        IfB b_21 (
          CallF Try.prog 64 #[(.pointer v_2)] w_10 fun u_22 w_11 => As (Value.int .i64) u_22 fun v_23 =>
          R (.bool (decide (v_23 = 1))) w_11) (
          R (.bool false) w_10)) (
        R (.bool false) w_10)) (
      R (.bool false) w_10)) (
    R (.bool false) w_10)

theorem sporranlaw15_speaks_ok (R : Value → World → Prop)  (w : World) (H : sporranlaw15_speaks R  w) : CallF Try.prog 34 #[] w R := by
  refine calls_of_runs (fn := Try.f34) Try.func34 rfl (Nat.le_of_ble_eq_true rfl) ?_
  show Runs _ _ 39 _ _ _ _
  unfold sporranlaw15_speaks at H

  refine r_seq ?_
  refine r_region ?_
  refine xo_pure (v := (.bool false)) rfl (wanted_none rfl _) (p_assign rfl rfl) ?_
  refine xo_end ?_
  refine r_seq ?_
  refine r_region ?_
  refine xo_eff rfl (wanted_none rfl _) (e_call (fn := Try.f36) H rfl rfl Try.func36 rfl rfl rfl) ?_
  rintro _ w_1 ⟨v_2, rfl, H⟩
  refine xo_pure (v := (.pointer v_2)) rfl (wanted_none rfl _) (p_assign rfl rfl) ?_
  refine xo_end ?_
  refine r_seq ?_
  refine r_region ?_
  refine xo_pure (v := (.pointer v_2)) rfl (wanted_none rfl _) (p_move rfl rfl) ?_
  obtain ⟨c_3, hflc_3, H⟩ := H
  refine xo_pure (v := (.agg c_3)) rfl (wanted_none rfl _) (p_buildS (places := #[(0, 1), (1, 1), (2, 1), (3, 1), (4, 1), (5, 48)]) rfl Try.pl67 Try.ti67 hflc_3 rfl) ?_
  refine xo_eff rfl (wanted_none rfl _) (e_call (fn := Try.f37) H rfl rfl Try.func37 rfl rfl rfl) ?_
  rintro _ w_2 ⟨v_5, rfl, H⟩
  refine xo_eff rfl (wanted_none rfl _) (e_alloc rfl Try.ti73 H) ?_
  rintro _ w_3 ⟨a_6, rfl, H⟩
  refine xo_effN rfl (wanted_none rfl _) (e_storeN rfl Try.ti73 rfl rfl H) ?_
  intro _ w_4 H
  refine xo_end ?_
  refine r_seq ?_
  refine r_region ?_
  refine xo_pure (v := (.pointer v_2)) rfl (wanted_none rfl _) (p_move rfl rfl) ?_
  obtain ⟨c_7, hflc_7, H⟩ := H
  refine xo_pure (v := (.agg c_7)) rfl (wanted_none rfl _) (p_buildA (size := 1) rfl Try.underlying65 Try.ti65 Try.ti5 hflc_7 rfl) ?_
  obtain ⟨c_8, hflc_8, H⟩ := H
  refine xo_pure (v := (.agg c_8)) rfl (wanted_none rfl _) (p_buildS (places := #[(0, 1), (1, 1), (2, 1), (3, 1), (4, 1), (5, 48)]) rfl Try.pl67 Try.ti67 hflc_8 rfl) ?_
  refine xo_eff rfl (wanted_none rfl _) (e_call (fn := Try.f37) H rfl rfl Try.func37 rfl rfl rfl) ?_
  rintro _ w_5 ⟨v_10, rfl, H⟩
  refine xo_eff rfl (wanted_none rfl _) (e_alloc rfl Try.ti73 H) ?_
  rintro _ w_6 ⟨a_11, rfl, H⟩
  refine xo_effN rfl (wanted_none rfl _) (e_storeN rfl Try.ti73 rfl rfl H) ?_
  intro _ w_7 H
  refine xo_end ?_
  refine r_seq ?_
  refine r_region ?_
  refine xo_pure (v := (.pointer v_2)) rfl (wanted_none rfl _) (p_move rfl rfl) ?_
  obtain ⟨c_12, hflc_12, H⟩ := H
  refine xo_pure (v := (.agg c_12)) rfl (wanted_none rfl _) (p_buildS (places := #[(0, 1), (1, 1), (2, 1), (3, 1), (4, 1), (5, 48)]) rfl Try.pl67 Try.ti67 hflc_12 rfl) ?_
  refine xo_eff rfl (wanted_none rfl _) (e_call (fn := Try.f37) H rfl rfl Try.func37 rfl rfl rfl) ?_
  rintro _ w_8 ⟨v_14, rfl, H⟩
  refine xo_eff rfl (wanted_none rfl _) (e_alloc rfl Try.ti73 H) ?_
  rintro _ w_9 ⟨a_15, rfl, H⟩
  refine xo_effN rfl (wanted_none rfl _) (e_storeN rfl Try.ti73 rfl rfl H) ?_
  intro _ w_10 H
  refine xo_end ?_
  refine r_seq ?_
  refine r_region ?_
  refine xo_pure (v := (.pointer (some (a_6.add 0)))) rfl (wanted_none rfl _) (p_fieldAddr (off := 0) (ft := 31) (size := 1) rfl Try.underlying73 rfl Try.ti31 (by decide) rfl rfl) ?_
  obtain ⟨adv_16, v_16, hev_16, hcv_16, H⟩ := H
  refine xo_read (v := (.int .i64 v_16)) rfl (wanted_none rfl _) (rd_load (ad := adv_16) rfl Try.underlying31 rfl (by show Value.pointer _ = _; rw [hev_16]) hcv_16) ?_
  refine xo_pure (v := (.bool (decide (v_16 = 0)))) rfl (wanted_none rfl _) (p_eq rfl rfl rfl) ?_
  refine xo_pure (v := (.bool (decide (v_16 = 0)))) rfl (wanted_none rfl _) (p_move rfl rfl) ?_
  refine ifB_cases H ?_ ?_
  · clear H; intro hb1 H
    refine xo_pure (v := (.pointer (some (a_11.add 0)))) rfl (wanted_yes (d := 19) rfl rfl (by decide) rfl hb1) (p_fieldAddr (off := 0) (ft := 31) (size := 1) rfl Try.underlying73 rfl Try.ti31 (by decide) rfl rfl) ?_
    obtain ⟨adv_17, v_17, hev_17, hcv_17, H⟩ := H
    refine xo_read (v := (.int .i64 v_17)) rfl (wanted_yes (d := 19) rfl rfl (by decide) rfl hb1) (rd_load (ad := adv_17) rfl Try.underlying31 rfl (by show Value.pointer _ = _; rw [hev_17]) hcv_17) ?_
    refine xo_pure (v := (.bool (decide (v_17 = 0)))) rfl (wanted_yes (d := 19) rfl rfl (by decide) rfl hb1) (p_eq rfl rfl rfl) ?_
    refine xo_pure (v := (.bool (decide (v_17 = 0)))) rfl (wanted_none rfl _) (p_pickT rfl rfl hb1 rfl) ?_
    refine xo_pure (v := (.bool (decide (v_17 = 0)))) rfl (wanted_none rfl _) (p_move rfl rfl) ?_
    refine ifB_cases H ?_ ?_
    · clear H; intro hb2 H
      refine xo_pure (v := (.pointer (some (a_15.add 1)))) rfl (wanted_yes (d := 24) rfl rfl (by decide) rfl hb2) (p_fieldAddr (off := 1) (ft := 4) (size := 1) rfl Try.underlying73 rfl Try.ti4 (by decide) rfl rfl) ?_
      obtain ⟨adv_18, v_18, hev_18, hcv_18, H⟩ := H
      refine xo_read (v := (.bool v_18)) rfl (wanted_yes (d := 24) rfl rfl (by decide) rfl hb2) (rd_load (ad := adv_18) rfl Try.underlying4 rfl (by show Value.pointer _ = _; rw [hev_18]) hcv_18) ?_
      refine xo_pure (v := (.bool v_18)) rfl (wanted_none rfl _) (p_pickT rfl rfl hb2 rfl) ?_
      refine xo_pure (v := (.bool v_18)) rfl (wanted_none rfl _) (p_move rfl rfl) ?_
      refine ifB_cases H ?_ ?_
      · clear H; intro hb3 H
        refine xo_pure (v := (.pointer (some (a_15.add 2)))) rfl (wanted_yes (d := 28) rfl rfl (by decide) rfl hb3) (p_fieldAddr (off := 2) (ft := 65) (size := 48) rfl Try.underlying73 rfl Try.ti65 (by decide) rfl rfl) ?_
        obtain ⟨adv_19, v_19, hev_19, hnv_19, hcv_19, H⟩ := H
        refine xo_read (v := (.agg v_19)) rfl (wanted_yes (d := 28) rfl rfl (by decide) rfl hb3) (rd_loadN (ad := adv_19) rfl Try.underlying65 rfl Try.ti65 (by show Value.pointer _ = _; rw [hev_19]) hnv_19 hcv_19) ?_
        obtain ⟨c_20, hflc_20, H⟩ := H
        refine xo_pure (v := (.agg c_20)) rfl (wanted_yes (d := 28) rfl rfl (by decide) rfl hb3) (p_buildA (size := 1) rfl Try.underlying65 Try.ti65 Try.ti5 hflc_20 rfl) ?_
        obtain ⟨b_21, hqb_21, H⟩ := H
        refine xo_pure (v := (.bool b_21)) rfl (wanted_yes (d := 28) rfl rfl (by decide) rfl hb3) (p_aggEq rfl hqb_21 rfl rfl) ?_
        refine xo_pure (v := (.bool b_21)) rfl (wanted_none rfl _) (p_pickT rfl rfl hb3 rfl) ?_
        refine xo_pure (v := (.bool b_21)) rfl (wanted_none rfl _) (p_move rfl rfl) ?_
        refine ifB_cases H ?_ ?_
        · clear H; intro hb4 H
          refine xo_pure (v := (.pointer v_2)) rfl (wanted_yes (d := 34) rfl rfl (by decide) rfl hb4) (p_move rfl rfl) ?_
          refine xo_eff rfl (wanted_yes (d := 34) rfl rfl (by decide) rfl hb4) (e_call (fn := Try.f64) H rfl rfl Try.func64 rfl rfl rfl) ?_
          rintro _ w_11 ⟨v_23, rfl, H⟩
          refine xo_pure (v := (.bool (decide (v_23 = 1)))) rfl (wanted_yes (d := 34) rfl rfl (by decide) rfl hb4) (p_eq rfl rfl rfl) ?_
          refine xo_pure (v := (.bool (decide (v_23 = 1)))) rfl (wanted_none rfl _) (p_pickT rfl rfl hb4 rfl) ?_
          refine xo_pure (v := (.bool (decide (v_23 = 1)))) rfl (wanted_none rfl _) (p_assign rfl rfl) ?_
          refine xo_end ?_
          exact r_ret (fn := Try.f34) Try.func34 (res_1 rfl ⟨by decide, rfl⟩) H
        · clear H; intro hb4 H
          refine xo_skip rfl (wanted_no (d := 34) rfl rfl (by decide) rfl hb4) ?_
          refine xo_skip rfl (wanted_no (d := 34) rfl rfl (by decide) rfl hb4) ?_
          refine xo_skip rfl (wanted_no (d := 34) rfl rfl (by decide) rfl hb4) ?_
          refine xo_pure (v := (.bool false)) rfl (wanted_none rfl _) (p_pickF rfl rfl hb4 rfl) ?_
          refine xo_pure (v := (.bool false)) rfl (wanted_none rfl _) (p_assign rfl rfl) ?_
          refine xo_end ?_
          exact r_ret (fn := Try.f34) Try.func34 (res_1 rfl ⟨by decide, rfl⟩) H
      · clear H; intro hb3 H
        refine xo_skip rfl (wanted_no (d := 28) rfl rfl (by decide) rfl hb3) ?_
        refine xo_skip rfl (wanted_no (d := 28) rfl rfl (by decide) rfl hb3) ?_
        refine xo_skip rfl (wanted_no (d := 28) rfl rfl (by decide) rfl hb3) ?_
        refine xo_skip rfl (wanted_no (d := 28) rfl rfl (by decide) rfl hb3) ?_
        refine xo_pure (v := (.bool false)) rfl (wanted_none rfl _) (p_pickF rfl rfl hb3 rfl) ?_
        refine xo_pure (v := (.bool false)) rfl (wanted_none rfl _) (p_move rfl rfl) ?_
        refine xo_skip rfl (wanted_no (d := 34) rfl rfl (by decide) rfl rfl) ?_
        refine xo_skip rfl (wanted_no (d := 34) rfl rfl (by decide) rfl rfl) ?_
        refine xo_skip rfl (wanted_no (d := 34) rfl rfl (by decide) rfl rfl) ?_
        refine xo_pure (v := (.bool false)) rfl (wanted_none rfl _) (p_pickF rfl rfl rfl rfl) ?_
        refine xo_pure (v := (.bool false)) rfl (wanted_none rfl _) (p_assign rfl rfl) ?_
        refine xo_end ?_
        exact r_ret (fn := Try.f34) Try.func34 (res_1 rfl ⟨by decide, rfl⟩) H
    · clear H; intro hb2 H
      refine xo_skip rfl (wanted_no (d := 24) rfl rfl (by decide) rfl hb2) ?_
      refine xo_skip rfl (wanted_no (d := 24) rfl rfl (by decide) rfl hb2) ?_
      refine xo_pure (v := (.bool false)) rfl (wanted_none rfl _) (p_pickF rfl rfl hb2 rfl) ?_
      refine xo_pure (v := (.bool false)) rfl (wanted_none rfl _) (p_move rfl rfl) ?_
      refine xo_skip rfl (wanted_no (d := 28) rfl rfl (by decide) rfl rfl) ?_
      refine xo_skip rfl (wanted_no (d := 28) rfl rfl (by decide) rfl rfl) ?_
      refine xo_skip rfl (wanted_no (d := 28) rfl rfl (by decide) rfl rfl) ?_
      refine xo_skip rfl (wanted_no (d := 28) rfl rfl (by decide) rfl rfl) ?_
      refine xo_pure (v := (.bool false)) rfl (wanted_none rfl _) (p_pickF rfl rfl rfl rfl) ?_
      refine xo_pure (v := (.bool false)) rfl (wanted_none rfl _) (p_move rfl rfl) ?_
      refine xo_skip rfl (wanted_no (d := 34) rfl rfl (by decide) rfl rfl) ?_
      refine xo_skip rfl (wanted_no (d := 34) rfl rfl (by decide) rfl rfl) ?_
      refine xo_skip rfl (wanted_no (d := 34) rfl rfl (by decide) rfl rfl) ?_
      refine xo_pure (v := (.bool false)) rfl (wanted_none rfl _) (p_pickF rfl rfl rfl rfl) ?_
      refine xo_pure (v := (.bool false)) rfl (wanted_none rfl _) (p_assign rfl rfl) ?_
      refine xo_end ?_
      exact r_ret (fn := Try.f34) Try.func34 (res_1 rfl ⟨by decide, rfl⟩) H
  · clear H; intro hb1 H
    refine xo_skip rfl (wanted_no (d := 19) rfl rfl (by decide) rfl hb1) ?_
    refine xo_skip rfl (wanted_no (d := 19) rfl rfl (by decide) rfl hb1) ?_
    refine xo_skip rfl (wanted_no (d := 19) rfl rfl (by decide) rfl hb1) ?_
    refine xo_pure (v := (.bool false)) rfl (wanted_none rfl _) (p_pickF rfl rfl hb1 rfl) ?_
    refine xo_pure (v := (.bool false)) rfl (wanted_none rfl _) (p_move rfl rfl) ?_
    refine xo_skip rfl (wanted_no (d := 24) rfl rfl (by decide) rfl rfl) ?_
    refine xo_skip rfl (wanted_no (d := 24) rfl rfl (by decide) rfl rfl) ?_
    refine xo_pure (v := (.bool false)) rfl (wanted_none rfl _) (p_pickF rfl rfl rfl rfl) ?_
    refine xo_pure (v := (.bool false)) rfl (wanted_none rfl _) (p_move rfl rfl) ?_
    refine xo_skip rfl (wanted_no (d := 28) rfl rfl (by decide) rfl rfl) ?_
    refine xo_skip rfl (wanted_no (d := 28) rfl rfl (by decide) rfl rfl) ?_
    refine xo_skip rfl (wanted_no (d := 28) rfl rfl (by decide) rfl rfl) ?_
    refine xo_skip rfl (wanted_no (d := 28) rfl rfl (by decide) rfl rfl) ?_
    refine xo_pure (v := (.bool false)) rfl (wanted_none rfl _) (p_pickF rfl rfl rfl rfl) ?_
    refine xo_pure (v := (.bool false)) rfl (wanted_none rfl _) (p_move rfl rfl) ?_
    refine xo_skip rfl (wanted_no (d := 34) rfl rfl (by decide) rfl rfl) ?_
    refine xo_skip rfl (wanted_no (d := 34) rfl rfl (by decide) rfl rfl) ?_
    refine xo_skip rfl (wanted_no (d := 34) rfl rfl (by decide) rfl rfl) ?_
    refine xo_pure (v := (.bool false)) rfl (wanted_none rfl _) (p_pickF rfl rfl rfl rfl) ?_
    refine xo_pure (v := (.bool false)) rfl (wanted_none rfl _) (p_assign rfl rfl) ?_
    refine xo_end ?_
    exact r_ret (fn := Try.f34) Try.func34 (res_1 rfl ⟨by decide, rfl⟩) H

/-! 35 sporran/sporranlaw15.Great -/
def sporranlaw15_Great_k1 (R : Value → World → Prop) (ag2 : (Sl × Int × Int) → World → Prop) (t8 : Sl) (t9 : Int) (t10 : Int) (t23 : Bool) (w : World) : Prop :=
  IfB t23 (
    R (.bool true) w) (
    ag2 (t8, t9, (IntKind.i64.wrap (t10 + 1))) w)

def sporranlaw15_Great_b0 (R : Value → World → Prop) (ag2 : (Sl × Int × Int) → World → Prop) (t8 : Sl) (t9 : Int) (t10 : Int) (w : World) : Prop :=
  IfB (decide (t10 < t9)) (
    Ix t8 t10 fun p_1 =>
    LdN 53 (some (p_1.add (t10.toNat * 53))) w fun v_2 =>
    New Try.z67 67 w fun a_3 w_1 =>
    StN 53 (some a_3) v_2 w_1 fun w_2 =>
    Ld Value.string (some (a_3.add 1)) w_2 fun v_4 =>
    IfB (decide (100 < (v_4.size : Int))) (
      sporranlaw15_Great_k1 R ag2 t8 t9 t10 true w_2) (
      Ld Value.string (some (a_3.add 2)) w_2 fun v_5 =>
      sporranlaw15_Great_k1 R ag2 t8 t9 t10 (decide (100 < (v_5.size : Int))) w_2)) (
    R (.bool false) w)

def sporranlaw15_Great (R : Value → World → Prop) (ops0 : Sl) (w : World) : Prop :=
  IfB (decide (80 < (ops0.len : Int))) (
    R (.bool true) w) (
    Lp (fun ag (s : Sl × Int × Int) w => sporranlaw15_Great_b0 R ag s.1 s.2.1 s.2.2 w) (ops0, (ops0.len : Int), 0) w)

theorem sporranlaw15_Great_ok (R : Value → World → Prop) (ops0 : Sl) (w : World) (H : sporranlaw15_Great R ops0 w) : CallF Try.prog 35 #[(Sl.v ops0)] w R := by
  refine calls_of_runs (fn := Try.f35) Try.func35 rfl (Nat.le_of_ble_eq_true rfl) ?_
  show Runs _ _ 25 _ _ _ _
  unfold sporranlaw15_Great at H
  refine r_upd (i := 0) (v := (Sl.v ops0)) rfl ?_
  refine r_seq ?_
  refine r_region ?_
  refine xo_pure (v := (.bool false)) rfl (wanted_none rfl _) (p_assign rfl rfl) ?_
  refine xo_end ?_
  refine r_seq ?_
  refine r_seq ?_
  refine r_region ?_
  refine xo_pure (v := (Sl.v ops0)) rfl (wanted_none rfl _) (p_move rfl rfl) ?_
  refine xo_pure (v := (.int .i64 (ops0.len : Int))) rfl (wanted_none rfl _) (p_len rfl Try.underlying63 rfl) ?_
  refine xo_pure (v := (.bool (decide (80 < (ops0.len : Int))))) rfl (wanted_none rfl _) (p_gt rfl rfl rfl) ?_
  refine xo_end ?_
  refine r_condB (b := (decide (80 < (ops0.len : Int)))) rfl H ?_ ?_
  · clear H; intro hb1 H
    refine r_seq ?_
    refine r_region ?_
    refine xo_pure (v := (.bool true)) rfl (wanted_none rfl _) (p_assign rfl rfl) ?_
    refine xo_end ?_
    exact r_ret (fn := Try.f35) Try.func35 (res_1 rfl ⟨by decide, rfl⟩) H
  · clear H; intro hb1 H
    refine r_skip ?_
    refine r_seq ?_
    refine r_seq ?_
    refine r_region ?_
    refine xo_pure (v := (Sl.v ops0)) rfl (wanted_none rfl _) (p_move rfl rfl) ?_
    refine xo_pure (v := (.int .i64 (ops0.len : Int))) rfl (wanted_none rfl _) (p_len rfl Try.underlying63 rfl) ?_
    refine xo_pure (v := (.int .i64 0)) rfl (wanted_none rfl _) (p_move rfl rfl) ?_
    refine xo_end ?_
    refine r_block ?_
    refine r_upd (i := 8) (v := (Sl.v ops0)) rfl ?_
    refine r_upd (i := 9) (v := (.int .i64 (ops0.len : Int))) rfl ?_
    refine r_upd (i := 10) (v := (.int .i64 0)) rfl ?_
    refine r_loopJ (fun (s : Sl × Int × Int) σ => upd 10 (.int .i64 s.2.2) (upd 9 (.int .i64 s.2.1) (upd 8 (Sl.v s.1) (σ)))) (s := (ops0, (ops0.len : Int), 0)) H ?_
    clear H
    rintro ag2 ⟨t8, t9, t10⟩ σ w H hag2
    replace H : sporranlaw15_Great_b0 R ag2 t8 t9 t10 w := H
    show Runs _ _ _ _ _ (upd 10 (.int .i64 t10) (upd 9 (.int .i64 t9) (upd 8 (Sl.v t8) (σ)))) _
    unfold sporranlaw15_Great_b0 at H
    refine r_seq ?_
    refine r_region ?_
    refine xo_pure (v := (.bool (decide (t10 < t9)))) rfl (wanted_none rfl _) (p_lt rfl rfl rfl) ?_
    refine xo_end ?_
    refine r_seq ?_
    refine r_condB (b := (decide (t10 < t9))) rfl H ?_ ?_
    · clear H; intro hb3 H
      refine r_skip ?_
      refine r_seq ?_
      refine r_block ?_
      refine r_seq ?_
      refine r_region ?_
      obtain ⟨p_1, hap_1, hlp_1, hup_1, H⟩ := H
      refine xo_pure (v := (.pointer (some (p_1.add (t10.toNat * 53))))) rfl (wanted_none rfl _) (p_indexAddr (s := t8) (ad := p_1) (size := 53) rfl Try.underlying63 Try.ti67 rfl rfl hap_1 hlp_1 hup_1) ?_
      obtain ⟨adv_2, v_2, hev_2, hnv_2, hcv_2, H⟩ := H
      refine xo_read (v := (.agg v_2)) rfl (wanted_none rfl _) (rd_loadN (ad := adv_2) rfl Try.underlying67 rfl Try.ti67 (by show Value.pointer _ = _; rw [hev_2]) hnv_2 hcv_2) ?_
      refine xo_eff rfl (wanted_none rfl _) (e_alloc rfl Try.ti67 H) ?_
      rintro _ w_1 ⟨a_3, rfl, H⟩
      refine xo_effN rfl (wanted_none rfl _) (e_storeN rfl Try.ti67 rfl rfl H) ?_
      intro _ w_2 H
      refine xo_end ?_
      refine r_seq ?_
      refine r_topJ (fun (s : Sl × Int × Int × Bool) σ => upd 23 (.bool s.2.2.2) (upd 10 (.int .i64 s.2.2.1) (upd 9 (.int .i64 s.2.1) (upd 8 (Sl.v s.1) (σ))))) (fun (s : Sl × Int × Int × Bool) w => sporranlaw15_Great_k1 R ag2 s.1 s.2.1 s.2.2.1 s.2.2.2 w) ?_ ?_
      · rintro ⟨t8, t9, t10, t23⟩ σ w H
        replace H : sporranlaw15_Great_k1 R ag2 t8 t9 t10 t23 w := H
        show Runs _ _ _ _ _ (upd 23 (.bool t23) (upd 10 (.int .i64 t10) (upd 9 (.int .i64 t9) (upd 8 (Sl.v t8) (σ))))) _
        unfold sporranlaw15_Great_k1 at H
        refine r_condB (b := t23) rfl H ?_ ?_
        · clear H; intro hb5 H
          refine r_seq ?_
          refine r_region ?_
          refine xo_pure (v := (.bool true)) rfl (wanted_none rfl _) (p_assign rfl rfl) ?_
          refine xo_end ?_
          exact r_ret (fn := Try.f35) Try.func35 (res_1 rfl ⟨by decide, rfl⟩) H
        · clear H; intro hb5 H
          refine r_skip ?_
          refine r_inBlock ?_
          refine r_region ?_
          refine xo_pure (v := (.int .i64 (IntKind.i64.wrap (t10 + 1)))) rfl (wanted_none rfl _) (p_add rfl rfl rfl) ?_
          refine xo_pure (v := (.int .i64 (IntKind.i64.wrap (t10 + 1)))) rfl (wanted_none rfl _) (p_move rfl rfl) ?_
          refine xo_end ?_
          refine r_upd (i := 8) (v := (Sl.v t8)) rfl ?_
          refine r_upd (i := 9) (v := (.int .i64 t9)) rfl ?_
          refine r_upd (i := 10) (v := (.int .i64 (IntKind.i64.wrap (t10 + 1)))) rfl ?_
          exact hag2 (t8, t9, (IntKind.i64.wrap (t10 + 1))) _ _ H
      · intro J4
        refine r_region ?_
        refine xo_pure (v := (.pointer (some (a_3.add 1)))) rfl (wanted_none rfl _) (p_fieldAddr (off := 1) (ft := 9) (size := 1) rfl Try.underlying67 rfl Try.ti9 (by decide) rfl rfl) ?_
        obtain ⟨adv_4, v_4, hev_4, hcv_4, H⟩ := H
        refine xo_read (v := (.string v_4)) rfl (wanted_none rfl _) (rd_load (ad := adv_4) rfl Try.underlying9 rfl (by show Value.pointer _ = _; rw [hev_4]) hcv_4) ?_
        refine xo_pure (v := (.int .i64 (v_4.size : Int))) rfl (wanted_none rfl _) (p_lenS rfl Try.underlying9 rfl) ?_
        refine xo_pure (v := (.bool (decide (100 < (v_4.size : Int))))) rfl (wanted_none rfl _) (p_gt rfl rfl rfl) ?_
        refine xo_pure (v := (.bool (decide (100 < (v_4.size : Int))))) rfl (wanted_none rfl _) (p_move rfl rfl) ?_
        refine ifB_cases H ?_ ?_
        · clear H; intro hb6 H
          refine xo_skip rfl (wanted_no (d := 18) rfl rfl (by decide) rfl hb6) ?_
          refine xo_skip rfl (wanted_no (d := 18) rfl rfl (by decide) rfl hb6) ?_
          refine xo_skip rfl (wanted_no (d := 18) rfl rfl (by decide) rfl hb6) ?_
          refine xo_skip rfl (wanted_no (d := 18) rfl rfl (by decide) rfl hb6) ?_
          refine xo_pure (v := (.bool true)) rfl (wanted_none rfl _) (p_pickT rfl rfl hb6 rfl) ?_
          refine xo_end ?_
          refine r_upd (i := 8) (v := (Sl.v t8)) rfl ?_
          refine r_upd (i := 9) (v := (.int .i64 t9)) rfl ?_
          refine r_upd (i := 10) (v := (.int .i64 t10)) rfl ?_
          refine r_upd (i := 23) (v := (.bool true)) rfl ?_
          exact J4 (t8, t9, t10, true) _ _ H
        · clear H; intro hb6 H
          refine xo_pure (v := (.pointer (some (a_3.add 2)))) rfl (wanted_yes (d := 18) rfl rfl (by decide) rfl hb6) (p_fieldAddr (off := 2) (ft := 9) (size := 1) rfl Try.underlying67 rfl Try.ti9 (by decide) rfl rfl) ?_
          obtain ⟨adv_5, v_5, hev_5, hcv_5, H⟩ := H
          refine xo_read (v := (.string v_5)) rfl (wanted_yes (d := 18) rfl rfl (by decide) rfl hb6) (rd_load (ad := adv_5) rfl Try.underlying9 rfl (by show Value.pointer _ = _; rw [hev_5]) hcv_5) ?_
          refine xo_pure (v := (.int .i64 (v_5.size : Int))) rfl (wanted_yes (d := 18) rfl rfl (by decide) rfl hb6) (p_lenS rfl Try.underlying9 rfl) ?_
          refine xo_pure (v := (.bool (decide (100 < (v_5.size : Int))))) rfl (wanted_yes (d := 18) rfl rfl (by decide) rfl hb6) (p_gt rfl rfl rfl) ?_
          refine xo_pure (v := (.bool (decide (100 < (v_5.size : Int))))) rfl (wanted_none rfl _) (p_pickF rfl rfl hb6 rfl) ?_
          refine xo_end ?_
          refine r_upd (i := 8) (v := (Sl.v t8)) rfl ?_
          refine r_upd (i := 9) (v := (.int .i64 t9)) rfl ?_
          refine r_upd (i := 10) (v := (.int .i64 t10)) rfl ?_
          refine r_upd (i := 23) (v := (.bool (decide (100 < (v_5.size : Int))))) rfl ?_
          exact J4 (t8, t9, t10, (decide (100 < (v_5.size : Int)))) _ _ H
    · clear H; intro hb3 H
      refine r_exit rfl ?_
      refine r_seq ?_
      refine r_region ?_
      refine xo_pure (v := (.bool false)) rfl (wanted_none rfl _) (p_assign rfl rfl) ?_
      refine xo_end ?_
      exact r_ret (fn := Try.f35) Try.func35 (res_1 rfl ⟨by decide, rfl⟩) H

/-! 36 sporran/model.New -/
def model_New (R : Value → World → Prop)  (w : World) : Prop :=
  Ef Try.prog (Instr.makeMap 163 none) Value.map w fun v_1 w_1 =>
  Built #[(0, 1)] #[(.map none)] [(0, (.map v_1))] fun c_2 =>
  New c_2 165 w_1 fun a_3 w_2 =>
  R (.pointer (some a_3)) w_2

theorem model_New_ok (R : Value → World → Prop)  (w : World) (H : model_New R  w) : CallF Try.prog 36 #[] w R := by
  refine calls_of_runs (fn := Try.f36) Try.func36 rfl (Nat.le_of_ble_eq_true rfl) ?_
  show Runs _ _ 4 _ _ _ _
  unfold model_New at H

  refine r_seq ?_
  refine r_region ?_
  refine xo_pure (v := (.pointer none)) rfl (wanted_none rfl _) (p_assign rfl rfl) ?_
  refine xo_end ?_
  refine r_seq ?_
  refine r_region ?_
  refine xo_eff rfl (wanted_none rfl _) (e_gen (s := Instr.makeMap 163 none) (enc := Value.map) rfl H) ?_
  rintro _ w_1 ⟨v_1, rfl, H⟩
  obtain ⟨c_2, hflc_2, H⟩ := H
  refine xo_pure (v := (.agg c_2)) rfl (wanted_none rfl _) (p_buildS (places := #[(0, 1)]) rfl Try.pl165 Try.ti165 hflc_2 rfl) ?_
  refine xo_eff rfl (wanted_none rfl _) (e_box (v := (.agg c_2)) rfl rfl H) ?_
  rintro _ w_2 ⟨a_3, rfl, H⟩
  refine xo_pure (v := (.pointer (some a_3))) rfl (wanted_none rfl _) (p_assign rfl rfl) ?_
  refine xo_end ?_
  exact r_ret (fn := Try.f36) Try.func36 (res_1 rfl ⟨by decide, rfl⟩) H

/-! 37 (*sporran/model.Model).Do -/
def model_Model_Do_k1 (R : Value → World → Prop) (m0 : Option Addr) (o3 : Option Addr) (t4 : Option Addr) (t8 : Int) (t50 : Bool) (w : World) : Prop :=
  IfB t50 (
    LdN 53 o3 w fun v_31 =>
    CallF Try.prog 94 #[(.pointer m0), (.agg v_31)] w fun u_32 w_15 => As (Value.int .i64) u_32 fun v_33 =>
    Built #[(0, 1), (1, 1), (2, 48), (50, 1)] Try.z73 [(0, (.int .i64 v_33))] fun c_34 =>
    StN 51 t4 c_34 w_15 fun w_16 =>
    LdN 51 t4 w_16 fun r_35 =>
    R (.agg r_35) w_16) (
    IfB (decide (t8 = 8)) (
      NotNil m0 fun p_36 =>
      Ld Value.map (some (p_36.add 0)) w fun v_37 =>
      CallF Try.prog 96 #[(.map v_37)] w fun v_39 w_17 =>
      CallF Try.prog 95 #[v_39] w_17 fun u_40 w_18 => As Sl.v u_40 fun v_41 =>
      Built #[(0, 1), (1, 1), (2, 48), (50, 1)] Try.z73 [(3, (Sl.v v_41))] fun c_42 =>
      StN 51 t4 c_42 w_18 fun w_19 =>
      LdN 51 t4 w_19 fun r_43 =>
      R (.agg r_43) w_19) (
      Built #[(0, 1), (1, 1), (2, 48), (50, 1)] Try.z73 [(0, (.int .i64 1))] fun c_44 =>
      StN 51 t4 c_44 w fun w_20 =>
      LdN 51 t4 w_20 fun r_45 =>
      R (.agg r_45) w_20))

def model_Model_Do_k0 (R : Value → World → Prop) (m0 : Option Addr) (o3 : Option Addr) (t4 : Option Addr) (t8 : Int) (t43 : Bool) (w : World) : Prop :=
  IfB t43 (
    LdN 53 o3 w fun v_27 =>
    CallF Try.prog 93 #[(.pointer m0), (.agg v_27)] w fun u_28 w_13 => As Value.agg u_28 fun v_29 =>
    StN 51 t4 v_29 w_13 fun w_14 =>
    LdN 51 t4 w_14 fun r_30 =>
    R (.agg r_30) w_14) (
    IfB (decide (t8 = 6)) (
      model_Model_Do_k1 R m0 o3 t4 t8 (decide (t8 = 6)) w) (
      model_Model_Do_k1 R m0 o3 t4 t8 (decide (t8 = 7)) w))

def model_Model_Do (R : Value → World → Prop) (m0 : Option Addr) (o1 : Array Value) (w : World) : Prop :=
  New o1 67 w fun a_1 w_1 =>
  New Try.z73 73 w_1 fun a_2 w_2 =>
  Ld (Value.int .i64) (some (a_1.add 0)) w_2 fun v_3 =>
  IfB (decide (v_3 = 1)) (
    Ld Value.string (some (a_1.add 1)) w_2 fun v_4 =>
    Ld (Value.int .i64) (some (a_1.add 4)) w_2 fun v_5 =>
    Ef Try.prog (Instr.makeMap 168 none) Value.map w_2 fun v_6 w_3 =>
    Built #[(0, 1), (1, 1), (2, 1)] #[(.int .i64 0), (.bool false), (.map none)] [(0, (.int .i64 v_5)), (2, (.map v_6))] fun c_7 =>
    New c_7 170 w_3 fun a_8 w_4 =>
    CallF Try.prog 92 #[(.pointer m0), (.string v_4), (.pointer (some a_8)), (.int .i64 0)] w_4 fun u_9 w_5 => As (Value.int .i64) u_9 fun v_10 =>
    Built #[(0, 1), (1, 1), (2, 48), (50, 1)] Try.z73 [(0, (.int .i64 v_10))] fun c_11 =>
    StN 51 (some a_2) c_11 w_5 fun w_6 =>
    LdN 51 (some a_2) w_6 fun r_12 =>
    R (.agg r_12) w_6) (
    IfB (decide (v_3 = 2)) (
      NotNil m0 fun p_13 =>
      Ld Value.map (some (p_13.add 0)) (World.drew w_2) fun v_14 =>
      Ld Value.string (some (a_1.add 1)) (World.drew w_2) fun v_15 =>
      Ef Try.prog (Instr.lookup 163 (.map v_14) (.string v_15) true) id (World.drew w_2) fun u_18 w_8 => AsT2 Value.pointer Value.bool u_18 fun v_16 v_17 =>
      IfB (!v_17) (
        Built #[(0, 1), (1, 1), (2, 48), (50, 1)] Try.z73 [(0, (.int .i64 5))] fun c_19 =>
        StN 51 (some a_2) c_19 w_8 fun w_9 =>
        LdN 51 (some a_2) w_9 fun r_20 =>
        R (.agg r_20) w_9) (
        NotNil m0 fun p_21 =>
        Ld Value.map (some (p_21.add 0)) (World.drew w_8) fun v_22 =>
        Ld Value.string (some (a_1.add 1)) (World.drew w_8) fun v_23 =>
        Ef Try.prog (Builtin.delete_ #[163, 9] 0 #[(.map v_22), (.string v_23)]) id (World.drew w_8) fun v_24 w_11 =>
        Built #[(0, 1), (1, 1), (2, 48), (50, 1)] Try.z73 [] fun c_25 =>
        StN 51 (some a_2) c_25 w_11 fun w_12 =>
        LdN 51 (some a_2) w_12 fun r_26 =>
        R (.agg r_26) w_12)) (
      IfB (decide (v_3 = 3)) (
        model_Model_Do_k0 R m0 (some a_1) (some a_2) v_3 (decide (v_3 = 3)) w_2) (
        IfB (decide (v_3 = 4)) (
          model_Model_Do_k0 R m0 (some a_1) (some a_2) v_3 (decide (v_3 = 4)) w_2) (
          model_Model_Do_k0 R m0 (some a_1) (some a_2) v_3 (decide (v_3 = 5)) w_2))))

theorem model_Model_Do_ok (R : Value → World → Prop) (m0 : Option Addr) (o1 : Array Value) (w : World) (H : model_Model_Do R m0 o1 w) : CallF Try.prog 37 #[(.pointer m0), (.agg o1)] w R := by
  refine calls_of_runs (fn := Try.f37) Try.func37 rfl (Nat.le_of_ble_eq_true rfl) ?_
  show Runs _ _ 67 _ _ _ _
  unfold model_Model_Do at H
  refine r_upd (i := 0) (v := (.pointer m0)) rfl ?_
  refine r_upd (i := 1) (v := (.agg o1)) rfl ?_
  refine r_seq ?_
  refine r_region ?_
  refine xo_eff rfl (wanted_none rfl _) (e_box (v := (.agg o1)) rfl rfl H) ?_
  rintro _ w_1 ⟨a_1, rfl, H⟩
  refine xo_eff rfl (wanted_none rfl _) (e_alloc rfl Try.ti73 H) ?_
  rintro _ w_2 ⟨a_2, rfl, H⟩
  refine xo_end ?_
  refine r_seq ?_
  refine r_seq ?_
  refine r_region ?_
  refine xo_pure (v := (.pointer (some (a_1.add 0)))) rfl (wanted_none rfl _) (p_fieldAddr (off := 0) (ft := 3) (size := 1) rfl Try.underlying67 rfl Try.ti3 (by decide) rfl rfl) ?_
  obtain ⟨adv_3, v_3, hev_3, hcv_3, H⟩ := H
  refine xo_read (v := (.int .i64 v_3)) rfl (wanted_none rfl _) (rd_load (ad := adv_3) rfl Try.underlying3 rfl (by show Value.pointer _ = _; rw [hev_3]) hcv_3) ?_
  refine xo_end ?_
  refine r_block ?_
  refine r_seq ?_
  refine r_region ?_
  refine xo_pure (v := (.bool (decide (v_3 = 1)))) rfl (wanted_none rfl _) (p_eq rfl rfl rfl) ?_
  refine xo_pure (v := (.bool (decide (v_3 = 1)))) rfl (wanted_none rfl _) (p_assign rfl rfl) ?_
  refine xo_end ?_
  refine r_condB (b := (decide (v_3 = 1))) rfl H ?_ ?_
  · clear H; intro hb1 H
    refine r_seq ?_
    refine r_region ?_
    refine xo_pure (v := (.pointer m0)) rfl (wanted_none rfl _) (p_move rfl rfl) ?_
    refine xo_pure (v := (.pointer (some (a_1.add 1)))) rfl (wanted_none rfl _) (p_fieldAddr (off := 1) (ft := 9) (size := 1) rfl Try.underlying67 rfl Try.ti9 (by decide) rfl rfl) ?_
    obtain ⟨adv_4, v_4, hev_4, hcv_4, H⟩ := H
    refine xo_read (v := (.string v_4)) rfl (wanted_none rfl _) (rd_load (ad := adv_4) rfl Try.underlying9 rfl (by show Value.pointer _ = _; rw [hev_4]) hcv_4) ?_
    refine xo_pure (v := (.pointer (some (a_1.add 4)))) rfl (wanted_none rfl _) (p_fieldAddr (off := 4) (ft := 3) (size := 1) rfl Try.underlying67 rfl Try.ti3 (by decide) rfl rfl) ?_
    obtain ⟨adv_5, v_5, hev_5, hcv_5, H⟩ := H
    refine xo_read (v := (.int .i64 v_5)) rfl (wanted_none rfl _) (rd_load (ad := adv_5) rfl Try.underlying3 rfl (by show Value.pointer _ = _; rw [hev_5]) hcv_5) ?_
    refine xo_eff rfl (wanted_none rfl _) (e_gen (s := Instr.makeMap 168 none) (enc := Value.map) rfl H) ?_
    rintro _ w_3 ⟨v_6, rfl, H⟩
    obtain ⟨c_7, hflc_7, H⟩ := H
    refine xo_pure (v := (.agg c_7)) rfl (wanted_none rfl _) (p_buildS (places := #[(0, 1), (1, 1), (2, 1)]) rfl Try.pl170 Try.ti170 hflc_7 rfl) ?_
    refine xo_eff rfl (wanted_none rfl _) (e_box (v := (.agg c_7)) rfl rfl H) ?_
    rintro _ w_4 ⟨a_8, rfl, H⟩
    refine xo_eff rfl (wanted_none rfl _) (e_call (fn := Try.f92) H rfl rfl Try.func92 rfl rfl rfl) ?_
    rintro _ w_5 ⟨v_10, rfl, H⟩
    obtain ⟨c_11, hflc_11, H⟩ := H
    refine xo_pure (v := (.agg c_11)) rfl (wanted_none rfl _) (p_buildS (places := #[(0, 1), (1, 1), (2, 48), (50, 1)]) rfl Try.pl73 Try.ti73 hflc_11 rfl) ?_
    refine xo_effN rfl (wanted_none rfl _) (e_storeN rfl Try.ti73 rfl rfl H) ?_
    intro _ w_6 H
    refine xo_end ?_
    obtain ⟨adr_12, r_12, her_12, hnr_12, hrr_12, H⟩ := H
    exact r_ret (fn := Try.f37) Try.func37 (res_1 rfl (resV_cellN (by decide) (by show Value.pointer _ = _; rw [her_12]) Try.underlying73 rfl Try.ti73 hnr_12 hrr_12)) H
  · clear H; intro hb1 H
    refine r_seq ?_
    refine r_region ?_
    refine xo_pure (v := (.bool (decide (v_3 = 2)))) rfl (wanted_none rfl _) (p_eq rfl rfl rfl) ?_
    refine xo_pure (v := (.bool (decide (v_3 = 2)))) rfl (wanted_none rfl _) (p_assign rfl rfl) ?_
    refine xo_end ?_
    refine r_condB (b := (decide (v_3 = 2))) rfl H ?_ ?_
    · clear H; intro hb2 H
      refine r_seq ?_
      refine r_seq ?_
      refine r_draw #[[], [0], [0, 1], [0, 1, 2], [], [4], [0, 1, 2, 3, 4, 5], [0, 1, 2, 3, 4, 5, 6], [0, 1, 2, 3, 4, 5, 6, 7], [0, 1, 2, 3, 4, 5, 6, 7], [0, 1, 2, 3, 4, 5, 6, 7, 8], [0, 1, 2, 3, 4, 5, 6, 7, 8, 9, 10]] 12 rfl rfl ?_
      refine xa_pure (v := (.pointer m0)) 0 (by decide +kernel) rfl rfl (wanted_none rfl _) (p_move rfl rfl) ?_
      obtain ⟨p_13, hpp_13, H⟩ := H
      refine xa_pure (v := (.pointer (some p_13))) 1 (by decide +kernel) rfl rfl (wanted_none rfl _) (p_nilCheck rfl rfl hpp_13) ?_
      refine xa_pure (v := (.pointer (some (p_13.add 0)))) 2 (by decide +kernel) rfl rfl (wanted_none rfl _) (p_fieldAddr (off := 0) (ft := 163) (size := 1) rfl Try.underlying165 rfl Try.ti163 (by decide) rfl rfl) ?_
      obtain ⟨adv_14, v_14, hev_14, hcv_14, H⟩ := H
      refine xa_read (v := (.map v_14)) (S := (fun w => w.cell? adv_14 = some (.map v_14))) 3 (by decide +kernel) rfl rfl (wanted_none rfl _) (fun w hc => rd_load (ad := adv_14) rfl Try.underlying163 rfl (by show Value.pointer _ = _; rw [hev_14]) hc) hcv_14 ?_
      refine xa_pure (v := (.pointer (some (a_1.add 1)))) 4 (by decide +kernel) rfl rfl (wanted_none rfl _) (p_fieldAddr (off := 1) (ft := 9) (size := 1) rfl Try.underlying67 rfl Try.ti9 (by decide) rfl rfl) ?_
      obtain ⟨adv_15, v_15, hev_15, hcv_15, H⟩ := H
      refine xa_read (v := (.string v_15)) (S := (fun w => w.cell? adv_15 = some (.string v_15))) 5 (by decide +kernel) rfl rfl (wanted_none rfl _) (fun w hc => rd_load (ad := adv_15) rfl Try.underlying9 rfl (by show Value.pointer _ = _; rw [hev_15]) hc) hcv_15 ?_
      refine xa_eff 6 [] (by decide +kernel) rfl rfl rfl (wanted_none rfl _) (e_genV (s := Instr.lookup 163 (.map v_14) (.string v_15) true) rfl H) ?_
      rintro _ w_8 ⟨v_16, v_17, rfl, H⟩
      refine ⟨AllHeld.nil, ?_⟩
      refine xa_pure (v := (.tuple #[(.pointer v_16), (.bool v_17)])) 7 (by decide +kernel) rfl rfl (wanted_none rfl _) (p_move rfl rfl) ?_
      refine xa_pure (v := (.pointer v_16)) 8 (by decide +kernel) rfl rfl (wanted_none rfl _) (p_extract (vs := #[(.pointer v_16), (.bool v_17)]) rfl rfl rfl) ?_
      refine xa_pure (v := (.bool v_17)) 9 (by decide +kernel) rfl rfl (wanted_none rfl _) (p_extract (vs := #[(.pointer v_16), (.bool v_17)]) rfl rfl rfl) ?_
      refine xa_pure (v := (.pointer v_16)) 10 (by decide +kernel) rfl rfl (wanted_none rfl _) (p_assign rfl rfl) ?_
      refine xa_pure (v := (.bool v_17)) 11 (by decide +kernel) rfl rfl (wanted_none rfl _) (p_assign rfl rfl) ?_
      refine xa_end (by decide +kernel) ?_
      refine r_seq ?_
      refine r_region ?_
      refine xo_pure (v := (.bool v_17)) rfl (wanted_none rfl _) (p_move rfl rfl) ?_
      refine xo_pure (v := (.bool (!v_17))) rfl (wanted_none rfl _) (p_not rfl rfl) ?_
      refine xo_end ?_
      refine r_condB (b := (!v_17)) rfl H ?_ ?_
      · clear H; intro hb3 H
        refine r_seq ?_
        refine r_region ?_
        obtain ⟨c_19, hflc_19, H⟩ := H
        refine xo_pure (v := (.agg c_19)) rfl (wanted_none rfl _) (p_buildS (places := #[(0, 1), (1, 1), (2, 48), (50, 1)]) rfl Try.pl73 Try.ti73 hflc_19 rfl) ?_
        refine xo_effN rfl (wanted_none rfl _) (e_storeN rfl Try.ti73 rfl rfl H) ?_
        intro _ w_9 H
        refine xo_end ?_
        obtain ⟨adr_20, r_20, her_20, hnr_20, hrr_20, H⟩ := H
        exact r_ret (fn := Try.f37) Try.func37 (res_1 rfl (resV_cellN (by decide) (by show Value.pointer _ = _; rw [her_20]) Try.underlying73 rfl Try.ti73 hnr_20 hrr_20)) H
      · clear H; intro hb3 H
        refine r_skip ?_
        refine r_seq ?_
        refine r_draw #[[], [0], [0, 1], [0, 1, 2], [], [4], [0, 1, 2, 3, 4, 5]] 7 rfl rfl ?_
        refine xa_pure (v := (.pointer m0)) 0 (by decide +kernel) rfl rfl (wanted_none rfl _) (p_move rfl rfl) ?_
        obtain ⟨p_21, hpp_21, H⟩ := H
        refine xa_pure (v := (.pointer (some p_21))) 1 (by decide +kernel) rfl rfl (wanted_none rfl _) (p_nilCheck rfl rfl hpp_21) ?_
        refine xa_pure (v := (.pointer (some (p_21.add 0)))) 2 (by decide +kernel) rfl rfl (wanted_none rfl _) (p_fieldAddr (off := 0) (ft := 163) (size := 1) rfl Try.underlying165 rfl Try.ti163 (by decide) rfl rfl) ?_
        obtain ⟨adv_22, v_22, hev_22, hcv_22, H⟩ := H
        refine xa_read (v := (.map v_22)) (S := (fun w => w.cell? adv_22 = some (.map v_22))) 3 (by decide +kernel) rfl rfl (wanted_none rfl _) (fun w hc => rd_load (ad := adv_22) rfl Try.underlying163 rfl (by show Value.pointer _ = _; rw [hev_22]) hc) hcv_22 ?_
        refine xa_pure (v := (.pointer (some (a_1.add 1)))) 4 (by decide +kernel) rfl rfl (wanted_none rfl _) (p_fieldAddr (off := 1) (ft := 9) (size := 1) rfl Try.underlying67 rfl Try.ti9 (by decide) rfl rfl) ?_
        obtain ⟨adv_23, v_23, hev_23, hcv_23, H⟩ := H
        refine xa_read (v := (.string v_23)) (S := (fun w => w.cell? adv_23 = some (.string v_23))) 5 (by decide +kernel) rfl rfl (wanted_none rfl _) (fun w hc => rd_load (ad := adv_23) rfl Try.underlying9 rfl (by show Value.pointer _ = _; rw [hev_23]) hc) hcv_23 ?_
        refine xa_effN 6 [] (by decide +kernel) rfl rfl rfl (wanted_none rfl _) (e_biV (b := .delete) H rfl rfl rfl) ?_
        intro v_24 w_11 H
        refine ⟨AllHeld.nil, ?_⟩
        refine xa_end (by decide +kernel) ?_
        refine r_seq ?_
        refine r_region ?_
        obtain ⟨c_25, hflc_25, H⟩ := H
        refine xo_pure (v := (.agg c_25)) rfl (wanted_none rfl _) (p_buildS (places := #[(0, 1), (1, 1), (2, 48), (50, 1)]) rfl Try.pl73 Try.ti73 hflc_25 rfl) ?_
        refine xo_effN rfl (wanted_none rfl _) (e_storeN rfl Try.ti73 rfl rfl H) ?_
        intro _ w_12 H
        refine xo_end ?_
        obtain ⟨adr_26, r_26, her_26, hnr_26, hrr_26, H⟩ := H
        exact r_ret (fn := Try.f37) Try.func37 (res_1 rfl (resV_cellN (by decide) (by show Value.pointer _ = _; rw [her_26]) Try.underlying73 rfl Try.ti73 hnr_26 hrr_26)) H
    · clear H; intro hb2 H
      refine r_seqJ (fun (s : Option Addr × Option Addr × Option Addr × Int × Bool) σ => upd 43 (.bool s.2.2.2.2) (upd 8 (.int .i64 s.2.2.2.1) (upd 4 (.pointer s.2.2.1) (upd 3 (.pointer s.2.1) (upd 0 (.pointer s.1) (σ)))))) (fun (s : Option Addr × Option Addr × Option Addr × Int × Bool) w => model_Model_Do_k0 R s.1 s.2.1 s.2.2.1 s.2.2.2.1 s.2.2.2.2 w) ?_ ?_
      · rintro ⟨m0, o3, t4, t8, t43⟩ σ w H
        replace H : model_Model_Do_k0 R m0 o3 t4 t8 t43 w := H
        show Runs _ _ _ _ _ (upd 43 (.bool t43) (upd 8 (.int .i64 t8) (upd 4 (.pointer t4) (upd 3 (.pointer o3) (upd 0 (.pointer m0) (σ)))))) _
        unfold model_Model_Do_k0 at H
        refine r_condB (b := t43) rfl H ?_ ?_
        · clear H; intro hb5 H
          refine r_seq ?_
          refine r_region ?_
          refine xo_pure (v := (.pointer m0)) rfl (wanted_none rfl _) (p_move rfl rfl) ?_
          obtain ⟨adv_27, v_27, hev_27, hnv_27, hcv_27, H⟩ := H
          refine xo_read (v := (.agg v_27)) rfl (wanted_none rfl _) (rd_loadN (ad := adv_27) rfl Try.underlying67 rfl Try.ti67 (by show Value.pointer _ = _; rw [hev_27]) hnv_27 hcv_27) ?_
          refine xo_eff rfl (wanted_none rfl _) (e_call (fn := Try.f93) H rfl rfl Try.func93 rfl rfl rfl) ?_
          rintro _ w_13 ⟨v_29, rfl, H⟩
          refine xo_effN rfl (wanted_none rfl _) (e_storeN rfl Try.ti73 rfl rfl H) ?_
          intro _ w_14 H
          refine xo_end ?_
          obtain ⟨adr_30, r_30, her_30, hnr_30, hrr_30, H⟩ := H
          exact r_ret (fn := Try.f37) Try.func37 (res_1 rfl (resV_cellN (by decide) (by show Value.pointer _ = _; rw [her_30]) Try.underlying73 rfl Try.ti73 hnr_30 hrr_30)) H
        · clear H; intro hb5 H
          refine r_seqJ (fun (s : Option Addr × Option Addr × Option Addr × Int × Bool) σ => upd 50 (.bool s.2.2.2.2) (upd 8 (.int .i64 s.2.2.2.1) (upd 4 (.pointer s.2.2.1) (upd 3 (.pointer s.2.1) (upd 0 (.pointer s.1) (σ)))))) (fun (s : Option Addr × Option Addr × Option Addr × Int × Bool) w => model_Model_Do_k1 R s.1 s.2.1 s.2.2.1 s.2.2.2.1 s.2.2.2.2 w) ?_ ?_
          · rintro ⟨m0, o3, t4, t8, t50⟩ σ w H
            replace H : model_Model_Do_k1 R m0 o3 t4 t8 t50 w := H
            show Runs _ _ _ _ _ (upd 50 (.bool t50) (upd 8 (.int .i64 t8) (upd 4 (.pointer t4) (upd 3 (.pointer o3) (upd 0 (.pointer m0) (σ)))))) _
            unfold model_Model_Do_k1 at H
            refine r_condB (b := t50) rfl H ?_ ?_
            · clear H; intro hb7 H
              refine r_seq ?_
              refine r_region ?_
              refine xo_pure (v := (.pointer m0)) rfl (wanted_none rfl _) (p_move rfl rfl) ?_
              obtain ⟨adv_31, v_31, hev_31, hnv_31, hcv_31, H⟩ := H
              refine xo_read (v := (.agg v_31)) rfl (wanted_none rfl _) (rd_loadN (ad := adv_31) rfl Try.underlying67 rfl Try.ti67 (by show Value.pointer _ = _; rw [hev_31]) hnv_31 hcv_31) ?_
              refine xo_eff rfl (wanted_none rfl _) (e_call (fn := Try.f94) H rfl rfl Try.func94 rfl rfl rfl) ?_
              rintro _ w_15 ⟨v_33, rfl, H⟩
              obtain ⟨c_34, hflc_34, H⟩ := H
              refine xo_pure (v := (.agg c_34)) rfl (wanted_none rfl _) (p_buildS (places := #[(0, 1), (1, 1), (2, 48), (50, 1)]) rfl Try.pl73 Try.ti73 hflc_34 rfl) ?_
              refine xo_effN rfl (wanted_none rfl _) (e_storeN rfl Try.ti73 rfl rfl H) ?_
              intro _ w_16 H
              refine xo_end ?_
              obtain ⟨adr_35, r_35, her_35, hnr_35, hrr_35, H⟩ := H
              exact r_ret (fn := Try.f37) Try.func37 (res_1 rfl (resV_cellN (by decide) (by show Value.pointer _ = _; rw [her_35]) Try.underlying73 rfl Try.ti73 hnr_35 hrr_35)) H
            · clear H; intro hb7 H
              refine r_seq ?_
              refine r_region ?_
              refine xo_pure (v := (.bool (decide (t8 = 8)))) rfl (wanted_none rfl _) (p_eq rfl rfl rfl) ?_
              refine xo_pure (v := (.bool (decide (t8 = 8)))) rfl (wanted_none rfl _) (p_assign rfl rfl) ?_
              refine xo_end ?_
              refine r_condB (b := (decide (t8 = 8))) rfl H ?_ ?_
              · clear H; intro hb8 H
                refine r_seq ?_
                refine r_region ?_
                refine xo_pure (v := (.pointer m0)) rfl (wanted_none rfl _) (p_move rfl rfl) ?_
                obtain ⟨p_36, hpp_36, H⟩ := H
                refine xo_pure (v := (.pointer (some p_36))) rfl (wanted_none rfl _) (p_nilCheck rfl rfl hpp_36) ?_
                refine xo_pure (v := (.pointer (some (p_36.add 0)))) rfl (wanted_none rfl _) (p_fieldAddr (off := 0) (ft := 163) (size := 1) rfl Try.underlying165 rfl Try.ti163 (by decide) rfl rfl) ?_
                obtain ⟨adv_37, v_37, hev_37, hcv_37, H⟩ := H
                refine xo_read (v := (.map v_37)) rfl (wanted_none rfl _) (rd_load (ad := adv_37) rfl Try.underlying163 rfl (by show Value.pointer _ = _; rw [hev_37]) hcv_37) ?_
                refine xo_eff rfl (wanted_none rfl _) (e_call (fn := Try.f96) H rfl rfl Try.func96 rfl rfl rfl) ?_
                intro v_39 w_17 H
                refine xo_eff rfl (wanted_none rfl _) (e_call (fn := Try.f95) H rfl rfl Try.func95 rfl rfl rfl) ?_
                rintro _ w_18 ⟨v_41, rfl, H⟩
                obtain ⟨c_42, hflc_42, H⟩ := H
                refine xo_pure (v := (.agg c_42)) rfl (wanted_none rfl _) (p_buildS (places := #[(0, 1), (1, 1), (2, 48), (50, 1)]) rfl Try.pl73 Try.ti73 hflc_42 rfl) ?_
                refine xo_effN rfl (wanted_none rfl _) (e_storeN rfl Try.ti73 rfl rfl H) ?_
                intro _ w_19 H
                refine xo_end ?_
                obtain ⟨adr_43, r_43, her_43, hnr_43, hrr_43, H⟩ := H
                exact r_ret (fn := Try.f37) Try.func37 (res_1 rfl (resV_cellN (by decide) (by show Value.pointer _ = _; rw [her_43]) Try.underlying73 rfl Try.ti73 hnr_43 hrr_43)) H
              · clear H; intro hb8 H
                refine r_skip ?_
                refine r_inBlock ?_
                refine r_seq ?_
                refine r_region ?_
                obtain ⟨c_44, hflc_44, H⟩ := H
                refine xo_pure (v := (.agg c_44)) rfl (wanted_none rfl _) (p_buildS (places := #[(0, 1), (1, 1), (2, 48), (50, 1)]) rfl Try.pl73 Try.ti73 hflc_44 rfl) ?_
                refine xo_effN rfl (wanted_none rfl _) (e_storeN rfl Try.ti73 rfl rfl H) ?_
                intro _ w_20 H
                refine xo_end ?_
                obtain ⟨adr_45, r_45, her_45, hnr_45, hrr_45, H⟩ := H
                exact r_ret (fn := Try.f37) Try.func37 (res_1 rfl (resV_cellN (by decide) (by show Value.pointer _ = _; rw [her_45]) Try.underlying73 rfl Try.ti73 hnr_45 hrr_45)) H
          · intro J6
            refine r_seq ?_
            refine r_region ?_
            refine xo_pure (v := (.bool (decide (t8 = 6)))) rfl (wanted_none rfl _) (p_eq rfl rfl rfl) ?_
            refine xo_pure (v := (.bool (decide (t8 = 6)))) rfl (wanted_none rfl _) (p_assign rfl rfl) ?_
            refine xo_end ?_
            refine r_condB (b := (decide (t8 = 6))) rfl H ?_ ?_
            · clear H; intro hb9 H
              refine r_skip ?_
              refine r_upd (i := 0) (v := (.pointer m0)) rfl ?_
              refine r_upd (i := 3) (v := (.pointer o3)) rfl ?_
              refine r_upd (i := 4) (v := (.pointer t4)) rfl ?_
              refine r_upd (i := 8) (v := (.int .i64 t8)) rfl ?_
              refine r_upd (i := 50) (v := (.bool (decide (t8 = 6)))) rfl ?_
              exact J6 (m0, o3, t4, t8, (decide (t8 = 6))) _ _ H
            · clear H; intro hb9 H
              refine r_region ?_
              refine xo_pure (v := (.bool (decide (t8 = 7)))) rfl (wanted_none rfl _) (p_eq rfl rfl rfl) ?_
              refine xo_pure (v := (.bool (decide (t8 = 7)))) rfl (wanted_none rfl _) (p_assign rfl rfl) ?_
              refine xo_end ?_
              refine r_upd (i := 0) (v := (.pointer m0)) rfl ?_
              refine r_upd (i := 3) (v := (.pointer o3)) rfl ?_
              refine r_upd (i := 4) (v := (.pointer t4)) rfl ?_
              refine r_upd (i := 8) (v := (.int .i64 t8)) rfl ?_
              refine r_upd (i := 50) (v := (.bool (decide (t8 = 7)))) rfl ?_
              exact J6 (m0, o3, t4, t8, (decide (t8 = 7))) _ _ H
      · intro J4
        refine r_seq ?_
        refine r_region ?_
        refine xo_pure (v := (.bool (decide (v_3 = 3)))) rfl (wanted_none rfl _) (p_eq rfl rfl rfl) ?_
        refine xo_pure (v := (.bool (decide (v_3 = 3)))) rfl (wanted_none rfl _) (p_assign rfl rfl) ?_
        refine xo_end ?_
        refine r_condB (b := (decide (v_3 = 3))) rfl H ?_ ?_
        · clear H; intro hb10 H
          refine r_skip ?_
          refine r_upd (i := 0) (v := (.pointer m0)) rfl ?_
          refine r_upd (i := 3) (v := (.pointer (some a_1))) rfl ?_
          refine r_upd (i := 4) (v := (.pointer (some a_2))) rfl ?_
          refine r_upd (i := 8) (v := (.int .i64 v_3)) rfl ?_
          refine r_upd (i := 43) (v := (.bool (decide (v_3 = 3)))) rfl ?_
          exact J4 (m0, (some a_1), (some a_2), v_3, (decide (v_3 = 3))) _ _ H
        · clear H; intro hb10 H
          refine r_seq ?_
          refine r_region ?_
          refine xo_pure (v := (.bool (decide (v_3 = 4)))) rfl (wanted_none rfl _) (p_eq rfl rfl rfl) ?_
          refine xo_pure (v := (.bool (decide (v_3 = 4)))) rfl (wanted_none rfl _) (p_assign rfl rfl) ?_
          refine xo_end ?_
          refine r_condB (b := (decide (v_3 = 4))) rfl H ?_ ?_
          · clear H; intro hb11 H
            refine r_skip ?_
            refine r_upd (i := 0) (v := (.pointer m0)) rfl ?_
            refine r_upd (i := 3) (v := (.pointer (some a_1))) rfl ?_
            refine r_upd (i := 4) (v := (.pointer (some a_2))) rfl ?_
            refine r_upd (i := 8) (v := (.int .i64 v_3)) rfl ?_
            refine r_upd (i := 43) (v := (.bool (decide (v_3 = 4)))) rfl ?_
            exact J4 (m0, (some a_1), (some a_2), v_3, (decide (v_3 = 4))) _ _ H
          · clear H; intro hb11 H
            refine r_region ?_
            refine xo_pure (v := (.bool (decide (v_3 = 5)))) rfl (wanted_none rfl _) (p_eq rfl rfl rfl) ?_
            refine xo_pure (v := (.bool (decide (v_3 = 5)))) rfl (wanted_none rfl _) (p_assign rfl rfl) ?_
            refine xo_end ?_
            refine r_upd (i := 0) (v := (.pointer m0)) rfl ?_
            refine r_upd (i := 3) (v := (.pointer (some a_1))) rfl ?_
            refine r_upd (i := 4) (v := (.pointer (some a_2))) rfl ?_
            refine r_upd (i := 8) (v := (.int .i64 v_3)) rfl ?_
            refine r_upd (i := 43) (v := (.bool (decide (v_3 = 5)))) rfl ?_
            exact J4 (m0, (some a_1), (some a_2), v_3, (decide (v_3 = 5))) _ _ H

/-! 62 sporran/model.Event -/
def model_Event_k2 (R : Value → World → Prop) (ag1 : (Option Addr × Sl × Array Value × Int) → World → Prop) (out3 : Sl) (w : World) : Prop :=
  R (Sl.v out3) w

def model_Event_k1 (R : Value → World → Prop) (ag1 : (Option Addr × Sl × Array Value × Int) → World → Prop) (o1 : Option Addr) (out3 : Sl) (w : World) : Prop :=
  NotNil o1 fun p_10 =>
  Ld (Value.int .i64) (some (p_10.add 0)) w fun v_11 =>
  IfB (decide (v_11 = 3)) (
    NotNil o1 fun p_12 =>
    Cut ⟨some (p_12.add 5), 48, 48⟩ 1 none none none fun s_13 =>
    Ef Try.prog (Builtin.append_ #[39, 39] 39 #[(Sl.v out3), (Sl.v s_13)]) Sl.v w fun v_14 w_3 =>
    model_Event_k2 R ag1 v_14 w_3) (
    model_Event_k2 R ag1 out3 w)

def model_Event_b0 (R : Value → World → Prop) (ag1 : (Option Addr × Sl × Array Value × Int) → World → Prop) (o1 : Option Addr) (out3 : Sl) (t12 : Array Value) (t13 : Int) (w : World) : Prop :=
  IfB (decide (t13 < 3)) (
    IxA 3 t13 (
    At (Value.int .i64) t12 t13.toNat fun f_7 =>
    CallF Try.prog 125 #[(Sl.v out3), (.int .u64 (IntKind.u64.wrap f_7))] w fun u_8 w_2 => As Sl.v u_8 fun v_9 =>
    ag1 (o1, v_9, t12, (IntKind.i64.wrap (t13 + 1))) w_2)) (
    NotNil o1 fun p_15 =>
    LdH Value.string (some (p_15.add 1)) (World.drew w) fun adv_16 v_16 =>
    NotNil o1 fun p_17 =>
    LdH Value.string (some (p_17.add 2)) (World.drew w) fun adv_18 v_18 =>
    (
      Ef Try.prog (convert 9 39 (.string v_16)) Sl.v (World.drew w) fun v_19 w_5 =>
      ((w_5).cell? adv_18 = some (.string v_18)) ∧
      (
        CallF Try.prog 126 #[(Sl.v out3), (Sl.v v_19)] w_5 fun u_20 w_6 => As Sl.v u_20 fun v_21 =>
        ((w_6).cell? adv_18 = some (.string v_18)) ∧
        Ef Try.prog (convert 9 39 (.string v_18)) Sl.v w_6 fun v_22 w_7 =>
        CallF Try.prog 126 #[(Sl.v v_21), (Sl.v v_22)] w_7 fun u_23 w_8 => As Sl.v u_23 fun v_24 =>
        model_Event_k1 R ag1 o1 v_24 w_8) ∧ (
        Ef Try.prog (convert 9 39 (.string v_18)) Sl.v w_5 fun v_25 w_9 =>
        CallF Try.prog 126 #[(Sl.v out3), (Sl.v v_19)] w_9 fun u_26 w_10 => As Sl.v u_26 fun v_27 =>
        CallF Try.prog 126 #[(Sl.v v_27), (Sl.v v_25)] w_10 fun u_28 w_11 => As Sl.v u_28 fun v_29 =>
        model_Event_k1 R ag1 o1 v_29 w_11)) ∧ (
      Ef Try.prog (convert 9 39 (.string v_18)) Sl.v (World.drew w) fun v_30 w_12 =>
      ((w_12).cell? adv_16 = some (.string v_16)) ∧
      Ef Try.prog (convert 9 39 (.string v_16)) Sl.v w_12 fun v_31 w_13 =>
      CallF Try.prog 126 #[(Sl.v out3), (Sl.v v_31)] w_13 fun u_32 w_14 => As Sl.v u_32 fun v_33 =>
      CallF Try.prog 126 #[(Sl.v v_33), (Sl.v v_30)] w_14 fun u_34 w_15 => As Sl.v u_34 fun v_35 =>
      model_Event_k1 R ag1 o1 v_35 w_15))

def model_Event (R : Value → World → Prop) (o0 : Array Value) (w : World) : Prop :=
  New o0 67 w fun a_1 w_1 =>
  Ld (Value.int .i64) (some (a_1.add 0)) w_1 fun v_2 =>
  Ld (Value.int .i64) (some (a_1.add 3)) w_1 fun v_3 =>
  Ld (Value.int .i64) (some (a_1.add 4)) w_1 fun v_4 =>
  BuiltA 1 #[(.int .i64 0), (.int .i64 0), (.int .i64 0)] [(0, (.int .i64 v_2)), (1, (.int .i64 v_3)), (2, (.int .i64 v_4))] fun c_5 =>
  Lp (fun ag (s : Option Addr × Sl × Array Value × Int) w => model_Event_b0 R ag s.1 s.2.1 s.2.2.1 s.2.2.2 w) ((some a_1), Sl.nil, c_5, 0) w_1

theorem model_Event_ok (R : Value → World → Prop) (o0 : Array Value) (w : World) (H : model_Event R o0 w) : CallF Try.prog 62 #[(.agg o0)] w R := by
  refine calls_of_runs (fn := Try.f62) Try.func62 rfl (Nat.le_of_ble_eq_true rfl) ?_
  show Runs _ _ 38 _ _ _ _
  unfold model_Event at H
  refine r_upd (i := 0) (v := (.agg o0)) rfl ?_
  refine r_seq ?_
  refine r_region ?_
  refine xo_eff rfl (wanted_none rfl _) (e_box (v := (.agg o0)) rfl rfl H) ?_
  rintro _ w_1 ⟨a_1, rfl, H⟩
  refine xo_pure (v := (Sl.v Sl.nil)) rfl (wanted_none rfl _) (p_assign rfl rfl) ?_
  refine xo_end ?_
  refine r_seq ?_
  refine r_region ?_
  refine xo_pure (v := (Sl.v Sl.nil)) rfl (wanted_none rfl _) (p_assign rfl rfl) ?_
  refine xo_end ?_
  refine r_seq ?_
  refine r_seq ?_
  refine r_region ?_
  refine xo_pure (v := (.pointer (some (a_1.add 0)))) rfl (wanted_none rfl _) (p_fieldAddr (off := 0) (ft := 3) (size := 1) rfl Try.underlying67 rfl Try.ti3 (by decide) rfl rfl) ?_
  obtain ⟨adv_2, v_2, hev_2, hcv_2, H⟩ := H
  refine xo_read (v := (.int .i64 v_2)) rfl (wanted_none rfl _) (rd_load (ad := adv_2) rfl Try.underlying3 rfl (by show Value.pointer _ = _; rw [hev_2]) hcv_2) ?_
  refine xo_pure (v := (.pointer (some (a_1.add 3)))) rfl (wanted_none rfl _) (p_fieldAddr (off := 3) (ft := 3) (size := 1) rfl Try.underlying67 rfl Try.ti3 (by decide) rfl rfl) ?_
  obtain ⟨adv_3, v_3, hev_3, hcv_3, H⟩ := H
  refine xo_read (v := (.int .i64 v_3)) rfl (wanted_none rfl _) (rd_load (ad := adv_3) rfl Try.underlying3 rfl (by show Value.pointer _ = _; rw [hev_3]) hcv_3) ?_
  refine xo_pure (v := (.pointer (some (a_1.add 4)))) rfl (wanted_none rfl _) (p_fieldAddr (off := 4) (ft := 3) (size := 1) rfl Try.underlying67 rfl Try.ti3 (by decide) rfl rfl) ?_
  obtain ⟨adv_4, v_4, hev_4, hcv_4, H⟩ := H
  refine xo_read (v := (.int .i64 v_4)) rfl (wanted_none rfl _) (rd_load (ad := adv_4) rfl Try.underlying3 rfl (by show Value.pointer _ = _; rw [hev_4]) hcv_4) ?_
  obtain ⟨c_5, hflc_5, H⟩ := H
  refine xo_pure (v := (.agg c_5)) rfl (wanted_none rfl _) (p_buildA (size := 1) rfl Try.underlying227 Try.ti227 Try.ti3 hflc_5 rfl) ?_
  refine xo_pure (v := (.int .i64 0)) rfl (wanted_none rfl _) (p_move rfl rfl) ?_
  refine xo_end ?_
  refine r_block ?_
  refine r_upd (i := 1) (v := (.pointer (some a_1))) rfl ?_
  refine r_upd (i := 3) (v := (Sl.v Sl.nil)) rfl ?_
  refine r_upd (i := 12) (v := (.agg c_5)) rfl ?_
  refine r_upd (i := 13) (v := (.int .i64 0)) rfl ?_
  refine r_loopJ (fun (s : Option Addr × Sl × Array Value × Int) σ => upd 13 (.int .i64 s.2.2.2) (upd 12 (.agg s.2.2.1) (upd 3 (Sl.v s.2.1) (upd 1 (.pointer s.1) (σ))))) (s := ((some a_1), Sl.nil, c_5, 0)) H ?_
  clear H
  rintro ag1 ⟨o1, out3, t12, t13⟩ σ w H hag1
  replace H : model_Event_b0 R ag1 o1 out3 t12 t13 w := H
  show Runs _ _ _ _ _ (upd 13 (.int .i64 t13) (upd 12 (.agg t12) (upd 3 (Sl.v out3) (upd 1 (.pointer o1) (σ))))) _
  unfold model_Event_b0 at H
  refine r_seq ?_
  refine r_region ?_
  refine xo_pure (v := (.bool (decide (t13 < 3)))) rfl (wanted_none rfl _) (p_lt rfl rfl rfl) ?_
  refine xo_end ?_
  refine r_seq ?_
  refine r_condB (b := (decide (t13 < 3))) rfl H ?_ ?_
  · clear H; intro hb2 H
    refine r_skip ?_
    refine r_seq ?_
    refine r_block ?_
    refine r_seq ?_
    refine r_region ?_
    obtain ⟨hlq_6, huq_6, f_7, hff_7, H⟩ := H
    refine xo_pure (v := (.int .i64 f_7)) rfl (wanted_none rfl _) (p_indexA1 rfl Try.underlying227 Try.ti3 Try.underlying3 rfl rfl rfl hlq_6 huq_6 hff_7) ?_
    refine xo_pure (v := (.int .i64 f_7)) rfl (wanted_none rfl _) (p_assign rfl rfl) ?_
    refine xo_end ?_
    refine r_region ?_
    refine xo_pure (v := (Sl.v out3)) rfl (wanted_none rfl _) (p_move rfl rfl) ?_
    refine xo_pure (v := (.int .i64 f_7)) rfl (wanted_none rfl _) (p_move rfl rfl) ?_
    refine xo_pure (v := (.int .u64 (IntKind.u64.wrap f_7))) rfl (wanted_none rfl _) (p_conv rfl Try.underlying3 Try.underlying22 rfl) ?_
    refine xo_eff rfl (wanted_none rfl _) (e_call (fn := Try.f125) H rfl rfl Try.func125 rfl rfl rfl) ?_
    rintro _ w_2 ⟨v_9, rfl, H⟩
    refine xo_pure (v := (Sl.v v_9)) rfl (wanted_none rfl _) (p_assign rfl rfl) ?_
    refine xo_end ?_
    refine r_inBlock ?_
    refine r_region ?_
    refine xo_pure (v := (.int .i64 (IntKind.i64.wrap (t13 + 1)))) rfl (wanted_none rfl _) (p_add rfl rfl rfl) ?_
    refine xo_pure (v := (.int .i64 (IntKind.i64.wrap (t13 + 1)))) rfl (wanted_none rfl _) (p_move rfl rfl) ?_
    refine xo_end ?_
    refine r_upd (i := 1) (v := (.pointer o1)) rfl ?_
    refine r_upd (i := 3) (v := (Sl.v v_9)) rfl ?_
    refine r_upd (i := 12) (v := (.agg t12)) rfl ?_
    refine r_upd (i := 13) (v := (.int .i64 (IntKind.i64.wrap (t13 + 1)))) rfl ?_
    exact hag1 (o1, v_9, t12, (IntKind.i64.wrap (t13 + 1))) _ _ H
  · clear H; intro hb2 H
    refine r_exit rfl ?_
    refine r_seq ?_
    refine r_topJ (fun (s : Option Addr × Sl) σ => upd 3 (Sl.v s.2) (upd 1 (.pointer s.1) (σ))) (fun (s : Option Addr × Sl) w => model_Event_k1 R ag1 s.1 s.2 w) ?_ ?_
    · rintro ⟨o1, out3⟩ σ w H
      replace H : model_Event_k1 R ag1 o1 out3 w := H
      show Runs _ _ _ _ _ (upd 3 (Sl.v out3) (upd 1 (.pointer o1) (σ))) _
      unfold model_Event_k1 at H
      refine r_seqJ (fun (s : Sl) σ => upd 3 (Sl.v s) (σ)) (fun (s : Sl) w => model_Event_k2 R ag1 s w) ?_ ?_
      · rintro out3 σ w H
        replace H : model_Event_k2 R ag1 out3 w := H
        show Runs _ _ _ _ _ (upd 3 (Sl.v out3) (σ)) _
        unfold model_Event_k2 at H
        refine r_seq ?_
        refine r_region ?_
        refine xo_pure (v := (Sl.v out3)) rfl (wanted_none rfl _) (p_move rfl rfl) ?_
        refine xo_pure (v := (Sl.v out3)) rfl (wanted_none rfl _) (p_assign rfl rfl) ?_
        refine xo_end ?_
        exact r_ret (fn := Try.f62) Try.func62 (res_1 rfl ⟨by decide, rfl⟩) H
      · intro J4
        refine r_seq ?_
        refine r_region ?_
        obtain ⟨p_10, hpp_10, H⟩ := H
        refine xo_pure (v := (.pointer (some (p_10.add 0)))) rfl (wanted_none rfl _) (p_fieldAddr (off := 0) (ft := 3) (size := 1) rfl Try.underlying67 rfl Try.ti3 (by decide) rfl hpp_10) ?_
        obtain ⟨adv_11, v_11, hev_11, hcv_11, H⟩ := H
        refine xo_read (v := (.int .i64 v_11)) rfl (wanted_none rfl _) (rd_load (ad := adv_11) rfl Try.underlying3 rfl (by show Value.pointer _ = _; rw [hev_11]) hcv_11) ?_
        refine xo_pure (v := (.bool (decide (v_11 = 3)))) rfl (wanted_none rfl _) (p_eq rfl rfl rfl) ?_
        refine xo_end ?_
        refine r_condB (b := (decide (v_11 = 3))) rfl H ?_ ?_
        · clear H; intro hb5 H
          refine r_region ?_
          refine xo_pure (v := (Sl.v out3)) rfl (wanted_none rfl _) (p_move rfl rfl) ?_
          obtain ⟨p_12, hpp_12, H⟩ := H
          refine xo_pure (v := (.pointer (some (p_12.add 5)))) rfl (wanted_none rfl _) (p_fieldAddr (off := 5) (ft := 65) (size := 48) rfl Try.underlying67 rfl Try.ti65 (by decide) rfl hpp_12) ?_
          obtain ⟨ls_13, hs_13, ms_13, c3s_13, c4s_13, c5s_13, c6s_13, c7s_13, H⟩ := H
          obtain ⟨s_13, hds_13⟩ : ∃ q : Sl, q = ⟨if ms_13 = ls_13 then some (p_12.add 5) else (some (p_12.add 5)).map (·.add (ls_13 * 1)), hs_13 - ls_13, ms_13 - ls_13⟩ := ⟨_, rfl⟩
          rw [← hds_13] at H
          refine xo_pure (v := (Sl.v s_13)) rfl (wanted_none rfl _) (by rw [hds_13]; exact p_sliceA (ad := (p_12.add 5)) (n := 48) (size := 1) (vl := none) (vh := none) (vm := none) rfl Try.underlying65 Try.ti5 rfl OptI.none OptI.none OptI.none c3s_13 c4s_13 c5s_13 c6s_13 c7s_13) ?_
          refine xo_eff rfl (wanted_none rfl _) (e_app H rfl rfl rfl) ?_
          rintro _ w_3 ⟨v_14, rfl, H⟩
          refine xo_pure (v := (Sl.v v_14)) rfl (wanted_none rfl _) (p_assign rfl rfl) ?_
          refine xo_end ?_
          refine r_upd (i := 3) (v := (Sl.v v_14)) rfl ?_
          exact J4 v_14 _ _ H
        · clear H; intro hb5 H
          refine r_skip ?_
          refine r_upd (i := 3) (v := (Sl.v out3)) rfl ?_
          exact J4 out3 _ _ H
    · intro J3
      refine r_draw #[[], [], [1], [1, 2], [0, 1, 2, 3], [], [5], [5, 6], [0, 1, 2, 3, 4, 5, 6, 7], [0, 1, 2, 3, 4, 5, 6, 7, 8]] 10 rfl rfl ?_
      refine xa_pure (v := (Sl.v out3)) 0 (by decide +kernel) rfl rfl (wanted_none rfl _) (p_move rfl rfl) ?_
      obtain ⟨p_15, hpp_15, H⟩ := H
      refine xa_pure (v := (.pointer (some (p_15.add 1)))) 1 (by decide +kernel) rfl rfl (wanted_none rfl _) (p_fieldAddr (off := 1) (ft := 9) (size := 1) rfl Try.underlying67 rfl Try.ti9 (by decide) rfl hpp_15) ?_
      obtain ⟨adv_16, v_16, hev_16, hcv_16, H⟩ := H
      refine xa_read (v := (.string v_16)) (S := (fun w => w.cell? adv_16 = some (.string v_16))) 2 (by decide +kernel) rfl rfl (wanted_none rfl _) (fun w hc => rd_load (ad := adv_16) rfl Try.underlying9 rfl (by show Value.pointer _ = _; rw [hev_16]) hc) hcv_16 ?_
      obtain ⟨p_17, hpp_17, H⟩ := H
      refine xa_pure (v := (.pointer (some (p_17.add 2)))) 5 (by decide +kernel) rfl rfl (wanted_none rfl _) (p_fieldAddr (off := 2) (ft := 9) (size := 1) rfl Try.underlying67 rfl Try.ti9 (by decide) rfl hpp_17) ?_
      obtain ⟨adv_18, v_18, hev_18, hcv_18, H⟩ := H
      refine xa_read (v := (.string v_18)) (S := (fun w => w.cell? adv_18 = some (.string v_18))) 6 (by decide +kernel) rfl rfl (wanted_none rfl _) (fun w hc => rd_load (ad := adv_18) rfl Try.underlying9 rfl (by show Value.pointer _ = _; rw [hev_18]) hc) hcv_18 ?_
      refine xa_two (i := 3) (j := 7) (by decide +kernel) ?_ ?_
      · replace H := H.1
        refine xone_eff 3 [(6, (fun w => w.cell? adv_18 = some (.string v_18)))] rfl rfl rfl (wanted_none rfl _) (e_gen (s := convert 9 39 (.string v_16)) (enc := Sl.v) rfl H) ?_
        rintro _ w_5 ⟨v_19, rfl, H⟩
        obtain ⟨hk3_6, H⟩ := H
        refine ⟨(.cons hk3_6 AllHeld.nil), ?_⟩
        refine xa_two (i := 4) (j := 7) (by decide +kernel) ?_ ?_
        · replace H := H.1
          refine xone_eff 4 [(6, (fun w => w.cell? adv_18 = some (.string v_18)))] rfl rfl rfl (wanted_none rfl _) (e_call (fn := Try.f126) H rfl rfl Try.func126 rfl rfl rfl) ?_
          rintro _ w_6 ⟨v_21, rfl, H⟩
          obtain ⟨hk4_6, H⟩ := H
          refine ⟨(.cons hk4_6 AllHeld.nil), ?_⟩
          refine xa_eff 7 [] (by decide +kernel) rfl rfl rfl (wanted_none rfl _) (e_gen (s := convert 9 39 (.string v_18)) (enc := Sl.v) rfl H) ?_
          rintro _ w_7 ⟨v_22, rfl, H⟩
          refine ⟨AllHeld.nil, ?_⟩
          refine xa_eff 8 [] (by decide +kernel) rfl rfl rfl (wanted_none rfl _) (e_call (fn := Try.f126) H rfl rfl Try.func126 rfl rfl rfl) ?_
          rintro _ w_8 ⟨v_24, rfl, H⟩
          refine ⟨AllHeld.nil, ?_⟩
          refine xa_pure (v := (Sl.v v_24)) 9 (by decide +kernel) rfl rfl (wanted_none rfl _) (p_assign rfl rfl) ?_
          refine xa_end (by decide +kernel) ?_
          refine r_upd (i := 1) (v := (.pointer o1)) rfl ?_
          refine r_upd (i := 3) (v := (Sl.v v_24)) rfl ?_
          exact J3 (o1, v_24) _ _ H
        · replace H := H.2
          refine xone_eff 7 [] rfl rfl rfl (wanted_none rfl _) (e_gen (s := convert 9 39 (.string v_18)) (enc := Sl.v) rfl H) ?_
          rintro _ w_9 ⟨v_25, rfl, H⟩
          refine ⟨AllHeld.nil, ?_⟩
          refine xa_eff 4 [] (by decide +kernel) rfl rfl rfl (wanted_none rfl _) (e_call (fn := Try.f126) H rfl rfl Try.func126 rfl rfl rfl) ?_
          rintro _ w_10 ⟨v_27, rfl, H⟩
          refine ⟨AllHeld.nil, ?_⟩
          refine xa_eff 8 [] (by decide +kernel) rfl rfl rfl (wanted_none rfl _) (e_call (fn := Try.f126) H rfl rfl Try.func126 rfl rfl rfl) ?_
          rintro _ w_11 ⟨v_29, rfl, H⟩
          refine ⟨AllHeld.nil, ?_⟩
          refine xa_pure (v := (Sl.v v_29)) 9 (by decide +kernel) rfl rfl (wanted_none rfl _) (p_assign rfl rfl) ?_
          refine xa_end (by decide +kernel) ?_
          refine r_upd (i := 1) (v := (.pointer o1)) rfl ?_
          refine r_upd (i := 3) (v := (Sl.v v_29)) rfl ?_
          exact J3 (o1, v_29) _ _ H
      · replace H := H.2
        refine xone_eff 7 [(2, (fun w => w.cell? adv_16 = some (.string v_16)))] rfl rfl rfl (wanted_none rfl _) (e_gen (s := convert 9 39 (.string v_18)) (enc := Sl.v) rfl H) ?_
        rintro _ w_12 ⟨v_30, rfl, H⟩
        obtain ⟨hk7_2, H⟩ := H
        refine ⟨(.cons hk7_2 AllHeld.nil), ?_⟩
        refine xa_eff 3 [] (by decide +kernel) rfl rfl rfl (wanted_none rfl _) (e_gen (s := convert 9 39 (.string v_16)) (enc := Sl.v) rfl H) ?_
        rintro _ w_13 ⟨v_31, rfl, H⟩
        refine ⟨AllHeld.nil, ?_⟩
        refine xa_eff 4 [] (by decide +kernel) rfl rfl rfl (wanted_none rfl _) (e_call (fn := Try.f126) H rfl rfl Try.func126 rfl rfl rfl) ?_
        rintro _ w_14 ⟨v_33, rfl, H⟩
        refine ⟨AllHeld.nil, ?_⟩
        refine xa_eff 8 [] (by decide +kernel) rfl rfl rfl (wanted_none rfl _) (e_call (fn := Try.f126) H rfl rfl Try.func126 rfl rfl rfl) ?_
        rintro _ w_15 ⟨v_35, rfl, H⟩
        refine ⟨AllHeld.nil, ?_⟩
        refine xa_pure (v := (Sl.v v_35)) 9 (by decide +kernel) rfl rfl (wanted_none rfl _) (p_assign rfl rfl) ?_
        refine xa_end (by decide +kernel) ?_
        refine r_upd (i := 1) (v := (.pointer o1)) rfl ?_
        refine r_upd (i := 3) (v := (Sl.v v_35)) rfl ?_
        exact J3 (o1, v_35) _ _ H

/-! 64 (*sporran/model.Model).Distinct -/
def model_Model_Distinct_b1 (R : Value → World → Prop) (ag1 : (Option Nat × Value) → World → Prop) (ag3 : (Option Nat × Value × Value) → World → Prop) (all3 : Option Nat) (t13 : Value) (t22 : Value) (w : World) : Prop :=
  Ef Try.prog (Instr.next t22 false 0) id w fun u_16 w_6 => AsNext u_16 fun vs_14 b_15 =>
  IfB b_15 (
    Ef Try.prog (Instr.entry t22) id w_6 fun u_19 w_7 => AsT2 (Value.int .i64) Value.agg u_19 fun v_17 v_18 =>
    New Try.z65 65 w_7 fun a_20 w_8 =>
    StN 48 (some a_20) v_18 w_8 fun w_9 =>
    LdN 48 (some a_20) w_9 fun v_21 =>
    EfU Try.prog (Instr.mapUpdate 230 (.map all3) (.agg v_21) (.bool true)) w_9 fun w_10 =>
    ag3 (all3, t13, t22) w_10) (
    ag1 (all3, t13) w_6)

def model_Model_Distinct_b0 (R : Value → World → Prop) (ag1 : (Option Nat × Value) → World → Prop) (all3 : Option Nat) (t13 : Value) (w : World) : Prop :=
  Ef Try.prog (Instr.next t13 false 0) id w fun u_7 w_3 => AsNext u_7 fun vs_5 b_6 =>
  IfB b_6 (
    Ef Try.prog (Instr.entry t13) id w_3 fun u_10 w_4 => AsT2 Value.string Value.pointer u_10 fun v_8 v_9 =>
    NotNil v_9 fun p_11 =>
    Ld Value.map (some (p_11.add 2)) w_4 fun v_12 =>
    Ef Try.prog (Instr.range 168 (.map v_12)) id w_4 fun v_13 w_5 =>
    Lp (fun ag (s : Option Nat × Value × Value) w => model_Model_Distinct_b1 R ag1 ag s.1 s.2.1 s.2.2 w) (all3, t13, v_13) w_5) (
    Ef Try.prog (Builtin.len_ #[230] 3 #[(.map all3)]) (Value.int .i64) w_3 fun v_22 w_11 =>
    R (.int .i64 v_22) w_11)

def model_Model_Distinct (R : Value → World → Prop) (m0 : Option Addr) (w : World) : Prop :=
  Ef Try.prog (Instr.makeMap 230 none) Value.map w fun v_1 w_1 =>
  NotNil m0 fun p_2 =>
  Ld Value.map (some (p_2.add 0)) w_1 fun v_3 =>
  Ef Try.prog (Instr.range 163 (.map v_3)) id w_1 fun v_4 w_2 =>
  Lp (fun ag (s : Option Nat × Value) w => model_Model_Distinct_b0 R ag s.1 s.2 w) (v_1, v_4) w_2

theorem model_Model_Distinct_ok (R : Value → World → Prop) (m0 : Option Addr) (w : World) (H : model_Model_Distinct R m0 w) : CallF Try.prog 64 #[(.pointer m0)] w R := by
  refine calls_of_runs (fn := Try.f64) Try.func64 rfl (Nat.le_of_ble_eq_true rfl) ?_
  show Runs _ _ 31 _ _ _ _
  unfold model_Model_Distinct at H
  refine r_upd (i := 0) (v := (.pointer m0)) rfl ?_
  refine r_seq ?_
  refine r_region ?_
  refine xo_pure (v := (.int .i64 0)) rfl (wanted_none rfl _) (p_assign rfl rfl) ?_
  refine xo_end ?_
  refine r_seq ?_
  refine r_region ?_
  refine xo_eff rfl (wanted_none rfl _) (e_gen (s := Instr.makeMap 230 none) (enc := Value.map) rfl H) ?_
  rintro _ w_1 ⟨v_1, rfl, H⟩
  refine xo_pure (v := (.map v_1)) rfl (wanted_none rfl _) (p_assign rfl rfl) ?_
  refine xo_end ?_
  refine r_seq ?_
  refine r_seq ?_
  refine r_region ?_
  refine xo_pure (v := (.pointer m0)) rfl (wanted_none rfl _) (p_move rfl rfl) ?_
  obtain ⟨p_2, hpp_2, H⟩ := H
  refine xo_pure (v := (.pointer (some p_2))) rfl (wanted_none rfl _) (p_nilCheck rfl rfl hpp_2) ?_
  refine xo_pure (v := (.pointer (some (p_2.add 0)))) rfl (wanted_none rfl _) (p_fieldAddr (off := 0) (ft := 163) (size := 1) rfl Try.underlying165 rfl Try.ti163 (by decide) rfl rfl) ?_
  obtain ⟨adv_3, v_3, hev_3, hcv_3, H⟩ := H
  refine xo_read (v := (.map v_3)) rfl (wanted_none rfl _) (rd_load (ad := adv_3) rfl Try.underlying163 rfl (by show Value.pointer _ = _; rw [hev_3]) hcv_3) ?_
  refine xo_eff rfl (wanted_none rfl _) (e_genV (s := Instr.range 163 (.map v_3)) rfl H) ?_
  intro v_4 w_2 H
  refine xo_end ?_
  refine r_block ?_
  refine r_upd (i := 3) (v := (.map v_1)) rfl ?_
  refine r_upd (i := 13) (v := v_4) rfl ?_
  refine r_loopJ (fun (s : Option Nat × Value) σ => upd 13 s.2 (upd 3 (.map s.1) (σ))) (s := (v_1, v_4)) H ?_
  clear H
  rintro ag1 ⟨all3, t13⟩ σ w H hag1
  replace H : model_Model_Distinct_b0 R ag1 all3 t13 w := H
  show Runs _ _ _ _ _ (upd 13 t13 (upd 3 (.map all3) (σ))) _
  unfold model_Model_Distinct_b0 at H
  refine r_seq ?_
  refine r_region ?_
  refine xo_eff rfl (wanted_none rfl _) (e_genV (s := Instr.next t13 false 0) rfl H) ?_
  rintro _ w_3 ⟨vs_5, b_6, rfl, hxb_6, H⟩
  refine xo_pure (v := (.bool b_6)) rfl (wanted_none rfl _) (p_extract (vs := vs_5) rfl rfl hxb_6) ?_
  refine xo_end ?_
  refine r_seq ?_
  refine r_condB (b := b_6) rfl H ?_ ?_
  · clear H; intro hb2 H
    refine r_skip ?_
    refine r_block ?_
    refine r_seq ?_
    refine r_region ?_
    refine xo_eff rfl (wanted_none rfl _) (e_genV (s := Instr.entry t13) rfl H) ?_
    rintro _ w_4 ⟨v_8, v_9, rfl, H⟩
    refine xo_pure (v := (.pointer v_9)) rfl (wanted_none rfl _) (p_extract (vs := #[(.string v_8), (.pointer v_9)]) rfl rfl rfl) ?_
    refine xo_pure (v := (.pointer v_9)) rfl (wanted_none rfl _) (p_assign rfl rfl) ?_
    refine xo_end ?_
    refine r_seq ?_
    refine r_region ?_
    refine xo_pure (v := (.pointer v_9)) rfl (wanted_none rfl _) (p_move rfl rfl) ?_
    obtain ⟨p_11, hpp_11, H⟩ := H
    refine xo_pure (v := (.pointer (some p_11))) rfl (wanted_none rfl _) (p_nilCheck rfl rfl hpp_11) ?_
    refine xo_pure (v := (.pointer (some (p_11.add 2)))) rfl (wanted_none rfl _) (p_fieldAddr (off := 2) (ft := 168) (size := 1) rfl Try.underlying170 rfl Try.ti168 (by decide) rfl rfl) ?_
    obtain ⟨adv_12, v_12, hev_12, hcv_12, H⟩ := H
    refine xo_read (v := (.map v_12)) rfl (wanted_none rfl _) (rd_load (ad := adv_12) rfl Try.underlying168 rfl (by show Value.pointer _ = _; rw [hev_12]) hcv_12) ?_
    refine xo_eff rfl (wanted_none rfl _) (e_genV (s := Instr.range 168 (.map v_12)) rfl H) ?_
    intro v_13 w_5 H
    refine xo_end ?_
    refine r_block ?_
    refine r_upd (i := 3) (v := (.map all3)) rfl ?_
    refine r_upd (i := 13) (v := t13) rfl ?_
    refine r_upd (i := 22) (v := v_13) rfl ?_
    refine r_loopJ (fun (s : Option Nat × Value × Value) σ => upd 22 s.2.2 (upd 13 s.2.1 (upd 3 (.map s.1) (σ)))) (s := (all3, t13, v_13)) H ?_
    clear H
    rintro ag3 ⟨all3, t13, t22⟩ σ w H hag3
    replace H : model_Model_Distinct_b1 R ag1 ag3 all3 t13 t22 w := H
    show Runs _ _ _ _ _ (upd 22 t22 (upd 13 t13 (upd 3 (.map all3) (σ)))) _
    unfold model_Model_Distinct_b1 at H
    refine r_seq ?_
    refine r_region ?_
    refine xo_eff rfl (wanted_none rfl _) (e_genV (s := Instr.next t22 false 0) rfl H) ?_
    rintro _ w_6 ⟨vs_14, b_15, rfl, hxb_15, H⟩
    refine xo_pure (v := (.bool b_15)) rfl (wanted_none rfl _) (p_extract (vs := vs_14) rfl rfl hxb_15) ?_
    refine xo_end ?_
    refine r_seq ?_
    refine r_condB (b := b_15) rfl H ?_ ?_
    · clear H; intro hb4 H
      refine r_skip ?_
      refine r_block ?_
      refine r_seq ?_
      refine r_region ?_
      refine xo_eff rfl (wanted_none rfl _) (e_genV (s := Instr.entry t22) rfl H) ?_
      rintro _ w_7 ⟨v_17, v_18, rfl, H⟩
      refine xo_pure (v := (.agg v_18)) rfl (wanted_none rfl _) (p_extract (vs := #[(.int .i64 v_17), (.agg v_18)]) rfl rfl rfl) ?_
      refine xo_eff rfl (wanted_none rfl _) (e_alloc rfl Try.ti65 H) ?_
      rintro _ w_8 ⟨a_20, rfl, H⟩
      refine xo_effN rfl (wanted_none rfl _) (e_storeN rfl Try.ti65 rfl rfl H) ?_
      intro _ w_9 H
      refine xo_end ?_
      refine r_region ?_
      refine xo_pure (v := (.map all3)) rfl (wanted_none rfl _) (p_move rfl rfl) ?_
      obtain ⟨adv_21, v_21, hev_21, hnv_21, hcv_21, H⟩ := H
      refine xo_read (v := (.agg v_21)) rfl (wanted_none rfl _) (rd_loadN (ad := adv_21) rfl Try.underlying65 rfl Try.ti65 (by show Value.pointer _ = _; rw [hev_21]) hnv_21 hcv_21) ?_
      refine xo_effN rfl (wanted_none rfl _) (e_genU rfl H) ?_
      intro _ w_10 H
      refine xo_end ?_
      refine r_inBlock ?_
      refine r_upd (i := 3) (v := (.map all3)) rfl ?_
      refine r_upd (i := 13) (v := t13) rfl ?_
      refine r_upd (i := 22) (v := t22) rfl ?_
      exact hag3 (all3, t13, t22) _ _ H
    · clear H; intro hb4 H
      refine r_exit rfl ?_
      refine r_inBlock ?_
      refine r_upd (i := 3) (v := (.map all3)) rfl ?_
      refine r_upd (i := 13) (v := t13) rfl ?_
      exact hag1 (all3, t13) _ _ H
  · clear H; intro hb2 H
    refine r_exit rfl ?_
    refine r_seq ?_
    refine r_region ?_
    refine xo_pure (v := (.map all3)) rfl (wanted_none rfl _) (p_move rfl rfl) ?_
    refine xo_eff rfl (wanted_none rfl _) (e_bi (b := .len) (enc := Value.int .i64) H rfl rfl rfl) ?_
    rintro _ w_11 ⟨v_22, rfl, H⟩
    refine xo_pure (v := (.int .i64 v_22)) rfl (wanted_none rfl _) (p_assign rfl rfl) ?_
    refine xo_end ?_
    exact r_ret (fn := Try.f64) Try.func64 (res_1 rfl ⟨by decide, rfl⟩) H

/-! 92 (*sporran/model.Model).add -/
def model_Model_add_k0 (R : Value → World → Prop) (m0 : Option Addr) (name1 : ByteArray) (v2 : Option Addr) (code3 : Int) (there10 : Bool) (t20 : Bool) (w : World) : Prop :=
  IfB t20 (
    R (.int .i64 1) w) (
    IfB (!decide (code3 = 0)) (
      R (.int .i64 code3) w) (
      IfB there10 (
        R (.int .i64 6) w) (
        NotNil v2 fun p_6 =>
        Ld Value.map (some (p_6.add 2)) (World.drew w) fun v_7 =>
        NotNil v2 fun p_8 =>
        LdH (Value.int .i64) (some (p_8.add 0)) (World.drew w) fun adv_9 v_9 =>
        Ef Try.prog (Builtin.len_ #[168] 3 #[(.map v_7)]) (Value.int .i64) (World.drew w) fun v_10 w_3 =>
        ((w_3).cell? adv_9 = some (.int .i64 v_9)) ∧
        IfB (decide (v_9 < v_10)) (
          R (.int .i64 8) w_3) (
          NotNil m0 fun p_11 =>
          Ld Value.map (some (p_11.add 0)) w_3 fun v_12 =>
          EfU Try.prog (Instr.mapUpdate 163 (.map v_12) (.string name1) (.pointer v2)) w_3 fun w_4 =>
          R (.int .i64 0) w_4))))

def model_Model_add (R : Value → World → Prop) (m0 : Option Addr) (name1 : ByteArray) (v2 : Option Addr) (code3 : Int) (w : World) : Prop :=
  NotNil m0 fun p_1 =>
  Ld Value.map (some (p_1.add 0)) w fun v_2 =>
  Ef Try.prog (Instr.lookup 163 (.map v_2) (.string name1) true) id w fun u_5 w_1 => AsT2 Value.pointer Value.bool u_5 fun v_3 v_4 =>
  CallF Try.prog 150 #[(.string name1)] w_1 fun u_13 w_5 => As Value.bool u_13 fun v_14 =>
  IfB (!v_14) (
    model_Model_add_k0 R m0 name1 v2 code3 v_4 true w_5) (
    NotNil v2 fun p_15 =>
    Ld (Value.int .i64) (some (p_15.add 0)) w_5 fun v_16 =>
    IfB (decide (v_16 < 0)) (
      model_Model_add_k0 R m0 name1 v2 code3 v_4 true w_5) (
      NotNil v2 fun p_17 =>
      Ld (Value.int .i64) (some (p_17.add 0)) w_5 fun v_18 =>
      model_Model_add_k0 R m0 name1 v2 code3 v_4 (decide (1048576 < v_18)) w_5))

theorem model_Model_add_ok (R : Value → World → Prop) (m0 : Option Addr) (name1 : ByteArray) (v2 : Option Addr) (code3 : Int) (w : World) (H : model_Model_add R m0 name1 v2 code3 w) : CallF Try.prog 92 #[(.pointer m0), (.string name1), (.pointer v2), (.int .i64 code3)] w R := by
  refine calls_of_runs (fn := Try.f92) Try.func92 rfl (Nat.le_of_ble_eq_true rfl) ?_
  show Runs _ _ 61 _ _ _ _
  unfold model_Model_add at H
  refine r_upd (i := 0) (v := (.pointer m0)) rfl ?_
  refine r_upd (i := 1) (v := (.string name1)) rfl ?_
  refine r_upd (i := 2) (v := (.pointer v2)) rfl ?_
  refine r_upd (i := 3) (v := (.int .i64 code3)) rfl ?_
  refine r_seq ?_
  refine r_region ?_
  refine xo_pure (v := (.int .i64 0)) rfl (wanted_none rfl _) (p_assign rfl rfl) ?_
  refine xo_end ?_
  refine r_seq ?_
  refine r_region ?_
  refine xo_pure (v := (.pointer m0)) rfl (wanted_none rfl _) (p_move rfl rfl) ?_
  obtain ⟨p_1, hpp_1, H⟩ := H
  refine xo_pure (v := (.pointer (some p_1))) rfl (wanted_none rfl _) (p_nilCheck rfl rfl hpp_1) ?_
  refine xo_pure (v := (.pointer (some (p_1.add 0)))) rfl (wanted_none rfl _) (p_fieldAddr (off := 0) (ft := 163) (size := 1) rfl Try.underlying165 rfl Try.ti163 (by decide) rfl rfl) ?_
  obtain ⟨adv_2, v_2, hev_2, hcv_2, H⟩ := H
  refine xo_read (v := (.map v_2)) rfl (wanted_none rfl _) (rd_load (ad := adv_2) rfl Try.underlying163 rfl (by show Value.pointer _ = _; rw [hev_2]) hcv_2) ?_
  refine xo_pure (v := (.string name1)) rfl (wanted_none rfl _) (p_move rfl rfl) ?_
  refine xo_eff rfl (wanted_none rfl _) (e_genV (s := Instr.lookup 163 (.map v_2) (.string name1) true) rfl H) ?_
  rintro _ w_1 ⟨v_3, v_4, rfl, H⟩
  refine xo_pure (v := (.tuple #[(.pointer v_3), (.bool v_4)])) rfl (wanted_none rfl _) (p_move rfl rfl) ?_
  refine xo_pure (v := (.pointer v_3)) rfl (wanted_none rfl _) (p_extract (vs := #[(.pointer v_3), (.bool v_4)]) rfl rfl rfl) ?_
  refine xo_pure (v := (.bool v_4)) rfl (wanted_none rfl _) (p_extract (vs := #[(.pointer v_3), (.bool v_4)]) rfl rfl rfl) ?_
  refine xo_pure (v := (.pointer v_3)) rfl (wanted_none rfl _) (p_assign rfl rfl) ?_
  refine xo_pure (v := (.bool v_4)) rfl (wanted_none rfl _) (p_assign rfl rfl) ?_
  refine xo_end ?_
  refine r_seq ?_
  refine r_block ?_
  refine r_seq ?_
  refine r_topJ (fun (s : Option Addr × ByteArray × Option Addr × Int × Bool × Bool) σ => upd 20 (.bool s.2.2.2.2.2) (upd 10 (.bool s.2.2.2.2.1) (upd 3 (.int .i64 s.2.2.2.1) (upd 2 (.pointer s.2.2.1) (upd 1 (.string s.2.1) (upd 0 (.pointer s.1) (σ))))))) (fun (s : Option Addr × ByteArray × Option Addr × Int × Bool × Bool) w => model_Model_add_k0 R s.1 s.2.1 s.2.2.1 s.2.2.2.1 s.2.2.2.2.1 s.2.2.2.2.2 w) ?_ ?_
  · rintro ⟨m0, name1, v2, code3, there10, t20⟩ σ w H
    replace H : model_Model_add_k0 R m0 name1 v2 code3 there10 t20 w := H
    show Runs _ _ _ _ _ (upd 20 (.bool t20) (upd 10 (.bool there10) (upd 3 (.int .i64 code3) (upd 2 (.pointer v2) (upd 1 (.string name1) (upd 0 (.pointer m0) (σ))))))) _
    unfold model_Model_add_k0 at H
    refine r_condB (b := t20) rfl H ?_ ?_
    · clear H; intro hb2 H
      refine r_seq ?_
      refine r_region ?_
      refine xo_pure (v := (.int .i64 1)) rfl (wanted_none rfl _) (p_assign rfl rfl) ?_
      refine xo_end ?_
      exact r_ret (fn := Try.f92) Try.func92 (res_1 rfl ⟨by decide, rfl⟩) H
    · clear H; intro hb2 H
      refine r_seq ?_
      refine r_region ?_
      refine xo_pure (v := (.int .i64 code3)) rfl (wanted_none rfl _) (p_move rfl rfl) ?_
      refine xo_pure (v := (.bool (!decide (code3 = 0)))) rfl (wanted_none rfl _) (p_ne rfl rfl rfl) ?_
      refine xo_pure (v := (.bool (!decide (code3 = 0)))) rfl (wanted_none rfl _) (p_assign rfl rfl) ?_
      refine xo_end ?_
      refine r_condB (b := (!decide (code3 = 0))) rfl H ?_ ?_
      · clear H; intro hb3 H
        refine r_seq ?_
        refine r_region ?_
        refine xo_pure (v := (.int .i64 code3)) rfl (wanted_none rfl _) (p_move rfl rfl) ?_
        refine xo_pure (v := (.int .i64 code3)) rfl (wanted_none rfl _) (p_assign rfl rfl) ?_
        refine xo_end ?_
        exact r_ret (fn := Try.f92) Try.func92 (res_1 rfl ⟨by decide, rfl⟩) H
      · clear H; intro hb3 H
        refine r_seq ?_
        refine r_region ?_
        refine xo_pure (v := (.bool there10)) rfl (wanted_none rfl _) (p_move rfl rfl) ?_
        refine xo_pure (v := (.bool there10)) rfl (wanted_none rfl _) (p_assign rfl rfl) ?_
        refine xo_end ?_
        refine r_condB (b := there10) rfl H ?_ ?_
        · clear H; intro hb4 H
          refine r_seq ?_
          refine r_region ?_
          refine xo_pure (v := (.int .i64 6)) rfl (wanted_none rfl _) (p_assign rfl rfl) ?_
          refine xo_end ?_
          exact r_ret (fn := Try.f92) Try.func92 (res_1 rfl ⟨by decide, rfl⟩) H
        · clear H; intro hb4 H
          refine r_seq ?_
          refine r_draw #[[], [0], [0, 1], [0, 1, 2], [0, 1, 2, 3], [], [5], [5, 6], [5, 6, 7], [0, 1, 2, 3, 4, 5, 6, 7, 8], [0, 1, 2, 3, 4, 5, 6, 7, 8, 9]] 11 rfl rfl ?_
          refine xa_pure (v := (.pointer v2)) 0 (by decide +kernel) rfl rfl (wanted_none rfl _) (p_move rfl rfl) ?_
          obtain ⟨p_6, hpp_6, H⟩ := H
          refine xa_pure (v := (.pointer (some p_6))) 1 (by decide +kernel) rfl rfl (wanted_none rfl _) (p_nilCheck rfl rfl hpp_6) ?_
          refine xa_pure (v := (.pointer (some (p_6.add 2)))) 2 (by decide +kernel) rfl rfl (wanted_none rfl _) (p_fieldAddr (off := 2) (ft := 168) (size := 1) rfl Try.underlying170 rfl Try.ti168 (by decide) rfl rfl) ?_
          obtain ⟨adv_7, v_7, hev_7, hcv_7, H⟩ := H
          refine xa_read (v := (.map v_7)) (S := (fun w => w.cell? adv_7 = some (.map v_7))) 3 (by decide +kernel) rfl rfl (wanted_none rfl _) (fun w hc => rd_load (ad := adv_7) rfl Try.underlying168 rfl (by show Value.pointer _ = _; rw [hev_7]) hc) hcv_7 ?_
          refine xa_pure (v := (.pointer v2)) 5 (by decide +kernel) rfl rfl (wanted_none rfl _) (p_move rfl rfl) ?_
          obtain ⟨p_8, hpp_8, H⟩ := H
          refine xa_pure (v := (.pointer (some p_8))) 6 (by decide +kernel) rfl rfl (wanted_none rfl _) (p_nilCheck rfl rfl hpp_8) ?_
          refine xa_pure (v := (.pointer (some (p_8.add 0)))) 7 (by decide +kernel) rfl rfl (wanted_none rfl _) (p_fieldAddr (off := 0) (ft := 3) (size := 1) rfl Try.underlying170 rfl Try.ti3 (by decide) rfl rfl) ?_
          obtain ⟨adv_9, v_9, hev_9, hcv_9, H⟩ := H
          refine xa_read (v := (.int .i64 v_9)) (S := (fun w => w.cell? adv_9 = some (.int .i64 v_9))) 8 (by decide +kernel) rfl rfl (wanted_none rfl _) (fun w hc => rd_load (ad := adv_9) rfl Try.underlying3 rfl (by show Value.pointer _ = _; rw [hev_9]) hc) hcv_9 ?_
          refine xa_eff 4 [(8, (fun w => w.cell? adv_9 = some (.int .i64 v_9)))] (by decide +kernel) rfl rfl rfl (wanted_none rfl _) (e_bi (b := .len) (enc := Value.int .i64) H rfl rfl rfl) ?_
          rintro _ w_3 ⟨v_10, rfl, H⟩
          obtain ⟨hk4_8, H⟩ := H
          refine ⟨(.cons hk4_8 AllHeld.nil), ?_⟩
          refine xa_pure (v := (.bool (decide (v_9 < v_10)))) 9 (by decide +kernel) rfl rfl (wanted_none rfl _) (p_gt rfl rfl rfl) ?_
          refine xa_pure (v := (.bool (decide (v_9 < v_10)))) 10 (by decide +kernel) rfl rfl (wanted_none rfl _) (p_assign rfl rfl) ?_
          refine xa_end (by decide +kernel) ?_
          refine r_condB (b := (decide (v_9 < v_10))) rfl H ?_ ?_
          · clear H; intro hb5 H
            refine r_seq ?_
            refine r_region ?_
            refine xo_pure (v := (.int .i64 8)) rfl (wanted_none rfl _) (p_assign rfl rfl) ?_
            refine xo_end ?_
            exact r_ret (fn := Try.f92) Try.func92 (res_1 rfl ⟨by decide, rfl⟩) H
          · clear H; intro hb5 H
            refine r_skip ?_
            refine r_inBlock ?_
            refine r_seq ?_
            refine r_region ?_
            refine xo_pure (v := (.pointer m0)) rfl (wanted_none rfl _) (p_move rfl rfl) ?_
            obtain ⟨p_11, hpp_11, H⟩ := H
            refine xo_pure (v := (.pointer (some p_11))) rfl (wanted_none rfl _) (p_nilCheck rfl rfl hpp_11) ?_
            refine xo_pure (v := (.pointer (some (p_11.add 0)))) rfl (wanted_none rfl _) (p_fieldAddr (off := 0) (ft := 163) (size := 1) rfl Try.underlying165 rfl Try.ti163 (by decide) rfl rfl) ?_
            obtain ⟨adv_12, v_12, hev_12, hcv_12, H⟩ := H
            refine xo_read (v := (.map v_12)) rfl (wanted_none rfl _) (rd_load (ad := adv_12) rfl Try.underlying163 rfl (by show Value.pointer _ = _; rw [hev_12]) hcv_12) ?_
            refine xo_pure (v := (.string name1)) rfl (wanted_none rfl _) (p_move rfl rfl) ?_
            refine xo_pure (v := (.pointer v2)) rfl (wanted_none rfl _) (p_move rfl rfl) ?_
            refine xo_effN rfl (wanted_none rfl _) (e_genU rfl H) ?_
            intro _ w_4 H
            refine xo_end ?_
            refine r_seq ?_
            refine r_region ?_
            refine xo_pure (v := (.int .i64 0)) rfl (wanted_none rfl _) (p_assign rfl rfl) ?_
            refine xo_end ?_
            exact r_ret (fn := Try.f92) Try.func92 (res_1 rfl ⟨by decide, rfl⟩) H
  · intro J1
    refine r_region ?_
    refine xo_pure (v := (.string name1)) rfl (wanted_none rfl _) (p_move rfl rfl) ?_
    refine xo_eff rfl (wanted_none rfl _) (e_call (fn := Try.f150) H rfl rfl Try.func150 rfl rfl rfl) ?_
    rintro _ w_5 ⟨v_14, rfl, H⟩
    refine xo_pure (v := (.bool (!v_14))) rfl (wanted_none rfl _) (p_not rfl rfl) ?_
    refine xo_pure (v := (.bool (!v_14))) rfl (wanted_none rfl _) (p_move rfl rfl) ?_
    refine ifB_cases H ?_ ?_
    · clear H; intro hb6 H
      refine xo_skip rfl (wanted_no (d := 24) rfl rfl (by decide) rfl hb6) ?_
      refine xo_skip rfl (wanted_no (d := 24) rfl rfl (by decide) rfl hb6) ?_
      refine xo_skip rfl (wanted_no (d := 24) rfl rfl (by decide) rfl hb6) ?_
      refine xo_skip rfl (wanted_no (d := 24) rfl rfl (by decide) rfl hb6) ?_
      refine xo_skip rfl (wanted_no (d := 24) rfl rfl (by decide) rfl hb6) ?_
      refine xo_pure (v := (.bool true)) rfl (wanted_none rfl _) (p_pickT rfl rfl hb6 rfl) ?_
      refine xo_pure (v := (.bool true)) rfl (wanted_none rfl _) (p_move rfl rfl) ?_
      refine xo_skip rfl (wanted_no (d := 31) rfl rfl (by decide) rfl rfl) ?_
      refine xo_skip rfl (wanted_no (d := 31) rfl rfl (by decide) rfl rfl) ?_
      refine xo_skip rfl (wanted_no (d := 31) rfl rfl (by decide) rfl rfl) ?_
      refine xo_skip rfl (wanted_no (d := 31) rfl rfl (by decide) rfl rfl) ?_
      refine xo_skip rfl (wanted_no (d := 31) rfl rfl (by decide) rfl rfl) ?_
      refine xo_pure (v := (.bool true)) rfl (wanted_none rfl _) (p_pickT rfl rfl rfl rfl) ?_
      refine xo_pure (v := (.bool true)) rfl (wanted_none rfl _) (p_assign rfl rfl) ?_
      refine xo_end ?_
      refine r_upd (i := 0) (v := (.pointer m0)) rfl ?_
      refine r_upd (i := 1) (v := (.string name1)) rfl ?_
      refine r_upd (i := 2) (v := (.pointer v2)) rfl ?_
      refine r_upd (i := 3) (v := (.int .i64 code3)) rfl ?_
      refine r_upd (i := 10) (v := (.bool v_4)) rfl ?_
      refine r_upd (i := 20) (v := (.bool true)) rfl ?_
      exact J1 (m0, name1, v2, code3, v_4, true) _ _ H
    · clear H; intro hb6 H
      refine xo_pure (v := (.pointer v2)) rfl (wanted_yes (d := 24) rfl rfl (by decide) rfl hb6) (p_move rfl rfl) ?_
      obtain ⟨p_15, hpp_15, H⟩ := H
      refine xo_pure (v := (.pointer (some p_15))) rfl (wanted_yes (d := 24) rfl rfl (by decide) rfl hb6) (p_nilCheck rfl rfl hpp_15) ?_
      refine xo_pure (v := (.pointer (some (p_15.add 0)))) rfl (wanted_yes (d := 24) rfl rfl (by decide) rfl hb6) (p_fieldAddr (off := 0) (ft := 3) (size := 1) rfl Try.underlying170 rfl Try.ti3 (by decide) rfl rfl) ?_
      obtain ⟨adv_16, v_16, hev_16, hcv_16, H⟩ := H
      refine xo_read (v := (.int .i64 v_16)) rfl (wanted_yes (d := 24) rfl rfl (by decide) rfl hb6) (rd_load (ad := adv_16) rfl Try.underlying3 rfl (by show Value.pointer _ = _; rw [hev_16]) hcv_16) ?_
      refine xo_pure (v := (.bool (decide (v_16 < 0)))) rfl (wanted_yes (d := 24) rfl rfl (by decide) rfl hb6) (p_lt rfl rfl rfl) ?_
      refine xo_pure (v := (.bool (decide (v_16 < 0)))) rfl (wanted_none rfl _) (p_pickF rfl rfl hb6 rfl) ?_
      refine xo_pure (v := (.bool (decide (v_16 < 0)))) rfl (wanted_none rfl _) (p_move rfl rfl) ?_
      refine ifB_cases H ?_ ?_
      · clear H; intro hb7 H
        refine xo_skip rfl (wanted_no (d := 31) rfl rfl (by decide) rfl hb7) ?_
        refine xo_skip rfl (wanted_no (d := 31) rfl rfl (by decide) rfl hb7) ?_
        refine xo_skip rfl (wanted_no (d := 31) rfl rfl (by decide) rfl hb7) ?_
        refine xo_skip rfl (wanted_no (d := 31) rfl rfl (by decide) rfl hb7) ?_
        refine xo_skip rfl (wanted_no (d := 31) rfl rfl (by decide) rfl hb7) ?_
        refine xo_pure (v := (.bool true)) rfl (wanted_none rfl _) (p_pickT rfl rfl hb7 rfl) ?_
        refine xo_pure (v := (.bool true)) rfl (wanted_none rfl _) (p_assign rfl rfl) ?_
        refine xo_end ?_
        refine r_upd (i := 0) (v := (.pointer m0)) rfl ?_
        refine r_upd (i := 1) (v := (.string name1)) rfl ?_
        refine r_upd (i := 2) (v := (.pointer v2)) rfl ?_
        refine r_upd (i := 3) (v := (.int .i64 code3)) rfl ?_
        refine r_upd (i := 10) (v := (.bool v_4)) rfl ?_
        refine r_upd (i := 20) (v := (.bool true)) rfl ?_
        exact J1 (m0, name1, v2, code3, v_4, true) _ _ H
      · clear H; intro hb7 H
        refine xo_pure (v := (.pointer v2)) rfl (wanted_yes (d := 31) rfl rfl (by decide) rfl hb7) (p_move rfl rfl) ?_
        obtain ⟨p_17, hpp_17, H⟩ := H
        refine xo_pure (v := (.pointer (some p_17))) rfl (wanted_yes (d := 31) rfl rfl (by decide) rfl hb7) (p_nilCheck rfl rfl hpp_17) ?_
        refine xo_pure (v := (.pointer (some (p_17.add 0)))) rfl (wanted_yes (d := 31) rfl rfl (by decide) rfl hb7) (p_fieldAddr (off := 0) (ft := 3) (size := 1) rfl Try.underlying170 rfl Try.ti3 (by decide) rfl rfl) ?_
        obtain ⟨adv_18, v_18, hev_18, hcv_18, H⟩ := H
        refine xo_read (v := (.int .i64 v_18)) rfl (wanted_yes (d := 31) rfl rfl (by decide) rfl hb7) (rd_load (ad := adv_18) rfl Try.underlying3 rfl (by show Value.pointer _ = _; rw [hev_18]) hcv_18) ?_
        refine xo_pure (v := (.bool (decide (1048576 < v_18)))) rfl (wanted_yes (d := 31) rfl rfl (by decide) rfl hb7) (p_gt rfl rfl rfl) ?_
        refine xo_pure (v := (.bool (decide (1048576 < v_18)))) rfl (wanted_none rfl _) (p_pickF rfl rfl hb7 rfl) ?_
        refine xo_pure (v := (.bool (decide (1048576 < v_18)))) rfl (wanted_none rfl _) (p_assign rfl rfl) ?_
        refine xo_end ?_
        refine r_upd (i := 0) (v := (.pointer m0)) rfl ?_
        refine r_upd (i := 1) (v := (.string name1)) rfl ?_
        refine r_upd (i := 2) (v := (.pointer v2)) rfl ?_
        refine r_upd (i := 3) (v := (.int .i64 code3)) rfl ?_
        refine r_upd (i := 10) (v := (.bool v_4)) rfl ?_
        refine r_upd (i := 20) (v := (.bool (decide (1048576 < v_18)))) rfl ?_
        exact J1 (m0, name1, v2, code3, v_4, (decide (1048576 < v_18))) _ _ H
end Go.Proofs
