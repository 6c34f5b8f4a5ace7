/- Laid by program. -/
import Derived.Test.YtnjilbgcflbghaaXFT
set_option linter.all false
set_option linter.unusedVariables false
set_option linter.unusedSimpArgs false
set_option maxRecDepth 20000
set_option maxHeartbeats 4000000
namespace Go.Proofs
open Go Go.X
/-! 6 sporran/sporranlaw15.ModelTrims -/
def sporranlaw15_ModelTrims_k2 (R : Value → World → Prop) (ag4 : (Option Addr × Option Addr × Sl × Int × Int) → World → Prop) (o3 : Option Addr) (m5 : Option Addr) (read8 : Option Addr) (t55 : Bool) (w : World) : Prop :=
 IfB t55 (
  R (.bool false) w) (
  NotNil o3 fun p_23 =>
  St (some (p_23.add 0)) (.int .i64 3) w fun w_15 =>
  LdN 53 o3 w_15 fun v_24 =>
  CallF Try.prog 37 #[(.pointer m5), (.agg v_24)] w_15 fun u_25 w_16 => As Value.agg u_25 fun v_26 =>
  New Try.z73 73 w_16 fun a_27 w_17 =>
  StN 51 (some a_27) v_26 w_17 fun w_18 =>
  LdN 53 read8 w_18 fun v_28 =>
  CallF Try.prog 37 #[(.pointer m5), (.agg v_28)] w_18 fun u_29 w_19 => As Value.agg u_29 fun v_30 =>
  New Try.z73 73 w_19 fun a_31 w_20 =>
  StN 51 (some a_31) v_30 w_20 fun w_21 =>
  Ld (Value.int .i64) (some (a_27.add 0)) w_21 fun v_32 =>
  IfB (decide (v_32 = 8)) (
   Ld Value.bool (some (a_31.add 1)) w_21 fun v_33 =>
   IfB (!v_33) (
    R (.bool true) w_21) (
    Ld (Value.int .i64) (some (a_27.add 0)) w_21 fun v_34 =>
    IfB (decide (v_34 = 0)) (
     Ld Value.bool (some (a_31.add 1)) w_21 fun v_35 =>
     IfB v_35 (
      LdN 48 (some (a_31.add 2)) w_21 fun v_36 =>
      NotNil o3 fun p_37 =>
      LdN 48 (some (p_37.add 5)) w_21 fun v_38 =>
      AggEq Try.prog 65 v_36 v_38 fun b_39 =>
      R (.bool b_39) w_21) (
      R (.bool false) w_21)) (
     R (.bool false) w_21))) (
   Ld (Value.int .i64) (some (a_27.add 0)) w_21 fun v_40 =>
   IfB (decide (v_40 = 0)) (
    Ld Value.bool (some (a_31.add 1)) w_21 fun v_41 =>
    IfB v_41 (
     LdN 48 (some (a_31.add 2)) w_21 fun v_42 =>
     NotNil o3 fun p_43 =>
     LdN 48 (some (p_43.add 5)) w_21 fun v_44 =>
     AggEq Try.prog 65 v_42 v_44 fun b_45 =>
     R (.bool b_45) w_21) (
     R (.bool false) w_21)) (
    R (.bool false) w_21)))
def sporranlaw15_ModelTrims_b1 (R : Value → World → Prop) (ag4 : (Option Addr × Option Addr × Sl × Int × Int) → World → Prop) (o3 : Option Addr) (m5 : Option Addr) (t22 : Sl) (t23 : Int) (t24 : Int) (w : World) : Prop :=
 IfB (decide (t24 < t23)) (
  Ix t22 t24 fun p_6 =>
  LdN 53 (some (p_6.add (t24.toNat * 53))) w fun v_7 =>
  New Try.z67 67 w fun a_8 w_4 =>
  StN 53 (some a_8) v_7 w_4 fun w_5 =>
  LdN 53 (some a_8) w_5 fun v_9 =>
  CallF Try.prog 37 #[(.pointer m5), (.agg v_9)] w_5 fun u_10 w_6 => As Value.agg u_10 fun v_11 =>
  ag4 (o3, m5, t22, t23, (IntKind.i64.wrap (t24 + 1))) w_6) (
  NotNil o3 fun p_12 =>
  St (some (p_12.add 0)) (.int .i64 4) w fun w_7 =>
  LdN 53 o3 w_7 fun v_13 =>
  CallF Try.prog 37 #[(.pointer m5), (.agg v_13)] w_7 fun u_14 w_8 => As Value.agg u_14 fun v_15 =>
  At (Value.int .i64) v_15 0 fun f_16 =>
  IfB (!decide (f_16 = 0)) (
   R (.bool true) w_8) (
   LdN 53 o3 w_8 fun v_17 =>
   New Try.z67 67 w_8 fun a_18 w_9 =>
   StN 53 (some a_18) v_17 w_9 fun w_10 =>
   St (some (a_18.add 0)) (.int .i64 5) w_10 fun w_11 =>
   LdN 53 (some a_18) w_11 fun v_19 =>
   CallF Try.prog 37 #[(.pointer m5), (.agg v_19)] w_11 fun u_20 w_12 => As Value.agg u_20 fun v_21 =>
   New Try.z73 73 w_12 fun a_22 w_13 =>
   StN 51 (some a_22) v_21 w_13 fun w_14 =>
   Ld (Value.int .i64) (some (a_22.add 0)) w_14 fun v_46 =>
   IfB (!decide (v_46 = 0)) (
    sporranlaw15_ModelTrims_k2 R ag4 o3 m5 (some a_18) true w_14) (
    Ld Value.bool (some (a_22.add 1)) w_14 fun v_47 =>
    IfB v_47 (
     sporranlaw15_ModelTrims_k2 R ag4 o3 m5 (some a_18) true w_14) (
     LdN 48 (some (a_22.add 2)) w_14 fun v_48 =>
     BuiltA 1 Try.z65 [] fun c_49 =>
     AggEq Try.prog 65 v_48 c_49 fun b_50 =>
     sporranlaw15_ModelTrims_k2 R ag4 o3 m5 (some a_18) (!b_50) w_14))))
def sporranlaw15_ModelTrims_k0 (R : Value → World → Prop) (ops0 : Sl) (o3 : Option Addr) (t20 : Bool) (w : World) : Prop :=
 IfB t20 (
  R (.bool true) w) (
  CallF Try.prog 36 #[] w fun u_4 w_3 => As Value.pointer u_4 fun v_5 =>
  Lp (fun ag (s : Option Addr × Option Addr × Sl × Int × Int) w => sporranlaw15_ModelTrims_b1 R ag s.1 s.2.1 s.2.2.1 s.2.2.2.1 s.2.2.2.2 w) (o3, v_5, ops0, (ops0.len : Int), 0) w_3)
def sporranlaw15_ModelTrims (R : Value → World → Prop) (ops0 : Sl) (o1 : Array Value) (w : World) : Prop :=
 New o1 67 w fun a_1 w_1 =>
 CallF Try.prog 34 #[] w_1 fun u_2 w_2 => As Value.bool u_2 fun v_3 =>
 IfB (!v_3) (
  R (.bool false) w_2) (
  CallF Try.prog 35 #[(Sl.v ops0)] w_2 fun u_51 w_22 => As Value.bool u_51 fun v_52 =>
  IfB v_52 (
   sporranlaw15_ModelTrims_k0 R ops0 (some a_1) true w_22) (
   LdN 53 (some a_1) w_22 fun v_53 =>
   v_53.size = 53 ∧ (
   New v_53 67 w_22 fun a_54 w_23 =>
   CallF Try.prog 35 #[(Sl.v ⟨some a_54, 1, 1⟩)] w_23 fun u_56 w_24 => As Value.bool u_56 fun v_57 =>
   sporranlaw15_ModelTrims_k0 R ops0 (some a_1) v_57 w_24)))
theorem sporranlaw15_ModelTrims_ok (R : Value → World → Prop) (ops0 : Sl) (o1 : Array Value) (w : World) (H : sporranlaw15_ModelTrims R ops0 o1 w) : CallF Try.prog 6 #[(Sl.v ops0), (.agg o1)] w R := by
 refine calls_of_runs (fn := Try.f6) Try.func6 rfl (Nat.le_of_ble_eq_true rfl) ?_
 show Runs _ _ 87 _ _ _ _
 unfold sporranlaw15_ModelTrims at H
 refine ru 0 (Sl.v ops0) rfl ?_
 refine ru 1 (.agg o1) rfl ?_
 refine r_seq ?_
 refine r_region ?_
 refine xo_eff rfl (wo rfl) (e_box (v := (.agg o1)) rfl rfl H) ?_
 rintro _ w_1 ⟨a_1, rfl, H⟩
 refine xs (.bool false) rfl rfl rfl rfl ?_
 refine xo_end ?_
 refine r_seq ?_
 refine r_seq ?_
 refine r_region ?_
 refine xo_eff rfl (wo rfl) (e_call (fn := Try.f34) H rfl rfl Try.func34 rfl rfl rfl) ?_
 rintro _ w_2 ⟨v_3, rfl, H⟩
 refine xp (.bool (!v_3)) rfl rfl (p_not rfl rfl) ?_
 refine xo_end ?_
 refine r_condB (b := (!v_3)) rfl H ?_ ?_
 ·clear H; intro hb1 H
  refine r_seq ?_
  refine r_region ?_
  refine xs (.bool false) rfl rfl rfl rfl ?_
  refine xo_end ?_
  exact r_ret (fn := Try.f6) Try.func6 (res_1 rfl ⟨by decide, rfl⟩) H
 ·clear H; intro hb1 H
  refine r_skip ?_
  refine r_seq ?_
  refine r_seq ?_
  refine r_topJ (fun (s : Sl × Option Addr × Bool) σ => upd 20 (.bool s.2.2) (upd 3 (.pointer s.2.1) (upd 0 (Sl.v s.1) (σ)))) (fun (s : Sl × Option Addr × Bool) w => sporranlaw15_ModelTrims_k0 R s.1 s.2.1 s.2.2 w) ?_ ?_
  ·rintro ⟨ops0, o3, t20⟩ σ w H
   replace H : sporranlaw15_ModelTrims_k0 R ops0 o3 t20 w := H
   show Runs _ _ _ _ _ (upd 20 (.bool t20) (upd 3 (.pointer o3) (upd 0 (Sl.v ops0) (σ)))) _
   unfold sporranlaw15_ModelTrims_k0 at H
   refine r_condB (b := t20) rfl H ?_ ?_
   ·clear H; intro hb3 H
    refine r_seq ?_
    refine r_region ?_
    refine xs (.bool true) rfl rfl rfl rfl ?_
    refine xo_end ?_
    exact r_ret (fn := Try.f6) Try.func6 (res_1 rfl ⟨by decide, rfl⟩) H
   ·clear H; intro hb3 H
    refine r_skip ?_
    refine r_seq ?_
    refine r_region ?_
    refine xo_eff rfl (wo rfl) (e_call (fn := Try.f36) H rfl rfl Try.func36 rfl rfl rfl) ?_
    rintro _ w_3 ⟨v_5, rfl, H⟩
    refine xs (.pointer v_5) rfl rfl rfl rfl ?_
    refine xo_end ?_
    refine r_seq ?_
    refine r_seq ?_
    refine r_region ?_
    refine xm (Sl.v ops0) rfl rfl rfl rfl ?_
    refine xp (.int .i64 (ops0.len : Int)) rfl rfl (p_len rfl Try.underlying63 rfl) ?_
    refine xm (.int .i64 0) rfl rfl rfl rfl ?_
    refine xo_end ?_
    refine r_block ?_
    refine ru 3 (.pointer o3) rfl ?_
    refine ru 5 (.pointer v_5) rfl ?_
    refine ru 22 (Sl.v ops0) rfl ?_
    refine ru 23 (.int .i64 (ops0.len : Int)) rfl ?_
    refine ru 24 (.int .i64 0) rfl ?_
    refine r_loopJ (fun (s : Option Addr × Option Addr × Sl × Int × Int) σ => upd 24 (.int .i64 s.2.2.2.2) (upd 23 (.int .i64 s.2.2.2.1) (upd 22 (Sl.v s.2.2.1) (upd 5 (.pointer s.2.1) (upd 3 (.pointer s.1) (σ)))))) (s := (o3, v_5, ops0, (ops0.len : Int), 0)) H ?_
    clear H
    rintro ag4 ⟨o3, m5, t22, t23, t24⟩ σ w H hag4
    replace H : sporranlaw15_ModelTrims_b1 R ag4 o3 m5 t22 t23 t24 w := H
    show Runs _ _ _ _ _ (upd 24 (.int .i64 t24) (upd 23 (.int .i64 t23) (upd 22 (Sl.v t22) (upd 5 (.pointer m5) (upd 3 (.pointer o3) (σ)))))) _
    unfold sporranlaw15_ModelTrims_b1 at H
    refine r_seq ?_
    refine r_region ?_
    refine xp _ rfl rfl (p_lt rfl rfl rfl) ?_
    refine xo_end ?_
    refine r_seq ?_
    refine r_condB (b := (decide (t24 < t23))) rfl H ?_ ?_
    ·clear H; intro hb5 H
     refine r_skip ?_
     refine r_seq ?_
     refine r_block ?_
     refine r_seq ?_
     refine r_region ?_
     obtain ⟨p_6, hap_6, hlp_6, hup_6, H⟩ := H
     refine xp _ rfl rfl (p_indexAddr (s := t22) (ad := p_6) (size := 53) rfl Try.underlying63 Try.ti67 rfl rfl hap_6 hlp_6 hup_6) ?_
     obtain ⟨adv_7, v_7, hev_7, hnv_7, hcv_7, H⟩ := H
     refine xo_read (v := (.agg v_7)) rfl (wo rfl) (rd_loadN (ad := adv_7) rfl Try.underlying67 rfl Try.ti67 (by show Value.pointer _ = _; rw [hev_7]) hnv_7 hcv_7) ?_
     refine xo_eff rfl (wo rfl) (e_alloc rfl Try.ti67 H) ?_
     rintro _ w_4 ⟨a_8, rfl, H⟩
     refine xo_effN rfl (wo rfl) (e_storeN rfl Try.ti67 rfl rfl H) ?_
     intro _ w_5 H
     refine xo_end ?_
     refine r_region ?_
     refine xm (.pointer m5) rfl rfl rfl rfl ?_
     obtain ⟨adv_9, v_9, hev_9, hnv_9, hcv_9, H⟩ := H
     refine xo_read (v := (.agg v_9)) rfl (wo rfl) (rd_loadN (ad := adv_9) rfl Try.underlying67 rfl Try.ti67 (by show Value.pointer _ = _; rw [hev_9]) hnv_9 hcv_9) ?_
     refine xo_eff rfl (wo rfl) (e_call (fn := Try.f37) H rfl rfl Try.func37 rfl rfl rfl) ?_
     rintro _ w_6 ⟨v_11, rfl, H⟩
     refine xo_end ?_
     refine r_inBlock ?_
     refine r_region ?_
     refine xp _ rfl rfl (p_add rfl rfl rfl) ?_
     refine xm (.int .i64 (IntKind.i64.wrap (t24 + 1))) rfl rfl rfl rfl ?_
     refine xo_end ?_
     refine ru 3 (.pointer o3) rfl ?_
     refine ru 5 (.pointer m5) rfl ?_
     refine ru 22 (Sl.v t22) rfl ?_
     refine ru 23 (.int .i64 t23) rfl ?_
     refine ru 24 (.int .i64 (IntKind.i64.wrap (t24 + 1))) rfl ?_
     exact hag4 (o3, m5, t22, t23, (IntKind.i64.wrap (t24 + 1))) _ _ H
    ·clear H; intro hb5 H
     refine r_exit rfl ?_
     refine r_seq ?_
     refine r_region ?_
     obtain ⟨p_12, hpp_12, H⟩ := H
     refine xp _ rfl rfl (p_fieldAddr (off := 0) (ft := 3) (size := 1) rfl Try.underlying67 rfl Try.ti3 (by decide) rfl hpp_12) ?_
     refine xo_effN rfl (wo rfl) (e_store rfl Try.ti3 rfl rfl rfl H) ?_
     intro _ w_7 H
     refine xo_end ?_
     refine r_seq ?_
     refine r_seq ?_
     refine r_region ?_
     refine xm (.pointer m5) rfl rfl rfl rfl ?_
     obtain ⟨adv_13, v_13, hev_13, hnv_13, hcv_13, H⟩ := H
     refine xo_read (v := (.agg v_13)) rfl (wo rfl) (rd_loadN (ad := adv_13) rfl Try.underlying67 rfl Try.ti67 (by show Value.pointer _ = _; rw [hev_13]) hnv_13 hcv_13) ?_
     refine xo_eff rfl (wo rfl) (e_call (fn := Try.f37) H rfl rfl Try.func37 rfl rfl rfl) ?_
     rintro _ w_8 ⟨v_15, rfl, H⟩
     obtain ⟨f_16, hff_16, H⟩ := H
     refine xp (.int .i64 f_16) rfl rfl (p_field1 (off := 0) (ft := 31) rfl Try.underlying73 rfl Try.underlying31 rfl rfl hff_16) ?_
     refine xp _ rfl rfl (p_ne rfl rfl rfl) ?_
     refine xo_end ?_
     refine r_condB (b := (!decide (f_16 = 0))) rfl H ?_ ?_
     ·clear H; intro hb6 H
      refine r_seq ?_
      refine r_region ?_
      refine xs (.bool true) rfl rfl rfl rfl ?_
      refine xo_end ?_
      exact r_ret (fn := Try.f6) Try.func6 (res_1 rfl ⟨by decide, rfl⟩) H
     ·clear H; intro hb6 H
      refine r_skip ?_
      refine r_seq ?_
      refine r_region ?_
      obtain ⟨adv_17, v_17, hev_17, hnv_17, hcv_17, H⟩ := H
      refine xo_read (v := (.agg v_17)) rfl (wo rfl) (rd_loadN (ad := adv_17) rfl Try.underlying67 rfl Try.ti67 (by show Value.pointer _ = _; rw [hev_17]) hnv_17 hcv_17) ?_
      refine xo_eff rfl (wo rfl) (e_alloc rfl Try.ti67 H) ?_
      rintro _ w_9 ⟨a_18, rfl, H⟩
      refine xo_effN rfl (wo rfl) (e_storeN rfl Try.ti67 rfl rfl H) ?_
      intro _ w_10 H
      refine xo_end ?_
      refine r_seq ?_
      refine r_region ?_
      refine xp _ rfl rfl (p_fieldAddr (off := 0) (ft := 3) (size := 1) rfl Try.underlying67 rfl Try.ti3 (by decide) rfl rfl) ?_
      refine xo_effN rfl (wo rfl) (e_store rfl Try.ti3 rfl rfl rfl H) ?_
      intro _ w_11 H
      refine xo_end ?_
      refine r_seq ?_
      refine r_region ?_
      refine xm (.pointer m5) rfl rfl rfl rfl ?_
      obtain ⟨adv_19, v_19, hev_19, hnv_19, hcv_19, H⟩ := H
      refine xo_read (v := (.agg v_19)) rfl (wo rfl) (rd_loadN (ad := adv_19) rfl Try.underlying67 rfl Try.ti67 (by show Value.pointer _ = _; rw [hev_19]) hnv_19 hcv_19) ?_
      refine xo_eff rfl (wo rfl) (e_call (fn := Try.f37) H rfl rfl Try.func37 rfl rfl rfl) ?_
      rintro _ w_12 ⟨v_21, rfl, H⟩
      refine xo_eff rfl (wo rfl) (e_alloc rfl Try.ti73 H) ?_
      rintro _ w_13 ⟨a_22, rfl, H⟩
      refine xo_effN rfl (wo rfl) (e_storeN rfl Try.ti73 rfl rfl H) ?_
      intro _ w_14 H
      refine xo_end ?_
      refine r_seq ?_
      refine r_seq ?_
      refine r_topJ (fun (s : Option Addr × Option Addr × Option Addr × Bool) σ => upd 55 (.bool s.2.2.2) (upd 8 (.pointer s.2.2.1) (upd 5 (.pointer s.2.1) (upd 3 (.pointer s.1) (σ))))) (fun (s : Option Addr × Option Addr × Option Addr × Bool) w => sporranlaw15_ModelTrims_k2 R ag4 s.1 s.2.1 s.2.2.1 s.2.2.2 w) ?_ ?_
      ·rintro ⟨o3, m5, read8, t55⟩ σ w H
       replace H : sporranlaw15_ModelTrims_k2 R ag4 o3 m5 read8 t55 w := H
       show Runs _ _ _ _ _ (upd 55 (.bool t55) (upd 8 (.pointer read8) (upd 5 (.pointer m5) (upd 3 (.pointer o3) (σ))))) _
       unfold sporranlaw15_ModelTrims_k2 at H
       refine r_condB (b := t55) rfl H ?_ ?_
       ·clear H; intro hb8 H
        refine r_seq ?_
        refine r_region ?_
        refine xs (.bool false) rfl rfl rfl rfl ?_
        refine xo_end ?_
        exact r_ret (fn := Try.f6) Try.func6 (res_1 rfl ⟨by decide, rfl⟩) H
       ·clear H; intro hb8 H
        refine r_skip ?_
        refine r_seq ?_
        refine r_region ?_
        obtain ⟨p_23, hpp_23, H⟩ := H
        refine xp _ rfl rfl (p_fieldAddr (off := 0) (ft := 3) (size := 1) rfl Try.underlying67 rfl Try.ti3 (by decide) rfl hpp_23) ?_
        refine xo_effN rfl (wo rfl) (e_store rfl Try.ti3 rfl rfl rfl H) ?_
        intro _ w_15 H
        refine xo_end ?_
        refine r_seq ?_
        refine r_region ?_
        refine xm (.pointer m5) rfl rfl rfl rfl ?_
        obtain ⟨adv_24, v_24, hev_24, hnv_24, hcv_24, H⟩ := H
        refine xo_read (v := (.agg v_24)) rfl (wo rfl) (rd_loadN (ad := adv_24) rfl Try.underlying67 rfl Try.ti67 (by show Value.pointer _ = _; rw [hev_24]) hnv_24 hcv_24) ?_
        refine xo_eff rfl (wo rfl) (e_call (fn := Try.f37) H rfl rfl Try.func37 rfl rfl rfl) ?_
        rintro _ w_16 ⟨v_26, rfl, H⟩
        refine xo_eff rfl (wo rfl) (e_alloc rfl Try.ti73 H) ?_
        rintro _ w_17 ⟨a_27, rfl, H⟩
        refine xo_effN rfl (wo rfl) (e_storeN rfl Try.ti73 rfl rfl H) ?_
        intro _ w_18 H
        refine xo_end ?_
        refine r_seq ?_
        refine r_region ?_
        refine xm (.pointer m5) rfl rfl rfl rfl ?_
        obtain ⟨adv_28, v_28, hev_28, hnv_28, hcv_28, H⟩ := H
        refine xo_read (v := (.agg v_28)) rfl (wo rfl) (rd_loadN (ad := adv_28) rfl Try.underlying67 rfl Try.ti67 (by show Value.pointer _ = _; rw [hev_28]) hnv_28 hcv_28) ?_
        refine xo_eff rfl (wo rfl) (e_call (fn := Try.f37) H rfl rfl Try.func37 rfl rfl rfl) ?_
        rintro _ w_19 ⟨v_30, rfl, H⟩
        refine xo_eff rfl (wo rfl) (e_alloc rfl Try.ti73 H) ?_
        rintro _ w_20 ⟨a_31, rfl, H⟩
        refine xo_effN rfl (wo rfl) (e_storeN rfl Try.ti73 rfl rfl H) ?_
        intro _ w_21 H
        refine xo_end ?_
        refine r_seq ?_
        refine r_region ?_
        refine xp _ rfl rfl (p_fieldAddr (off := 0) (ft := 31) (size := 1) rfl Try.underlying73 rfl Try.ti31 (by decide) rfl rfl) ?_
        obtain ⟨adv_32, v_32, hev_32, hcv_32, H⟩ := H
        refine xr (.int .i64 v_32) rfl (wo rfl) rfl Try.underlying31 rfl rfl hev_32 hcv_32 ?_
        refine xp _ rfl rfl (p_eq rfl rfl rfl) ?_
        refine xm (.bool (decide (v_32 = 8))) rfl rfl rfl rfl ?_
        refine ifB_cases H ?_ ?_
        ·clear H; intro hb9 H
         refine xo_pure (v := (.pointer (some (a_31.add 1)))) rfl (wy 66 rfl rfl rfl hb9) (p_fieldAddr (off := 1) (ft := 4) (size := 1) rfl Try.underlying73 rfl Try.ti4 (by decide) rfl rfl) ?_
         obtain ⟨adv_33, v_33, hev_33, hcv_33, H⟩ := H
         refine xr (.bool v_33) rfl (wy 66 rfl rfl rfl hb9) rfl Try.underlying4 rfl rfl hev_33 hcv_33 ?_
         refine xo_pure (v := (.bool (!v_33))) rfl (wy 66 rfl rfl rfl hb9) (p_not rfl rfl) ?_
         refine xp (.bool (!v_33)) rfl rfl (p_pickT rfl rfl hb9 rfl) ?_
         refine xm (.bool (!v_33)) rfl rfl rfl rfl ?_
         refine ifB_cases H ?_ ?_
         ·clear H; intro hb10 H
          refine xo_skip rfl (wn 71 rfl rfl rfl hb10) ?_
          refine xo_skip rfl (wn 71 rfl rfl rfl hb10) ?_
          refine xo_skip rfl (wn 71 rfl rfl rfl hb10) ?_
          refine xo_skip rfl (wn 71 rfl rfl rfl hb10) ?_
          refine xo_skip rfl (wanted_undef (d := 75) rfl rfl (by decide) rfl) ?_
          refine xo_skip rfl (wanted_undef (d := 75) rfl rfl (by decide) rfl) ?_
          refine xo_skip rfl (wn 71 rfl rfl rfl hb10) ?_
          refine xo_skip rfl (wn 71 rfl rfl rfl hb10) ?_
          refine xo_skip rfl (wanted_undef (d := 79) rfl rfl (by decide) rfl) ?_
          refine xo_skip rfl (wanted_undef (d := 79) rfl rfl (by decide) rfl) ?_
          refine xo_skip rfl (wanted_undef (d := 79) rfl rfl (by decide) rfl) ?_
          refine xo_skip rfl (wanted_undef (d := 79) rfl rfl (by decide) rfl) ?_
          refine xo_skip rfl (wanted_undef (d := 79) rfl rfl (by decide) rfl) ?_
          refine xo_skip rfl (wn 71 rfl rfl rfl hb10) ?_
          refine xp (.bool true) rfl rfl (p_pickT rfl rfl hb10 rfl) ?_
          refine xs (.bool true) rfl rfl rfl rfl ?_
          refine xo_end ?_
          exact r_ret (fn := Try.f6) Try.func6 (res_1 rfl ⟨by decide, rfl⟩) H
         ·clear H; intro hb10 H
          refine xo_pure (v := (.pointer (some (a_27.add 0)))) rfl (wy 71 rfl rfl rfl hb10) (p_fieldAddr (off := 0) (ft := 31) (size := 1) rfl Try.underlying73 rfl Try.ti31 (by decide) rfl rfl) ?_
          obtain ⟨adv_34, v_34, hev_34, hcv_34, H⟩ := H
          refine xr (.int .i64 v_34) rfl (wy 71 rfl rfl rfl hb10) rfl Try.underlying31 rfl rfl hev_34 hcv_34 ?_
          refine xo_pure (v := (.bool (decide (v_34 = 0)))) rfl (wy 71 rfl rfl rfl hb10) (p_eq rfl rfl rfl) ?_
          refine xo_pure (v := (.bool (decide (v_34 = 0)))) rfl (wy 71 rfl rfl rfl hb10) (p_move rfl rfl) ?_
          refine ifB_cases H ?_ ?_
          ·clear H; intro hb11 H
           refine xo_pure (v := (.pointer (some (a_31.add 1)))) rfl (wy 75 rfl rfl rfl hb11) (p_fieldAddr (off := 1) (ft := 4) (size := 1) rfl Try.underlying73 rfl Try.ti4 (by decide) rfl rfl) ?_
           obtain ⟨adv_35, v_35, hev_35, hcv_35, H⟩ := H
           refine xr (.bool v_35) rfl (wy 75 rfl rfl rfl hb11) rfl Try.underlying4 rfl rfl hev_35 hcv_35 ?_
           refine xo_pure (v := (.bool v_35)) rfl (wy 71 rfl rfl rfl hb10) (p_pickT rfl rfl hb11 rfl) ?_
           refine xo_pure (v := (.bool v_35)) rfl (wy 71 rfl rfl rfl hb10) (p_move rfl rfl) ?_
           refine ifB_cases H ?_ ?_
           ·clear H; intro hb12 H
            refine xo_pure (v := (.pointer (some (a_31.add 2)))) rfl (wy 79 rfl rfl rfl hb12) (p_fieldAddr (off := 2) (ft := 65) (size := 48) rfl Try.underlying73 rfl Try.ti65 (by decide) rfl rfl) ?_
            obtain ⟨adv_36, v_36, hev_36, hnv_36, hcv_36, H⟩ := H
            refine xo_read (v := (.agg v_36)) rfl (wy 79 rfl rfl rfl hb12) (rd_loadN (ad := adv_36) rfl Try.underlying65 rfl Try.ti65 (by show Value.pointer _ = _; rw [hev_36]) hnv_36 hcv_36) ?_
            obtain ⟨p_37, hpp_37, H⟩ := H
            refine xo_pure (v := (.pointer (some (p_37.add 5)))) rfl (wy 79 rfl rfl rfl hb12) (p_fieldAddr (off := 5) (ft := 65) (size := 48) rfl Try.underlying67 rfl Try.ti65 (by decide) rfl hpp_37) ?_
            obtain ⟨adv_38, v_38, hev_38, hnv_38, hcv_38, H⟩ := H
            refine xo_read (v := (.agg v_38)) rfl (wy 79 rfl rfl rfl hb12) (rd_loadN (ad := adv_38) rfl Try.underlying65 rfl Try.ti65 (by show Value.pointer _ = _; rw [hev_38]) hnv_38 hcv_38) ?_
            obtain ⟨b_39, hqb_39, H⟩ := H
            refine xo_pure (v := (.bool b_39)) rfl (wy 79 rfl rfl rfl hb12) (p_aggEq rfl hqb_39 rfl rfl) ?_
            refine xo_pure (v := (.bool b_39)) rfl (wy 71 rfl rfl rfl hb10) (p_pickT rfl rfl hb12 rfl) ?_
            refine xp (.bool b_39) rfl rfl (p_pickF rfl rfl hb10 rfl) ?_
            refine xs (.bool b_39) rfl rfl rfl rfl ?_
            refine xo_end ?_
            exact r_ret (fn := Try.f6) Try.func6 (res_1 rfl ⟨by decide, rfl⟩) H
           ·clear H; intro hb12 H
            refine xo_skip rfl (wn 79 rfl rfl rfl hb12) ?_
            refine xo_skip rfl (wn 79 rfl rfl rfl hb12) ?_
            refine xo_skip rfl (wn 79 rfl rfl rfl hb12) ?_
            refine xo_skip rfl (wn 79 rfl rfl rfl hb12) ?_
            refine xo_skip rfl (wn 79 rfl rfl rfl hb12) ?_
            refine xo_pure (v := (.bool false)) rfl (wy 71 rfl rfl rfl hb10) (p_pickF rfl rfl hb12 rfl) ?_
            refine xp (.bool false) rfl rfl (p_pickF rfl rfl hb10 rfl) ?_
            refine xs (.bool false) rfl rfl rfl rfl ?_
            refine xo_end ?_
            exact r_ret (fn := Try.f6) Try.func6 (res_1 rfl ⟨by decide, rfl⟩) H
          ·clear H; intro hb11 H
           refine xo_skip rfl (wn 75 rfl rfl rfl hb11) ?_
           refine xo_skip rfl (wn 75 rfl rfl rfl hb11) ?_
           refine xo_pure (v := (.bool false)) rfl (wy 71 rfl rfl rfl hb10) (p_pickF rfl rfl hb11 rfl) ?_
           refine xo_pure (v := (.bool false)) rfl (wy 71 rfl rfl rfl hb10) (p_move rfl rfl) ?_
           refine xo_skip rfl (wn 79 rfl rfl rfl rfl) ?_
           refine xo_skip rfl (wn 79 rfl rfl rfl rfl) ?_
           refine xo_skip rfl (wn 79 rfl rfl rfl rfl) ?_
           refine xo_skip rfl (wn 79 rfl rfl rfl rfl) ?_
           refine xo_skip rfl (wn 79 rfl rfl rfl rfl) ?_
           refine xo_pure (v := (.bool false)) rfl (wy 71 rfl rfl rfl hb10) (p_pickF rfl rfl rfl rfl) ?_
           refine xp (.bool false) rfl rfl (p_pickF rfl rfl hb10 rfl) ?_
           refine xs (.bool false) rfl rfl rfl rfl ?_
           refine xo_end ?_
           exact r_ret (fn := Try.f6) Try.func6 (res_1 rfl ⟨by decide, rfl⟩) H
        ·clear H; intro hb9 H
         refine xo_skip rfl (wn 66 rfl rfl rfl hb9) ?_
         refine xo_skip rfl (wn 66 rfl rfl rfl hb9) ?_
         refine xo_skip rfl (wn 66 rfl rfl rfl hb9) ?_
         refine xp (.bool false) rfl rfl (p_pickF rfl rfl hb9 rfl) ?_
         refine xm (.bool false) rfl rfl rfl rfl ?_
         refine xo_pure (v := (.pointer (some (a_27.add 0)))) rfl (wy 71 rfl rfl rfl rfl) (p_fieldAddr (off := 0) (ft := 31) (size := 1) rfl Try.underlying73 rfl Try.ti31 (by decide) rfl rfl) ?_
         obtain ⟨adv_40, v_40, hev_40, hcv_40, H⟩ := H
         refine xr (.int .i64 v_40) rfl (wy 71 rfl rfl rfl rfl) rfl Try.underlying31 rfl rfl hev_40 hcv_40 ?_
         refine xo_pure (v := (.bool (decide (v_40 = 0)))) rfl (wy 71 rfl rfl rfl rfl) (p_eq rfl rfl rfl) ?_
         refine xo_pure (v := (.bool (decide (v_40 = 0)))) rfl (wy 71 rfl rfl rfl rfl) (p_move rfl rfl) ?_
         refine ifB_cases H ?_ ?_
         ·clear H; intro hb13 H
          refine xo_pure (v := (.pointer (some (a_31.add 1)))) rfl (wy 75 rfl rfl rfl hb13) (p_fieldAddr (off := 1) (ft := 4) (size := 1) rfl Try.underlying73 rfl Try.ti4 (by decide) rfl rfl) ?_
          obtain ⟨adv_41, v_41, hev_41, hcv_41, H⟩ := H
          refine xr (.bool v_41) rfl (wy 75 rfl rfl rfl hb13) rfl Try.underlying4 rfl rfl hev_41 hcv_41 ?_
          refine xo_pure (v := (.bool v_41)) rfl (wy 71 rfl rfl rfl rfl) (p_pickT rfl rfl hb13 rfl) ?_
          refine xo_pure (v := (.bool v_41)) rfl (wy 71 rfl rfl rfl rfl) (p_move rfl rfl) ?_
          refine ifB_cases H ?_ ?_
          ·clear H; intro hb14 H
           refine xo_pure (v := (.pointer (some (a_31.add 2)))) rfl (wy 79 rfl rfl rfl hb14) (p_fieldAddr (off := 2) (ft := 65) (size := 48) rfl Try.underlying73 rfl Try.ti65 (by decide) rfl rfl) ?_
           obtain ⟨adv_42, v_42, hev_42, hnv_42, hcv_42, H⟩ := H
           refine xo_read (v := (.agg v_42)) rfl (wy 79 rfl rfl rfl hb14) (rd_loadN (ad := adv_42) rfl Try.underlying65 rfl Try.ti65 (by show Value.pointer _ = _; rw [hev_42]) hnv_42 hcv_42) ?_
           obtain ⟨p_43, hpp_43, H⟩ := H
           refine xo_pure (v := (.pointer (some (p_43.add 5)))) rfl (wy 79 rfl rfl rfl hb14) (p_fieldAddr (off := 5) (ft := 65) (size := 48) rfl Try.underlying67 rfl Try.ti65 (by decide) rfl hpp_43) ?_
           obtain ⟨adv_44, v_44, hev_44, hnv_44, hcv_44, H⟩ := H
           refine xo_read (v := (.agg v_44)) rfl (wy 79 rfl rfl rfl hb14) (rd_loadN (ad := adv_44) rfl Try.underlying65 rfl Try.ti65 (by show Value.pointer _ = _; rw [hev_44]) hnv_44 hcv_44) ?_
           obtain ⟨b_45, hqb_45, H⟩ := H
           refine xo_pure (v := (.bool b_45)) rfl (wy 79 rfl rfl rfl hb14) (p_aggEq rfl hqb_45 rfl rfl) ?_
           refine xo_pure (v := (.bool b_45)) rfl (wy 71 rfl rfl rfl rfl) (p_pickT rfl rfl hb14 rfl) ?_
           refine xp (.bool b_45) rfl rfl (p_pickF rfl rfl rfl rfl) ?_
           refine xs (.bool b_45) rfl rfl rfl rfl ?_
           refine xo_end ?_
           exact r_ret (fn := Try.f6) Try.func6 (res_1 rfl ⟨by decide, rfl⟩) H
          ·clear H; intro hb14 H
           refine xo_skip rfl (wn 79 rfl rfl rfl hb14) ?_
           refine xo_skip rfl (wn 79 rfl rfl rfl hb14) ?_
           refine xo_skip rfl (wn 79 rfl rfl rfl hb14) ?_
           refine xo_skip rfl (wn 79 rfl rfl rfl hb14) ?_
           refine xo_skip rfl (wn 79 rfl rfl rfl hb14) ?_
           refine xo_pure (v := (.bool false)) rfl (wy 71 rfl rfl rfl rfl) (p_pickF rfl rfl hb14 rfl) ?_
           refine xp (.bool false) rfl rfl (p_pickF rfl rfl rfl rfl) ?_
           refine xs (.bool false) rfl rfl rfl rfl ?_
           refine xo_end ?_
           exact r_ret (fn := Try.f6) Try.func6 (res_1 rfl ⟨by decide, rfl⟩) H
         ·clear H; intro hb13 H
          refine xo_skip rfl (wn 75 rfl rfl rfl hb13) ?_
          refine xo_skip rfl (wn 75 rfl rfl rfl hb13) ?_
          refine xo_pure (v := (.bool false)) rfl (wy 71 rfl rfl rfl rfl) (p_pickF rfl rfl hb13 rfl) ?_
          refine xo_pure (v := (.bool false)) rfl (wy 71 rfl rfl rfl rfl) (p_move rfl rfl) ?_
          refine xo_skip rfl (wn 79 rfl rfl rfl rfl) ?_
          refine xo_skip rfl (wn 79 rfl rfl rfl rfl) ?_
          refine xo_skip rfl (wn 79 rfl rfl rfl rfl) ?_
          refine xo_skip rfl (wn 79 rfl rfl rfl rfl) ?_
          refine xo_skip rfl (wn 79 rfl rfl rfl rfl) ?_
          refine xo_pure (v := (.bool false)) rfl (wy 71 rfl rfl rfl rfl) (p_pickF rfl rfl rfl rfl) ?_
          refine xp (.bool false) rfl rfl (p_pickF rfl rfl rfl rfl) ?_
          refine xs (.bool false) rfl rfl rfl rfl ?_
          refine xo_end ?_
          exact r_ret (fn := Try.f6) Try.func6 (res_1 rfl ⟨by decide, rfl⟩) H
      ·intro J7
       refine r_region ?_
       refine xp _ rfl rfl (p_fieldAddr (off := 0) (ft := 31) (size := 1) rfl Try.underlying73 rfl Try.ti31 (by decide) rfl rfl) ?_
       obtain ⟨adv_46, v_46, hev_46, hcv_46, H⟩ := H
       refine xr (.int .i64 v_46) rfl (wo rfl) rfl Try.underlying31 rfl rfl hev_46 hcv_46 ?_
       refine xp _ rfl rfl (p_ne rfl rfl rfl) ?_
       refine xm (.bool (!decide (v_46 = 0))) rfl rfl rfl rfl ?_
       refine ifB_cases H ?_ ?_
       ·clear H; intro hb15 H
        refine xo_skip rfl (wn 46 rfl rfl rfl hb15) ?_
        refine xo_skip rfl (wn 46 rfl rfl rfl hb15) ?_
        refine xp (.bool true) rfl rfl (p_pickT rfl rfl hb15 rfl) ?_
        refine xm (.bool true) rfl rfl rfl rfl ?_
        refine xo_skip rfl (wn 50 rfl rfl rfl rfl) ?_
        refine xo_skip rfl (wn 50 rfl rfl rfl rfl) ?_
        refine xo_skip rfl (wn 50 rfl rfl rfl rfl) ?_
        refine xo_skip rfl (wn 50 rfl rfl rfl rfl) ?_
        refine xp (.bool true) rfl rfl (p_pickT rfl rfl rfl rfl) ?_
        refine xo_end ?_
        refine ru 3 (.pointer o3) rfl ?_
        refine ru 5 (.pointer m5) rfl ?_
        refine ru 8 (.pointer (some a_18)) rfl ?_
        refine ru 55 (.bool true) rfl ?_
        exact J7 (o3, m5, (some a_18), true) _ _ H
       ·clear H; intro hb15 H
        refine xo_pure (v := (.pointer (some (a_22.add 1)))) rfl (wy 46 rfl rfl rfl hb15) (p_fieldAddr (off := 1) (ft := 4) (size := 1) rfl Try.underlying73 rfl Try.ti4 (by decide) rfl rfl) ?_
        obtain ⟨adv_47, v_47, hev_47, hcv_47, H⟩ := H
        refine xr (.bool v_47) rfl (wy 46 rfl rfl rfl hb15) rfl Try.underlying4 rfl rfl hev_47 hcv_47 ?_
        refine xp (.bool v_47) rfl rfl (p_pickF rfl rfl hb15 rfl) ?_
        refine xm (.bool v_47) rfl rfl rfl rfl ?_
        refine ifB_cases H ?_ ?_
        ·clear H; intro hb16 H
         refine xo_skip rfl (wn 50 rfl rfl rfl hb16) ?_
         refine xo_skip rfl (wn 50 rfl rfl rfl hb16) ?_
         refine xo_skip rfl (wn 50 rfl rfl rfl hb16) ?_
         refine xo_skip rfl (wn 50 rfl rfl rfl hb16) ?_
         refine xp (.bool true) rfl rfl (p_pickT rfl rfl hb16 rfl) ?_
         refine xo_end ?_
         refine ru 3 (.pointer o3) rfl ?_
         refine ru 5 (.pointer m5) rfl ?_
         refine ru 8 (.pointer (some a_18)) rfl ?_
         refine ru 55 (.bool true) rfl ?_
         exact J7 (o3, m5, (some a_18), true) _ _ H
        ·clear H; intro hb16 H
         refine xo_pure (v := (.pointer (some (a_22.add 2)))) rfl (wy 50 rfl rfl rfl hb16) (p_fieldAddr (off := 2) (ft := 65) (size := 48) rfl Try.underlying73 rfl Try.ti65 (by decide) rfl rfl) ?_
         obtain ⟨adv_48, v_48, hev_48, hnv_48, hcv_48, H⟩ := H
         refine xo_read (v := (.agg v_48)) rfl (wy 50 rfl rfl rfl hb16) (rd_loadN (ad := adv_48) rfl Try.underlying65 rfl Try.ti65 (by show Value.pointer _ = _; rw [hev_48]) hnv_48 hcv_48) ?_
         obtain ⟨c_49, hflc_49, H⟩ := H
         refine xo_pure (v := (.agg c_49)) rfl (wy 50 rfl rfl rfl hb16) (p_buildA (size := 1) rfl Try.underlying65 Try.ti65 Try.ti5 hflc_49 rfl) ?_
         obtain ⟨b_50, hqb_50, H⟩ := H
         refine xo_pure (v := (.bool (!b_50))) rfl (wy 50 rfl rfl rfl hb16) (p_aggNe rfl hqb_50 rfl rfl) ?_
         refine xp (.bool (!b_50)) rfl rfl (p_pickF rfl rfl hb16 rfl) ?_
         refine xo_end ?_
         refine ru 3 (.pointer o3) rfl ?_
         refine ru 5 (.pointer m5) rfl ?_
         refine ru 8 (.pointer (some a_18)) rfl ?_
         refine ru 55 (.bool (!b_50)) rfl ?_
         exact J7 (o3, m5, (some a_18), (!b_50)) _ _ H
  ·intro J2
   refine r_region ?_
   refine xm (Sl.v ops0) rfl rfl rfl rfl ?_
   refine xo_eff rfl (wo rfl) (e_call (fn := Try.f35) H rfl rfl Try.func35 rfl rfl rfl) ?_
   rintro _ w_22 ⟨v_52, rfl, H⟩
   refine xm (.bool v_52) rfl rfl rfl rfl ?_
   refine ifB_cases H ?_ ?_
   ·clear H; intro hb17 H
    refine xo_skip rfl (wn 16 rfl rfl rfl hb17) ?_
    refine xo_skip rfl (wn 16 rfl rfl rfl hb17) ?_
    refine xo_skip rfl (wn 16 rfl rfl rfl hb17) ?_
    refine xp (.bool true) rfl rfl (p_pickT rfl rfl hb17 rfl) ?_
    refine xo_end ?_
    refine ru 0 (Sl.v ops0) rfl ?_
    refine ru 3 (.pointer (some a_1)) rfl ?_
    refine ru 20 (.bool true) rfl ?_
    exact J2 (ops0, (some a_1), true) _ _ H
   ·clear H; intro hb17 H
    obtain ⟨adv_53, v_53, hev_53, hnv_53, hcv_53, H⟩ := H
    refine xo_read (v := (.agg v_53)) rfl (wy 16 rfl rfl rfl hb17) (rd_loadN (ad := adv_53) rfl Try.underlying67 rfl Try.ti67 (by show Value.pointer _ = _; rw [hev_53]) hnv_53 hcv_53) ?_
    obtain ⟨hzq_55, H⟩ := H
    refine xo_eff rfl (wy 16 rfl rfl rfl hb17) (e_buildAgg (size := 53) H rfl Try.underlying63 Try.ti67 (by decide) (by decide) rfl hzq_55) ?_
    rintro _ w_23 ⟨a_54, rfl, H⟩
    refine xo_eff rfl (wy 16 rfl rfl rfl hb17) (e_call (fn := Try.f35) H rfl rfl Try.func35 rfl rfl rfl) ?_
    rintro _ w_24 ⟨v_57, rfl, H⟩
    refine xp (.bool v_57) rfl rfl (p_pickF rfl rfl hb17 rfl) ?_
    refine xo_end ?_
    refine ru 0 (Sl.v ops0) rfl ?_
    refine ru 3 (.pointer (some a_1)) rfl ?_
    refine ru 20 (.bool v_57) rfl ?_
    exact J2 (ops0, (some a_1), v_57) _ _ H

/-! 9 sporran/sporranlaw15.ModelFrozen -/
def sporranlaw15_ModelFrozen_k3 (R : Value → World → Prop) (ag4 : (Sl × ByteArray × Option Addr × Sl × Int × Int) → World → Prop) (ag7 : (Option Addr × Option Addr × Sl × Int × Int) → World → Prop) (m7 : Option Addr) (want11 : Option Addr) (t52 : Sl) (t53 : Int) (t54 : Int) (w : World) : Prop :=
 ag7 (m7, want11, t52, t53, (IntKind.i64.wrap (t54 + 1))) w
def sporranlaw15_ModelFrozen_k4 (R : Value → World → Prop) (ag4 : (Sl × ByteArray × Option Addr × Sl × Int × Int) → World → Prop) (ag7 : (Option Addr × Option Addr × Sl × Int × Int) → World → Prop) (m7 : Option Addr) (want11 : Option Addr) (o13 : Option Addr) (t52 : Sl) (t53 : Int) (t54 : Int) (t65 : Bool) (w : World) : Prop :=
 IfB t65 (
  sporranlaw15_ModelFrozen_k3 R ag4 ag7 m7 want11 t52 t53 t54 w) (
  LdN 53 o13 w fun v_25 =>
  CallF Try.prog 37 #[(.pointer m7), (.agg v_25)] w fun u_26 w_13 => As Value.agg u_26 fun v_27 =>
  sporranlaw15_ModelFrozen_k3 R ag4 ag7 m7 want11 t52 t53 t54 w_13)
def sporranlaw15_ModelFrozen_b2 (R : Value → World → Prop) (ag4 : (Sl × ByteArray × Option Addr × Sl × Int × Int) → World → Prop) (ag7 : (Option Addr × Option Addr × Sl × Int × Int) → World → Prop) (m7 : Option Addr) (want11 : Option Addr) (t52 : Sl) (t53 : Int) (t54 : Int) (w : World) : Prop :=
 IfB (decide (t54 < t53)) (
  Ix t52 t54 fun p_22 =>
  LdN 53 (some (p_22.add (t54.toNat * 53))) w fun v_23 =>
  New Try.z67 67 w fun a_24 w_11 =>
  StN 53 (some a_24) v_23 w_11 fun w_12 =>
  Ld (Value.int .i64) (some (a_24.add 0)) w_12 fun v_28 =>
  IfB (decide (v_28 = 2)) (
   Ld Value.string (some (a_24.add 1)) w_12 fun v_29 =>
   sporranlaw15_ModelFrozen_k4 R ag4 ag7 m7 want11 (some a_24) t52 t53 t54 (seq v_29 (ByteArray.mk #[107, 101, 112, 116, 45, 97, 115, 45, 105, 116, 45, 105, 115])) w_12) (
   sporranlaw15_ModelFrozen_k4 R ag4 ag7 m7 want11 (some a_24) t52 t53 t54 false w_12)) (
  CallF Try.prog 50 #[(.pointer m7)] w fun u_30 w_14 => As Sl.v u_30 fun v_31 =>
  CallF Try.prog 51 #[(Sl.v v_31), (.string (ByteArray.mk #[107, 101, 112, 116, 45, 97, 115, 45, 105, 116, 45, 105, 115]))] w_14 fun u_32 w_15 => As (Value.int .i64) u_32 fun v_33 =>
  IfB (decide (0 ≤ v_33)) (
   NotNil want11 fun p_34 =>
   Ld Value.bool (some (p_34.add 2)) (World.drew w_15) fun v_35 =>
   IfB v_35 (
    Cut v_31 4 (some v_33) (some (IntKind.i64.wrap (v_33 + 1))) none fun s_36 =>
    LdN 4 want11 (World.drew w_15) fun v_37 =>
    v_37.size = 4 ∧ (
    New v_37 104 (World.drew w_15) fun a_38 w_17 =>
    CallF Try.prog 52 #[(Sl.v s_36), (Sl.v ⟨some a_38, 1, 1⟩)] w_17 fun u_40 w_18 => As Value.bool u_40 fun v_41 =>
    R (.bool v_41) w_18)) (
    R (.bool false) (World.drew w_15))) (
   R (.bool false) (World.drew w_15)))
def sporranlaw15_ModelFrozen_b1 (R : Value → World → Prop) (ag4 : (Sl × ByteArray × Option Addr × Sl × Int × Int) → World → Prop) (later1 : Sl) (name2 : ByteArray) (m7 : Option Addr) (t29 : Sl) (t30 : Int) (t31 : Int) (w : World) : Prop :=
 IfB (decide (t31 < t30)) (
  Ix t29 t31 fun p_5 =>
  LdN 53 (some (p_5.add (t31.toNat * 53))) w fun v_6 =>
  New Try.z67 67 w fun a_7 w_3 =>
  StN 53 (some a_7) v_6 w_3 fun w_4 =>
  LdN 53 (some a_7) w_4 fun v_8 =>
  CallF Try.prog 37 #[(.pointer m7), (.agg v_8)] w_4 fun u_9 w_5 => As Value.agg u_9 fun v_10 =>
  ag4 (later1, name2, m7, t29, t30, (IntKind.i64.wrap (t31 + 1))) w_5) (
  Built #[(0, 1), (1, 1), (2, 1), (3, 1), (4, 1), (5, 48)] Try.z67 [(0, (.int .i64 6)), (1, (.string name2)), (2, (.string (ByteArray.mk #[107, 101, 112, 116, 45, 97, 115, 45, 105, 116, 45, 105, 115])))] fun c_11 =>
  CallF Try.prog 37 #[(.pointer m7), (.agg c_11)] w fun u_12 w_6 => As Value.agg u_12 fun v_13 =>
  At (Value.int .i64) v_13 0 fun f_14 =>
  IfB (!decide (f_14 = 0)) (
   R (.bool true) w_6) (
   CallF Try.prog 50 #[(.pointer m7)] w_6 fun u_15 w_7 => As Sl.v u_15 fun v_16 =>
   CallF Try.prog 51 #[(Sl.v v_16), (.string (ByteArray.mk #[107, 101, 112, 116, 45, 97, 115, 45, 105, 116, 45, 105, 115]))] w_7 fun u_17 w_8 => As (Value.int .i64) u_17 fun v_18 =>
   Ix v_16 v_18 fun p_19 =>
   LdN 4 (some (p_19.add (v_18.toNat * 4))) w_8 fun v_20 =>
   New #[(.string (ByteArray.mk #[])), (.int .i64 0), (.bool false), (Sl.v Sl.nil)] 104 w_8 fun a_21 w_9 =>
   StN 4 (some a_21) v_20 w_9 fun w_10 =>
   Lp (fun ag (s : Option Addr × Option Addr × Sl × Int × Int) w => sporranlaw15_ModelFrozen_b2 R ag4 ag s.1 s.2.1 s.2.2.1 s.2.2.2.1 s.2.2.2.2 w) (m7, (some a_21), later1, (later1.len : Int), 0) w_10))
def sporranlaw15_ModelFrozen_k0 (R : Value → World → Prop) (before0 : Sl) (later1 : Sl) (name2 : ByteArray) (t27 : Bool) (w : World) : Prop :=
 IfB t27 (
  R (.bool true) w) (
  CallF Try.prog 36 #[] w fun u_3 w_2 => As Value.pointer u_3 fun v_4 =>
  Lp (fun ag (s : Sl × ByteArray × Option Addr × Sl × Int × Int) w => sporranlaw15_ModelFrozen_b1 R ag s.1 s.2.1 s.2.2.1 s.2.2.2.1 s.2.2.2.2.1 s.2.2.2.2.2 w) (later1, name2, v_4, before0, (before0.len : Int), 0) w_2)
def sporranlaw15_ModelFrozen (R : Value → World → Prop) (before0 : Sl) (later1 : Sl) (name2 : ByteArray) (w : World) : Prop :=
 CallF Try.prog 34 #[] w fun u_1 w_1 => As Value.bool u_1 fun v_2 =>
 IfB (!v_2) (
  R (.bool false) w_1) (
  CallF Try.prog 35 #[(Sl.v before0)] w_1 fun u_42 w_19 => As Value.bool u_42 fun v_43 =>
  IfB v_43 (
   sporranlaw15_ModelFrozen_k0 R before0 later1 name2 true w_19) (
   CallF Try.prog 35 #[(Sl.v later1)] w_19 fun u_44 w_20 => As Value.bool u_44 fun v_45 =>
   IfB v_45 (
    sporranlaw15_ModelFrozen_k0 R before0 later1 name2 true w_20) (
    sporranlaw15_ModelFrozen_k0 R before0 later1 name2 (decide (100 < (name2.size : Int))) w_20)))
theorem sporranlaw15_ModelFrozen_ok (R : Value → World → Prop) (before0 : Sl) (later1 : Sl) (name2 : ByteArray) (w : World) (H : sporranlaw15_ModelFrozen R before0 later1 name2 w) : CallF Try.prog 9 #[(Sl.v before0), (Sl.v later1), (.string name2)] w R := by
 refine calls_of_runs (fn := Try.f9) Try.func9 rfl (Nat.le_of_ble_eq_true rfl) ?_
 show Runs _ _ 90 _ _ _ _
 unfold sporranlaw15_ModelFrozen at H
 refine ru 0 (Sl.v before0) rfl ?_
 refine ru 1 (Sl.v later1) rfl ?_
 refine ru 2 (.string name2) rfl ?_
 refine r_seq ?_
 refine r_region ?_
 refine xs (.bool false) rfl rfl rfl rfl ?_
 refine xo_end ?_
 refine r_seq ?_
 refine r_seq ?_
 refine r_region ?_
 refine xo_eff rfl (wo rfl) (e_call (fn := Try.f34) H rfl rfl Try.func34 rfl rfl rfl) ?_
 rintro _ w_1 ⟨v_2, rfl, H⟩
 refine xp (.bool (!v_2)) rfl rfl (p_not rfl rfl) ?_
 refine xo_end ?_
 refine r_condB (b := (!v_2)) rfl H ?_ ?_
 ·clear H; intro hb1 H
  refine r_seq ?_
  refine r_region ?_
  refine xs (.bool false) rfl rfl rfl rfl ?_
  refine xo_end ?_
  exact r_ret (fn := Try.f9) Try.func9 (res_1 rfl ⟨by decide, rfl⟩) H
 ·clear H; intro hb1 H
  refine r_skip ?_
  refine r_seq ?_
  refine r_seq ?_
  refine r_topJ (fun (s : Sl × Sl × ByteArray × Bool) σ => upd 27 (.bool s.2.2.2) (upd 2 (.string s.2.2.1) (upd 1 (Sl.v s.2.1) (upd 0 (Sl.v s.1) (σ))))) (fun (s : Sl × Sl × ByteArray × Bool) w => sporranlaw15_ModelFrozen_k0 R s.1 s.2.1 s.2.2.1 s.2.2.2 w) ?_ ?_
  ·rintro ⟨before0, later1, name2, t27⟩ σ w H
   replace H : sporranlaw15_ModelFrozen_k0 R before0 later1 name2 t27 w := H
   show Runs _ _ _ _ _ (upd 27 (.bool t27) (upd 2 (.string name2) (upd 1 (Sl.v later1) (upd 0 (Sl.v before0) (σ))))) _
   unfold sporranlaw15_ModelFrozen_k0 at H
   refine r_condB (b := t27) rfl H ?_ ?_
   ·clear H; intro hb3 H
    refine r_seq ?_
    refine r_region ?_
    refine xs (.bool true) rfl rfl rfl rfl ?_
    refine xo_end ?_
    exact r_ret (fn := Try.f9) Try.func9 (res_1 rfl ⟨by decide, rfl⟩) H
   ·clear H; intro hb3 H
    refine r_skip ?_
    refine r_seq ?_
    refine r_region ?_
    refine xo_eff rfl (wo rfl) (e_call (fn := Try.f36) H rfl rfl Try.func36 rfl rfl rfl) ?_
    rintro _ w_2 ⟨v_4, rfl, H⟩
    refine xs (.pointer v_4) rfl rfl rfl rfl ?_
    refine xo_end ?_
    refine r_seq ?_
    refine r_seq ?_
    refine r_region ?_
    refine xm (Sl.v before0) rfl rfl rfl rfl ?_
    refine xp (.int .i64 (before0.len : Int)) rfl rfl (p_len rfl Try.underlying63 rfl) ?_
    refine xm (.int .i64 0) rfl rfl rfl rfl ?_
    refine xo_end ?_
    refine r_block ?_
    refine ru 1 (Sl.v later1) rfl ?_
    refine ru 2 (.string name2) rfl ?_
    refine ru 7 (.pointer v_4) rfl ?_
    refine ru 29 (Sl.v before0) rfl ?_
    refine ru 30 (.int .i64 (before0.len : Int)) rfl ?_
    refine ru 31 (.int .i64 0) rfl ?_
    refine r_loopJ (fun (s : Sl × ByteArray × Option Addr × Sl × Int × Int) σ => upd 31 (.int .i64 s.2.2.2.2.2) (upd 30 (.int .i64 s.2.2.2.2.1) (upd 29 (Sl.v s.2.2.2.1) (upd 7 (.pointer s.2.2.1) (upd 2 (.string s.2.1) (upd 1 (Sl.v s.1) (σ))))))) (s := (later1, name2, v_4, before0, (before0.len : Int), 0)) H ?_
    clear H
    rintro ag4 ⟨later1, name2, m7, t29, t30, t31⟩ σ w H hag4
    replace H : sporranlaw15_ModelFrozen_b1 R ag4 later1 name2 m7 t29 t30 t31 w := H
    show Runs _ _ _ _ _ (upd 31 (.int .i64 t31) (upd 30 (.int .i64 t30) (upd 29 (Sl.v t29) (upd 7 (.pointer m7) (upd 2 (.string name2) (upd 1 (Sl.v later1) (σ))))))) _
    unfold sporranlaw15_ModelFrozen_b1 at H
    refine r_seq ?_
    refine r_region ?_
    refine xp _ rfl rfl (p_lt rfl rfl rfl) ?_
    refine xo_end ?_
    refine r_seq ?_
    refine r_condB (b := (decide (t31 < t30))) rfl H ?_ ?_
    ·clear H; intro hb5 H
     refine r_skip ?_
     refine r_seq ?_
     refine r_block ?_
     refine r_seq ?_
     refine r_region ?_
     obtain ⟨p_5, hap_5, hlp_5, hup_5, H⟩ := H
     refine xp _ rfl rfl (p_indexAddr (s := t29) (ad := p_5) (size := 53) rfl Try.underlying63 Try.ti67 rfl rfl hap_5 hlp_5 hup_5) ?_
     obtain ⟨adv_6, v_6, hev_6, hnv_6, hcv_6, H⟩ := H
     refine xo_read (v := (.agg v_6)) rfl (wo rfl) (rd_loadN (ad := adv_6) rfl Try.underlying67 rfl Try.ti67 (by show Value.pointer _ = _; rw [hev_6]) hnv_6 hcv_6) ?_
     refine xo_eff rfl (wo rfl) (e_alloc rfl Try.ti67 H) ?_
     rintro _ w_3 ⟨a_7, rfl, H⟩
     refine xo_effN rfl (wo rfl) (e_storeN rfl Try.ti67 rfl rfl H) ?_
     intro _ w_4 H
     refine xo_end ?_
     refine r_region ?_
     refine xm (.pointer m7) rfl rfl rfl rfl ?_
     obtain ⟨adv_8, v_8, hev_8, hnv_8, hcv_8, H⟩ := H
     refine xo_read (v := (.agg v_8)) rfl (wo rfl) (rd_loadN (ad := adv_8) rfl Try.underlying67 rfl Try.ti67 (by show Value.pointer _ = _; rw [hev_8]) hnv_8 hcv_8) ?_
     refine xo_eff rfl (wo rfl) (e_call (fn := Try.f37) H rfl rfl Try.func37 rfl rfl rfl) ?_
     rintro _ w_5 ⟨v_10, rfl, H⟩
     refine xo_end ?_
     refine r_inBlock ?_
     refine r_region ?_
     refine xp _ rfl rfl (p_add rfl rfl rfl) ?_
     refine xm (.int .i64 (IntKind.i64.wrap (t31 + 1))) rfl rfl rfl rfl ?_
     refine xo_end ?_
     refine ru 1 (Sl.v later1) rfl ?_
     refine ru 2 (.string name2) rfl ?_
     refine ru 7 (.pointer m7) rfl ?_
     refine ru 29 (Sl.v t29) rfl ?_
     refine ru 30 (.int .i64 t30) rfl ?_
     refine ru 31 (.int .i64 (IntKind.i64.wrap (t31 + 1))) rfl ?_
     exact hag4 (later1, name2, m7, t29, t30, (IntKind.i64.wrap (t31 + 1))) _ _ H
    ·clear H; intro hb5 H
     refine r_exit rfl ?_
     refine r_seq ?_
     refine r_seq ?_
     refine r_region ?_
     refine xm (.pointer m7) rfl rfl rfl rfl ?_
     refine xm (.string name2) rfl rfl rfl rfl ?_
     obtain ⟨c_11, hflc_11, H⟩ := H
     refine xp (.agg c_11) rfl rfl (p_buildS (places := #[(0, 1), (1, 1), (2, 1), (3, 1), (4, 1), (5, 48)]) rfl Try.pl67 Try.ti67 hflc_11 rfl) ?_
     refine xo_eff rfl (wo rfl) (e_call (fn := Try.f37) H rfl rfl Try.func37 rfl rfl rfl) ?_
     rintro _ w_6 ⟨v_13, rfl, H⟩
     obtain ⟨f_14, hff_14, H⟩ := H
     refine xp (.int .i64 f_14) rfl rfl (p_field1 (off := 0) (ft := 31) rfl Try.underlying73 rfl Try.underlying31 rfl rfl hff_14) ?_
     refine xp _ rfl rfl (p_ne rfl rfl rfl) ?_
     refine xo_end ?_
     refine r_condB (b := (!decide (f_14 = 0))) rfl H ?_ ?_
     ·clear H; intro hb6 H
      refine r_seq ?_
      refine r_region ?_
      refine xs (.bool true) rfl rfl rfl rfl ?_
      refine xo_end ?_
      exact r_ret (fn := Try.f9) Try.func9 (res_1 rfl ⟨by decide, rfl⟩) H
     ·clear H; intro hb6 H
      refine r_skip ?_
      refine r_seq ?_
      refine r_region ?_
      refine xm (.pointer m7) rfl rfl rfl rfl ?_
      refine xo_eff rfl (wo rfl) (e_call (fn := Try.f50) H rfl rfl Try.func50 rfl rfl rfl) ?_
      rintro _ w_7 ⟨v_16, rfl, H⟩
      refine xs (Sl.v v_16) rfl rfl rfl rfl ?_
      refine xo_end ?_
      refine r_seq ?_
      refine r_region ?_
      refine xm (Sl.v v_16) rfl rfl rfl rfl ?_
      refine xm (Sl.v v_16) rfl rfl rfl rfl ?_
      refine xo_eff rfl (wo rfl) (e_call (fn := Try.f51) H rfl rfl Try.func51 rfl rfl rfl) ?_
      rintro _ w_8 ⟨v_18, rfl, H⟩
      obtain ⟨p_19, hap_19, hlp_19, hup_19, H⟩ := H
      refine xp _ rfl rfl (p_indexAddr (s := v_16) (ad := p_19) (size := 4) rfl Try.underlying100 Try.ti104 rfl rfl hap_19 hlp_19 hup_19) ?_
      obtain ⟨adv_20, v_20, hev_20, hnv_20, hcv_20, H⟩ := H
      refine xo_read (v := (.agg v_20)) rfl (wo rfl) (rd_loadN (ad := adv_20) rfl Try.underlying104 rfl Try.ti104 (by show Value.pointer _ = _; rw [hev_20]) hnv_20 hcv_20) ?_
      refine xo_eff rfl (wo rfl) (e_alloc rfl Try.ti104 H) ?_
      rintro _ w_9 ⟨a_21, rfl, H⟩
      refine xo_effN rfl (wo rfl) (e_storeN rfl Try.ti104 rfl rfl H) ?_
      intro _ w_10 H
      refine xo_end ?_
      refine r_seq ?_
      refine r_seq ?_
      refine r_region ?_
      refine xm (Sl.v later1) rfl rfl rfl rfl ?_
      refine xp (.int .i64 (later1.len : Int)) rfl rfl (p_len rfl Try.underlying63 rfl) ?_
      refine xm (.int .i64 0) rfl rfl rfl rfl ?_
      refine xo_end ?_
      refine r_block ?_
      refine ru 7 (.pointer m7) rfl ?_
      refine ru 11 (.pointer (some a_21)) rfl ?_
      refine ru 52 (Sl.v later1) rfl ?_
      refine ru 53 (.int .i64 (later1.len : Int)) rfl ?_
      refine ru 54 (.int .i64 0) rfl ?_
      refine r_loopJ (fun (s : Option Addr × Option Addr × Sl × Int × Int) σ => upd 54 (.int .i64 s.2.2.2.2) (upd 53 (.int .i64 s.2.2.2.1) (upd 52 (Sl.v s.2.2.1) (upd 11 (.pointer s.2.1) (upd 7 (.pointer s.1) (σ)))))) (s := (m7, (some a_21), later1, (later1.len : Int), 0)) H ?_
      clear H
      rintro ag7 ⟨m7, want11, t52, t53, t54⟩ σ w H hag7
      replace H : sporranlaw15_ModelFrozen_b2 R ag4 ag7 m7 want11 t52 t53 t54 w := H
      show Runs _ _ _ _ _ (upd 54 (.int .i64 t54) (upd 53 (.int .i64 t53) (upd 52 (Sl.v t52) (upd 11 (.pointer want11) (upd 7 (.pointer m7) (σ)))))) _
      unfold sporranlaw15_ModelFrozen_b2 at H
      refine r_seq ?_
      refine r_region ?_
      refine xp _ rfl rfl (p_lt rfl rfl rfl) ?_
      refine xo_end ?_
      refine r_seq ?_
      refine r_condB (b := (decide (t54 < t53))) rfl H ?_ ?_
      ·clear H; intro hb8 H
       refine r_skip ?_
       refine r_seqJ (fun (s : Option Addr × Option Addr × Sl × Int × Int) σ => upd 54 (.int .i64 s.2.2.2.2) (upd 53 (.int .i64 s.2.2.2.1) (upd 52 (Sl.v s.2.2.1) (upd 11 (.pointer s.2.1) (upd 7 (.pointer s.1) (σ)))))) (fun (s : Option Addr × Option Addr × Sl × Int × Int) w => sporranlaw15_ModelFrozen_k3 R ag4 ag7 s.1 s.2.1 s.2.2.1 s.2.2.2.1 s.2.2.2.2 w) ?_ ?_
       ·rintro ⟨m7, want11, t52, t53, t54⟩ σ w H
        replace H : sporranlaw15_ModelFrozen_k3 R ag4 ag7 m7 want11 t52 t53 t54 w := H
        show Runs _ _ _ _ _ (upd 54 (.int .i64 t54) (upd 53 (.int .i64 t53) (upd 52 (Sl.v t52) (upd 11 (.pointer want11) (upd 7 (.pointer m7) (σ)))))) _
        unfold sporranlaw15_ModelFrozen_k3 at H
        refine r_region ?_
        refine xp _ rfl rfl (p_add rfl rfl rfl) ?_
        refine xm (.int .i64 (IntKind.i64.wrap (t54 + 1))) rfl rfl rfl rfl ?_
        refine xo_end ?_
        refine ru 7 (.pointer m7) rfl ?_
        refine ru 11 (.pointer want11) rfl ?_
        refine ru 52 (Sl.v t52) rfl ?_
        refine ru 53 (.int .i64 t53) rfl ?_
        refine ru 54 (.int .i64 (IntKind.i64.wrap (t54 + 1))) rfl ?_
        exact hag7 (m7, want11, t52, t53, (IntKind.i64.wrap (t54 + 1))) _ _ H
       ·intro J9
        refine r_block ?_
        refine r_seq ?_
        refine r_region ?_
        obtain ⟨p_22, hap_22, hlp_22, hup_22, H⟩ := H
        refine xp _ rfl rfl (p_indexAddr (s := t52) (ad := p_22) (size := 53) rfl Try.underlying63 Try.ti67 rfl rfl hap_22 hlp_22 hup_22) ?_
        obtain ⟨adv_23, v_23, hev_23, hnv_23, hcv_23, H⟩ := H
        refine xo_read (v := (.agg v_23)) rfl (wo rfl) (rd_loadN (ad := adv_23) rfl Try.underlying67 rfl Try.ti67 (by show Value.pointer _ = _; rw [hev_23]) hnv_23 hcv_23) ?_
        refine xo_eff rfl (wo rfl) (e_alloc rfl Try.ti67 H) ?_
        rintro _ w_11 ⟨a_24, rfl, H⟩
        refine xo_effN rfl (wo rfl) (e_storeN rfl Try.ti67 rfl rfl H) ?_
        intro _ w_12 H
        refine xo_end ?_
        refine r_seq ?_
        refine r_seq ?_
        refine r_topJ (fun (s : Option Addr × Option Addr × Option Addr × Sl × Int × Int × Bool) σ => upd 65 (.bool s.2.2.2.2.2.2) (upd 54 (.int .i64 s.2.2.2.2.2.1) (upd 53 (.int .i64 s.2.2.2.2.1) (upd 52 (Sl.v s.2.2.2.1) (upd 13 (.pointer s.2.2.1) (upd 11 (.pointer s.2.1) (upd 7 (.pointer s.1) (σ)))))))) (fun (s : Option Addr × Option Addr × Option Addr × Sl × Int × Int × Bool) w => sporranlaw15_ModelFrozen_k4 R ag4 ag7 s.1 s.2.1 s.2.2.1 s.2.2.2.1 s.2.2.2.2.1 s.2.2.2.2.2.1 s.2.2.2.2.2.2 w) ?_ ?_
        ·rintro ⟨m7, want11, o13, t52, t53, t54, t65⟩ σ w H
         replace H : sporranlaw15_ModelFrozen_k4 R ag4 ag7 m7 want11 o13 t52 t53 t54 t65 w := H
         show Runs _ _ _ _ _ (upd 65 (.bool t65) (upd 54 (.int .i64 t54) (upd 53 (.int .i64 t53) (upd 52 (Sl.v t52) (upd 13 (.pointer o13) (upd 11 (.pointer want11) (upd 7 (.pointer m7) (σ)))))))) _
         unfold sporranlaw15_ModelFrozen_k4 at H
         refine r_condB (b := t65) rfl H ?_ ?_
         ·clear H; intro hb11 H
          refine r_exit rfl ?_
          refine ru 7 (.pointer m7) rfl ?_
          refine ru 11 (.pointer want11) rfl ?_
          refine ru 52 (Sl.v t52) rfl ?_
          refine ru 53 (.int .i64 t53) rfl ?_
          refine ru 54 (.int .i64 t54) rfl ?_
          exact J9 (m7, want11, t52, t53, t54) _ _ H
         ·clear H; intro hb11 H
          refine r_skip ?_
          refine r_region ?_
          refine xm (.pointer m7) rfl rfl rfl rfl ?_
          obtain ⟨adv_25, v_25, hev_25, hnv_25, hcv_25, H⟩ := H
          refine xo_read (v := (.agg v_25)) rfl (wo rfl) (rd_loadN (ad := adv_25) rfl Try.underlying67 rfl Try.ti67 (by show Value.pointer _ = _; rw [hev_25]) hnv_25 hcv_25) ?_
          refine xo_eff rfl (wo rfl) (e_call (fn := Try.f37) H rfl rfl Try.func37 rfl rfl rfl) ?_
          rintro _ w_13 ⟨v_27, rfl, H⟩
          refine xo_end ?_
          refine r_inBlock ?_
          refine ru 7 (.pointer m7) rfl ?_
          refine ru 11 (.pointer want11) rfl ?_
          refine ru 52 (Sl.v t52) rfl ?_
          refine ru 53 (.int .i64 t53) rfl ?_
          refine ru 54 (.int .i64 t54) rfl ?_
          exact J9 (m7, want11, t52, t53, t54) _ _ H
        ·intro J10
         refine r_region ?_
         refine xp _ rfl rfl (p_fieldAddr (off := 0) (ft := 3) (size := 1) rfl Try.underlying67 rfl Try.ti3 (by decide) rfl rfl) ?_
         obtain ⟨adv_28, v_28, hev_28, hcv_28, H⟩ := H
         refine xr (.int .i64 v_28) rfl (wo rfl) rfl Try.underlying3 rfl rfl hev_28 hcv_28 ?_
         refine xp _ rfl rfl (p_eq rfl rfl rfl) ?_
         refine xm (.bool (decide (v_28 = 2))) rfl rfl rfl rfl ?_
         refine ifB_cases H ?_ ?_
         ·clear H; intro hb12 H
          refine xo_pure (v := (.pointer (some (a_24.add 1)))) rfl (wy 61 rfl rfl rfl hb12) (p_fieldAddr (off := 1) (ft := 9) (size := 1) rfl Try.underlying67 rfl Try.ti9 (by decide) rfl rfl) ?_
          obtain ⟨adv_29, v_29, hev_29, hcv_29, H⟩ := H
          refine xr (.string v_29) rfl (wy 61 rfl rfl rfl hb12) rfl Try.underlying9 rfl rfl hev_29 hcv_29 ?_
          refine xo_pure (v := (.bool (seq v_29 (ByteArray.mk #[107, 101, 112, 116, 45, 97, 115, 45, 105, 116, 45, 105, 115])))) rfl (wy 61 rfl rfl rfl hb12) (p_seq rfl rfl rfl) ?_
          refine xp (.bool (seq v_29 (ByteArray.mk #[107, 101, 112, 116, 45, 97, 115, 45, 105, 116, 45, 105, 115]))) rfl rfl (p_pickT rfl rfl hb12 rfl) ?_
          refine xo_end ?_
          refine ru 7 (.pointer m7) rfl ?_
          refine ru 11 (.pointer want11) rfl ?_
          refine ru 13 (.pointer (some a_24)) rfl ?_
          refine ru 52 (Sl.v t52) rfl ?_
          refine ru 53 (.int .i64 t53) rfl ?_
          refine ru 54 (.int .i64 t54) rfl ?_
          refine ru 65 (.bool (seq v_29 (ByteArray.mk #[107, 101, 112, 116, 45, 97, 115, 45, 105, 116, 45, 105, 115]))) rfl ?_
          exact J10 (m7, want11, (some a_24), t52, t53, t54, (seq v_29 (ByteArray.mk #[107, 101, 112, 116, 45, 97, 115, 45, 105, 116, 45, 105, 115]))) _ _ H
         ·clear H; intro hb12 H
          refine xo_skip rfl (wn 61 rfl rfl rfl hb12) ?_
          refine xo_skip rfl (wn 61 rfl rfl rfl hb12) ?_
          refine xo_skip rfl (wn 61 rfl rfl rfl hb12) ?_
          refine xp (.bool false) rfl rfl (p_pickF rfl rfl hb12 rfl) ?_
          refine xo_end ?_
          refine ru 7 (.pointer m7) rfl ?_
          refine ru 11 (.pointer want11) rfl ?_
          refine ru 13 (.pointer (some a_24)) rfl ?_
          refine ru 52 (Sl.v t52) rfl ?_
          refine ru 53 (.int .i64 t53) rfl ?_
          refine ru 54 (.int .i64 t54) rfl ?_
          refine ru 65 (.bool false) rfl ?_
          exact J10 (m7, want11, (some a_24), t52, t53, t54, false) _ _ H
      ·clear H; intro hb8 H
       refine r_exit rfl ?_
       refine r_seq ?_
       refine r_region ?_
       refine xm (.pointer m7) rfl rfl rfl rfl ?_
       refine xo_eff rfl (wo rfl) (e_call (fn := Try.f50) H rfl rfl Try.func50 rfl rfl rfl) ?_
       rintro _ w_14 ⟨v_31, rfl, H⟩
       refine xs (Sl.v v_31) rfl rfl rfl rfl ?_
       refine xo_end ?_
       refine r_seq ?_
       refine r_region ?_
       refine xm (Sl.v v_31) rfl rfl rfl rfl ?_
       refine xo_eff rfl (wo rfl) (e_call (fn := Try.f51) H rfl rfl Try.func51 rfl rfl rfl) ?_
       rintro _ w_15 ⟨v_33, rfl, H⟩
       refine xs (.int .i64 v_33) rfl rfl rfl rfl ?_
       refine xo_end ?_
       refine r_seq ?_
       refine r_draw #[[], [0], [0, 1], [0, 1, 2], [0, 1, 2, 3], [0, 1, 2, 3, 4], [0, 1, 2, 3, 4, 5], [0, 1, 2, 3, 4, 5, 6], [0, 1, 2, 3, 4, 5, 6], [0, 1, 2, 3, 4, 5, 6], [0, 1, 2, 3, 4, 5, 6, 9], [0, 1, 2, 3, 4, 5, 6, 7, 8, 9, 10], [0, 1, 2, 3, 4, 5, 6], [0, 1, 2, 3, 4, 5, 6, 12], [0, 1, 2, 3, 4, 5, 6, 7, 8, 9, 10, 11, 12, 13], [0, 1, 2, 3, 4, 5, 6, 7, 8, 9, 10, 11, 12, 13, 14], [0, 1, 2, 3, 4, 5, 6, 7, 8, 9, 10, 11, 12, 13, 14, 15]] 17 rfl rfl ?_
       refine am 0 (.int .i64 v_33) rfl rfl rfl rfl rfl ?_
       refine ap 1 _ rfl rfl rfl (p_ge rfl rfl rfl) ?_
       refine am 2 (.bool (decide (0 ≤ v_33))) rfl rfl rfl rfl rfl ?_
       refine ifB_cases H ?_ ?_
       ·clear H; intro hb13 H
        obtain ⟨p_34, hpp_34, H⟩ := H
        refine xa_pure (v := (.pointer (some (p_34.add 2)))) 3 (by decide +kernel) rfl rfl (wy 76 rfl rfl rfl hb13) (p_fieldAddr (off := 2) (ft := 4) (size := 1) rfl Try.underlying104 rfl Try.ti4 (by decide) rfl hpp_34) ?_
        obtain ⟨adv_35, v_35, hev_35, hcv_35, H⟩ := H
        refine ar 4 (.bool v_35) rfl rfl (wy 76 rfl rfl rfl hb13) rfl Try.underlying4 rfl rfl hev_35 hcv_35 ?_
        refine ap 5 (.bool v_35) rfl rfl rfl (p_pickT rfl rfl hb13 rfl) ?_
        refine am 6 (.bool v_35) rfl rfl rfl rfl rfl ?_
        refine ifB_cases H ?_ ?_
        ·clear H; intro hb14 H
         refine xa_pure (v := (Sl.v v_31)) 7 (by decide +kernel) rfl rfl (wy 80 rfl rfl rfl hb14) (p_move rfl rfl) ?_
         refine xa_pure (v := (.int .i64 v_33)) 8 (by decide +kernel) rfl rfl (wy 80 rfl rfl rfl hb14) (p_move rfl rfl) ?_
         refine xa_pure (v := (.int .i64 v_33)) 9 (by decide +kernel) rfl rfl (wy 80 rfl rfl rfl hb14) (p_move rfl rfl) ?_
         refine xa_pure (v := (.int .i64 (IntKind.i64.wrap (v_33 + 1)))) 10 (by decide +kernel) rfl rfl (wy 80 rfl rfl rfl hb14) (p_add rfl rfl rfl) ?_
         obtain ⟨ls_36, hs_36, ms_36, c3s_36, c4s_36, c5s_36, c6s_36, c7s_36, H⟩ := H
         obtain ⟨s_36, hds_36⟩ : ∃ q : Sl, q = ⟨if ms_36 = ls_36 then v_31.a else v_31.a.map (·.add (ls_36 * 4)), hs_36 - ls_36, ms_36 - ls_36⟩ := ⟨_, rfl⟩
         rw [← hds_36] at H
         refine xa_pure (v := (Sl.v s_36)) 11 (by decide +kernel) rfl rfl (wy 80 rfl rfl rfl hb14) (by rw [hds_36]; exact p_slice (s := v_31) (size := 4) (vl := some v_33) (vh := some (IntKind.i64.wrap (v_33 + 1))) (vm := none) rfl Try.underlying100 Try.ti104 rfl (OptI.some rfl) (OptI.some rfl) OptI.none c3s_36 c4s_36 c5s_36 c6s_36 c7s_36) ?_
         obtain ⟨adv_37, v_37, hev_37, hnv_37, hcv_37, H⟩ := H
         refine xa_read (v := (.agg v_37)) (S := (fun w => Row w adv_37 v_37)) 12 (by decide +kernel) rfl rfl (wy 80 rfl rfl rfl hb14) (fun w hc => rd_loadN (ad := adv_37) rfl Try.underlying104 rfl Try.ti104 (by show Value.pointer _ = _; rw [hev_37]) hnv_37 hc) hcv_37 ?_
         obtain ⟨hzq_39, H⟩ := H
         refine xa_eff 13 [] (by decide +kernel) rfl rfl rfl (wy 80 rfl rfl rfl hb14) (e_buildAgg (size := 4) H rfl Try.underlying100 Try.ti104 (by decide) (by decide) rfl hzq_39) ?_
         rintro _ w_17 ⟨a_38, rfl, H⟩
         refine ⟨AllHeld.nil, ?_⟩
         refine xa_eff 14 [] (by decide +kernel) rfl rfl rfl (wy 80 rfl rfl rfl hb14) (e_call (fn := Try.f52) H rfl rfl Try.func52 rfl rfl rfl) ?_
         rintro _ w_18 ⟨v_41, rfl, H⟩
         refine ⟨AllHeld.nil, ?_⟩
         refine ap 15 (.bool v_41) rfl rfl rfl (p_pickT rfl rfl hb14 rfl) ?_
         refine as_ 16 (.bool v_41) rfl rfl rfl rfl rfl ?_
         refine ax ?_
         exact r_ret (fn := Try.f9) Try.func9 (res_1 rfl ⟨by decide, rfl⟩) H
        ·clear H; intro hb14 H
         refine ak 7 rfl rfl (wn 80 rfl rfl rfl hb14) ?_
         refine ak 8 rfl rfl (wn 80 rfl rfl rfl hb14) ?_
         refine ak 9 rfl rfl (wn 80 rfl rfl rfl hb14) ?_
         refine ak 10 rfl rfl (wn 80 rfl rfl rfl hb14) ?_
         refine ak 11 rfl rfl (wn 80 rfl rfl rfl hb14) ?_
         refine ak 12 rfl rfl (wn 80 rfl rfl rfl hb14) ?_
         refine ak 13 rfl rfl (wn 80 rfl rfl rfl hb14) ?_
         refine ak 14 rfl rfl (wn 80 rfl rfl rfl hb14) ?_
         refine ap 15 (.bool false) rfl rfl rfl (p_pickF rfl rfl hb14 rfl) ?_
         refine as_ 16 (.bool false) rfl rfl rfl rfl rfl ?_
         refine ax ?_
         exact r_ret (fn := Try.f9) Try.func9 (res_1 rfl ⟨by decide, rfl⟩) H
       ·clear H; intro hb13 H
        refine ak 3 rfl rfl (wn 76 rfl rfl rfl hb13) ?_
        refine ak 4 rfl rfl (wn 76 rfl rfl rfl hb13) ?_
        refine ap 5 (.bool false) rfl rfl rfl (p_pickF rfl rfl hb13 rfl) ?_
        refine am 6 (.bool false) rfl rfl rfl rfl rfl ?_
        refine ak 7 rfl rfl (wn 80 rfl rfl rfl rfl) ?_
        refine ak 8 rfl rfl (wn 80 rfl rfl rfl rfl) ?_
        refine ak 9 rfl rfl (wn 80 rfl rfl rfl rfl) ?_
        refine ak 10 rfl rfl (wn 80 rfl rfl rfl rfl) ?_
        refine ak 11 rfl rfl (wn 80 rfl rfl rfl rfl) ?_
        refine ak 12 rfl rfl (wn 80 rfl rfl rfl rfl) ?_
        refine ak 13 rfl rfl (wn 80 rfl rfl rfl rfl) ?_
        refine ak 14 rfl rfl (wn 80 rfl rfl rfl rfl) ?_
        refine ap 15 (.bool false) rfl rfl rfl (p_pickF rfl rfl rfl rfl) ?_
        refine as_ 16 (.bool false) rfl rfl rfl rfl rfl ?_
        refine ax ?_
        exact r_ret (fn := Try.f9) Try.func9 (res_1 rfl ⟨by decide, rfl⟩) H
  ·intro J2
   refine r_region ?_
   refine xm (Sl.v before0) rfl rfl rfl rfl ?_
   refine xo_eff rfl (wo rfl) (e_call (fn := Try.f35) H rfl rfl Try.func35 rfl rfl rfl) ?_
   rintro _ w_19 ⟨v_43, rfl, H⟩
   refine xm (.bool v_43) rfl rfl rfl rfl ?_
   refine ifB_cases H ?_ ?_
   ·clear H; intro hb15 H
    refine xo_skip rfl (wn 19 rfl rfl rfl hb15) ?_
    refine xo_skip rfl (wn 19 rfl rfl rfl hb15) ?_
    refine xp (.bool true) rfl rfl (p_pickT rfl rfl hb15 rfl) ?_
    refine xm (.bool true) rfl rfl rfl rfl ?_
    refine xo_skip rfl (wn 23 rfl rfl rfl rfl) ?_
    refine xo_skip rfl (wn 23 rfl rfl rfl rfl) ?_
    refine xo_skip rfl (wn 23 rfl rfl rfl rfl) ?_
    refine xp (.bool true) rfl rfl (p_pickT rfl rfl rfl rfl) ?_
    refine xo_end ?_
    refine ru 0 (Sl.v before0) rfl ?_
    refine ru 1 (Sl.v later1) rfl ?_
    refine ru 2 (.string name2) rfl ?_
    refine ru 27 (.bool true) rfl ?_
    exact J2 (before0, later1, name2, true) _ _ H
   ·clear H; intro hb15 H
    refine xo_pure (v := (Sl.v later1)) rfl (wy 19 rfl rfl rfl hb15) (p_move rfl rfl) ?_
    refine xo_eff rfl (wy 19 rfl rfl rfl hb15) (e_call (fn := Try.f35) H rfl rfl Try.func35 rfl rfl rfl) ?_
    rintro _ w_20 ⟨v_45, rfl, H⟩
    refine xp (.bool v_45) rfl rfl (p_pickF rfl rfl hb15 rfl) ?_
    refine xm (.bool v_45) rfl rfl rfl rfl ?_
    refine ifB_cases H ?_ ?_
    ·clear H; intro hb16 H
     refine xo_skip rfl (wn 23 rfl rfl rfl hb16) ?_
     refine xo_skip rfl (wn 23 rfl rfl rfl hb16) ?_
     refine xo_skip rfl (wn 23 rfl rfl rfl hb16) ?_
     refine xp (.bool true) rfl rfl (p_pickT rfl rfl hb16 rfl) ?_
     refine xo_end ?_
     refine ru 0 (Sl.v before0) rfl ?_
     refine ru 1 (Sl.v later1) rfl ?_
     refine ru 2 (.string name2) rfl ?_
     refine ru 27 (.bool true) rfl ?_
     exact J2 (before0, later1, name2, true) _ _ H
    ·clear H; intro hb16 H
     refine xo_pure (v := (.string name2)) rfl (wy 23 rfl rfl rfl hb16) (p_move rfl rfl) ?_
     refine xo_pure (v := (.int .i64 (name2.size : Int))) rfl (wy 23 rfl rfl rfl hb16) (p_lenS rfl Try.underlying9 rfl) ?_
     refine xo_pure (v := (.bool (decide (100 < (name2.size : Int))))) rfl (wy 23 rfl rfl rfl hb16) (p_gt rfl rfl rfl) ?_
     refine xp (.bool (decide (100 < (name2.size : Int)))) rfl rfl (p_pickF rfl rfl hb16 rfl) ?_
     refine xo_end ?_
     refine ru 0 (Sl.v before0) rfl ?_
     refine ru 1 (Sl.v later1) rfl ?_
     refine ru 2 (.string name2) rfl ?_
     refine ru 27 (.bool (decide (100 < (name2.size : Int)))) rfl ?_
     exact J2 (before0, later1, name2, (decide (100 < (name2.size : Int)))) _ _ H

/-! 10 sporran/sporranlaw15.ModelQuiet -/
def sporranlaw15_ModelQuiet_k1 (R : Value → World → Prop) (ag3 : (Option Addr × Sl × Int × Int) → World → Prop) (m3 : Option Addr) (t13 : Sl) (t14 : Int) (t15 : Int) (t52 : Bool) (w : World) : Prop :=
 IfB t52 (
  R (.bool false) w) (
  ag3 (m3, t13, t14, (IntKind.i64.wrap (t15 + 1))) w)
def sporranlaw15_ModelQuiet_b0 (R : Value → World → Prop) (ag3 : (Option Addr × Sl × Int × Int) → World → Prop) (m3 : Option Addr) (t13 : Sl) (t14 : Int) (t15 : Int) (w : World) : Prop :=
 IfB (decide (t15 < t14)) (
  Ix t13 t15 fun p_7 =>
  LdN 53 (some (p_7.add (t15.toNat * 53))) w fun v_8 =>
  New Try.z67 67 w fun a_9 w_4 =>
  StN 53 (some a_9) v_8 w_4 fun w_5 =>
  CallF Try.prog 50 #[(.pointer m3)] w_5 fun u_10 w_6 => As Sl.v u_10 fun v_11 =>
  LdN 53 (some a_9) w_6 fun v_12 =>
  CallF Try.prog 37 #[(.pointer m3), (.agg v_12)] w_6 fun u_13 w_7 => As Value.agg u_13 fun v_14 =>
  New Try.z73 73 w_7 fun a_15 w_8 =>
  StN 51 (some a_15) v_14 w_8 fun w_9 =>
  Ld (Value.int .i64) (some (a_15.add 0)) w_9 fun v_16 =>
  IfB (!decide (v_16 = 0)) (
   CallF Try.prog 50 #[(.pointer m3)] w_9 fun u_17 w_10 => As Sl.v u_17 fun v_18 =>
   CallF Try.prog 52 #[(Sl.v v_18), (Sl.v v_11)] w_10 fun u_19 w_11 => As Value.bool u_19 fun v_20 =>
   IfB (!v_20) (
    sporranlaw15_ModelQuiet_k1 R ag3 m3 t13 t14 t15 true w_11) (
    Ld (Value.int .i64) (some (a_15.add 0)) w_11 fun v_21 =>
    IfB (!decide (v_21 = 0)) (
     LdN 51 (some a_15) w_11 fun v_22 =>
     Ld (Value.int .i64) (some (a_15.add 0)) w_11 fun v_23 =>
     Built #[(0, 1), (1, 1), (2, 48), (50, 1)] Try.z73 [(0, (.int .i64 v_23))] fun c_24 =>
     CallF Try.prog 54 #[(.agg v_22), (.agg c_24)] w_11 fun u_25 w_12 => As Value.bool u_25 fun v_26 =>
     sporranlaw15_ModelQuiet_k1 R ag3 m3 t13 t14 t15 (!v_26) w_12) (
     sporranlaw15_ModelQuiet_k1 R ag3 m3 t13 t14 t15 false w_11))) (
   Ld (Value.int .i64) (some (a_9.add 0)) w_9 fun v_27 =>
   CallF Try.prog 53 #[(.int .i64 v_27)] w_9 fun u_28 w_13 => As Value.bool u_28 fun v_29 =>
   IfB (!v_29) (
    CallF Try.prog 50 #[(.pointer m3)] w_13 fun u_30 w_14 => As Sl.v u_30 fun v_31 =>
    CallF Try.prog 52 #[(Sl.v v_31), (Sl.v v_11)] w_14 fun u_32 w_15 => As Value.bool u_32 fun v_33 =>
    IfB (!v_33) (
     sporranlaw15_ModelQuiet_k1 R ag3 m3 t13 t14 t15 true w_15) (
     Ld (Value.int .i64) (some (a_15.add 0)) w_15 fun v_34 =>
     IfB (!decide (v_34 = 0)) (
      LdN 51 (some a_15) w_15 fun v_35 =>
      Ld (Value.int .i64) (some (a_15.add 0)) w_15 fun v_36 =>
      Built #[(0, 1), (1, 1), (2, 48), (50, 1)] Try.z73 [(0, (.int .i64 v_36))] fun c_37 =>
      CallF Try.prog 54 #[(.agg v_35), (.agg c_37)] w_15 fun u_38 w_16 => As Value.bool u_38 fun v_39 =>
      sporranlaw15_ModelQuiet_k1 R ag3 m3 t13 t14 t15 (!v_39) w_16) (
      sporranlaw15_ModelQuiet_k1 R ag3 m3 t13 t14 t15 false w_15))) (
    Ld (Value.int .i64) (some (a_15.add 0)) w_13 fun v_40 =>
    IfB (!decide (v_40 = 0)) (
     LdN 51 (some a_15) w_13 fun v_41 =>
     Ld (Value.int .i64) (some (a_15.add 0)) w_13 fun v_42 =>
     Built #[(0, 1), (1, 1), (2, 48), (50, 1)] Try.z73 [(0, (.int .i64 v_42))] fun c_43 =>
     CallF Try.prog 54 #[(.agg v_41), (.agg c_43)] w_13 fun u_44 w_17 => As Value.bool u_44 fun v_45 =>
     sporranlaw15_ModelQuiet_k1 R ag3 m3 t13 t14 t15 (!v_45) w_17) (
     sporranlaw15_ModelQuiet_k1 R ag3 m3 t13 t14 t15 false w_13)))) (
  R (.bool true) w)
def sporranlaw15_ModelQuiet (R : Value → World → Prop) (ops0 : Sl) (w : World) : Prop :=
 CallF Try.prog 34 #[] w fun u_1 w_1 => As Value.bool u_1 fun v_2 =>
 IfB (!v_2) (
  R (.bool false) w_1) (
  CallF Try.prog 35 #[(Sl.v ops0)] w_1 fun u_3 w_2 => As Value.bool u_3 fun v_4 =>
  IfB v_4 (
   R (.bool true) w_2) (
   CallF Try.prog 36 #[] w_2 fun u_5 w_3 => As Value.pointer u_5 fun v_6 =>
   Lp (fun ag (s : Option Addr × Sl × Int × Int) w => sporranlaw15_ModelQuiet_b0 R ag s.1 s.2.1 s.2.2.1 s.2.2.2 w) (v_6, ops0, (ops0.len : Int), 0) w_3))
theorem sporranlaw15_ModelQuiet_ok (R : Value → World → Prop) (ops0 : Sl) (w : World) (H : sporranlaw15_ModelQuiet R ops0 w) : CallF Try.prog 10 #[(Sl.v ops0)] w R := by
 refine calls_of_runs (fn := Try.f10) Try.func10 rfl (Nat.le_of_ble_eq_true rfl) ?_
 show Runs _ _ 54 _ _ _ _
 unfold sporranlaw15_ModelQuiet at H
 refine ru 0 (Sl.v ops0) rfl ?_
 refine r_seq ?_
 refine r_region ?_
 refine xs (.bool false) rfl rfl rfl rfl ?_
 refine xo_end ?_
 refine r_seq ?_
 refine r_seq ?_
 refine r_region ?_
 refine xo_eff rfl (wo rfl) (e_call (fn := Try.f34) H rfl rfl Try.func34 rfl rfl rfl) ?_
 rintro _ w_1 ⟨v_2, rfl, H⟩
 refine xp (.bool (!v_2)) rfl rfl (p_not rfl rfl) ?_
 refine xo_end ?_
 refine r_condB (b := (!v_2)) rfl H ?_ ?_
 ·clear H; intro hb1 H
  refine r_seq ?_
  refine r_region ?_
  refine xs (.bool false) rfl rfl rfl rfl ?_
  refine xo_end ?_
  exact r_ret (fn := Try.f10) Try.func10 (res_1 rfl ⟨by decide, rfl⟩) H
 ·clear H; intro hb1 H
  refine r_skip ?_
  refine r_seq ?_
  refine r_seq ?_
  refine r_region ?_
  refine xm (Sl.v ops0) rfl rfl rfl rfl ?_
  refine xo_eff rfl (wo rfl) (e_call (fn := Try.f35) H rfl rfl Try.func35 rfl rfl rfl) ?_
  rintro _ w_2 ⟨v_4, rfl, H⟩
  refine xo_end ?_
  refine r_condB (b := v_4) rfl H ?_ ?_
  ·clear H; intro hb2 H
   refine r_seq ?_
   refine r_region ?_
   refine xs (.bool true) rfl rfl rfl rfl ?_
   refine xo_end ?_
   exact r_ret (fn := Try.f10) Try.func10 (res_1 rfl ⟨by decide, rfl⟩) H
  ·clear H; intro hb2 H
   refine r_skip ?_
   refine r_seq ?_
   refine r_region ?_
   refine xo_eff rfl (wo rfl) (e_call (fn := Try.f36) H rfl rfl Try.func36 rfl rfl rfl) ?_
   rintro _ w_3 ⟨v_6, rfl, H⟩
   refine xs (.pointer v_6) rfl rfl rfl rfl ?_
   refine xo_end ?_
   refine r_seq ?_
   refine r_seq ?_
   refine r_region ?_
   refine xm (Sl.v ops0) rfl rfl rfl rfl ?_
   refine xp (.int .i64 (ops0.len : Int)) rfl rfl (p_len rfl Try.underlying63 rfl) ?_
   refine xm (.int .i64 0) rfl rfl rfl rfl ?_
   refine xo_end ?_
   refine r_block ?_
   refine ru 3 (.pointer v_6) rfl ?_
   refine ru 13 (Sl.v ops0) rfl ?_
   refine ru 14 (.int .i64 (ops0.len : Int)) rfl ?_
   refine ru 15 (.int .i64 0) rfl ?_
   refine r_loopJ (fun (s : Option Addr × Sl × Int × Int) σ => upd 15 (.int .i64 s.2.2.2) (upd 14 (.int .i64 s.2.2.1) (upd 13 (Sl.v s.2.1) (upd 3 (.pointer s.1) (σ))))) (s := (v_6, ops0, (ops0.len : Int), 0)) H ?_
   clear H
   rintro ag3 ⟨m3, t13, t14, t15⟩ σ w H hag3
   replace H : sporranlaw15_ModelQuiet_b0 R ag3 m3 t13 t14 t15 w := H
   show Runs _ _ _ _ _ (upd 15 (.int .i64 t15) (upd 14 (.int .i64 t14) (upd 13 (Sl.v t13) (upd 3 (.pointer m3) (σ))))) _
   unfold sporranlaw15_ModelQuiet_b0 at H
   refine r_seq ?_
   refine r_region ?_
   refine xp _ rfl rfl (p_lt rfl rfl rfl) ?_
   refine xo_end ?_
   refine r_seq ?_
   refine r_condB (b := (decide (t15 < t14))) rfl H ?_ ?_
   ·clear H; intro hb4 H
    refine r_skip ?_
    refine r_seq ?_
    refine r_block ?_
    refine r_seq ?_
    refine r_region ?_
    obtain ⟨p_7, hap_7, hlp_7, hup_7, H⟩ := H
    refine xp _ rfl rfl (p_indexAddr (s := t13) (ad := p_7) (size := 53) rfl Try.underlying63 Try.ti67 rfl rfl hap_7 hlp_7 hup_7) ?_
    obtain ⟨adv_8, v_8, hev_8, hnv_8, hcv_8, H⟩ := H
    refine xo_read (v := (.agg v_8)) rfl (wo rfl) (rd_loadN (ad := adv_8) rfl Try.underlying67 rfl Try.ti67 (by show Value.pointer _ = _; rw [hev_8]) hnv_8 hcv_8) ?_
    refine xo_eff rfl (wo rfl) (e_alloc rfl Try.ti67 H) ?_
    rintro _ w_4 ⟨a_9, rfl, H⟩
    refine xo_effN rfl (wo rfl) (e_storeN rfl Try.ti67 rfl rfl H) ?_
    intro _ w_5 H
    refine xo_end ?_
    refine r_seq ?_
    refine r_region ?_
    refine xm (.pointer m3) rfl rfl rfl rfl ?_
    refine xo_eff rfl (wo rfl) (e_call (fn := Try.f50) H rfl rfl Try.func50 rfl rfl rfl) ?_
    rintro _ w_6 ⟨v_11, rfl, H⟩
    refine xs (Sl.v v_11) rfl rfl rfl rfl ?_
    refine xo_end ?_
    refine r_seq ?_
    refine r_region ?_
    refine xm (.pointer m3) rfl rfl rfl rfl ?_
    obtain ⟨adv_12, v_12, hev_12, hnv_12, hcv_12, H⟩ := H
    refine xo_read (v := (.agg v_12)) rfl (wo rfl) (rd_loadN (ad := adv_12) rfl Try.underlying67 rfl Try.ti67 (by show Value.pointer _ = _; rw [hev_12]) hnv_12 hcv_12) ?_
    refine xo_eff rfl (wo rfl) (e_call (fn := Try.f37) H rfl rfl Try.func37 rfl rfl rfl) ?_
    rintro _ w_7 ⟨v_14, rfl, H⟩
    refine xo_eff rfl (wo rfl) (e_alloc rfl Try.ti73 H) ?_
    rintro _ w_8 ⟨a_15, rfl, H⟩
    refine xo_effN rfl (wo rfl) (e_storeN rfl Try.ti73 rfl rfl H) ?_
    intro _ w_9 H
    refine xo_end ?_
    refine r_seq ?_
    refine r_topJ (fun (s : Option Addr × Sl × Int × Int × Bool) σ => upd 52 (.bool s.2.2.2.2) (upd 15 (.int .i64 s.2.2.2.1) (upd 14 (.int .i64 s.2.2.1) (upd 13 (Sl.v s.2.1) (upd 3 (.pointer s.1) (σ)))))) (fun (s : Option Addr × Sl × Int × Int × Bool) w => sporranlaw15_ModelQuiet_k1 R ag3 s.1 s.2.1 s.2.2.1 s.2.2.2.1 s.2.2.2.2 w) ?_ ?_
    ·rintro ⟨m3, t13, t14, t15, t52⟩ σ w H
     replace H : sporranlaw15_ModelQuiet_k1 R ag3 m3 t13 t14 t15 t52 w := H
     show Runs _ _ _ _ _ (upd 52 (.bool t52) (upd 15 (.int .i64 t15) (upd 14 (.int .i64 t14) (upd 13 (Sl.v t13) (upd 3 (.pointer m3) (σ)))))) _
     unfold sporranlaw15_ModelQuiet_k1 at H
     refine r_condB (b := t52) rfl H ?_ ?_
     ·clear H; intro hb6 H
      refine r_seq ?_
      refine r_region ?_
      refine xs (.bool false) rfl rfl rfl rfl ?_
      refine xo_end ?_
      exact r_ret (fn := Try.f10) Try.func10 (res_1 rfl ⟨by decide, rfl⟩) H
     ·clear H; intro hb6 H
      refine r_skip ?_
      refine r_inBlock ?_
      refine r_region ?_
      refine xp _ rfl rfl (p_add rfl rfl rfl) ?_
      refine xm (.int .i64 (IntKind.i64.wrap (t15 + 1))) rfl rfl rfl rfl ?_
      refine xo_end ?_
      refine ru 3 (.pointer m3) rfl ?_
      refine ru 13 (Sl.v t13) rfl ?_
      refine ru 14 (.int .i64 t14) rfl ?_
      refine ru 15 (.int .i64 (IntKind.i64.wrap (t15 + 1))) rfl ?_
      exact hag3 (m3, t13, t14, (IntKind.i64.wrap (t15 + 1))) _ _ H
    ·intro J5
     refine r_region ?_
     refine xp _ rfl rfl (p_fieldAddr (off := 0) (ft := 31) (size := 1) rfl Try.underlying73 rfl Try.ti31 (by decide) rfl rfl) ?_
     obtain ⟨adv_16, v_16, hev_16, hcv_16, H⟩ := H
     refine xr (.int .i64 v_16) rfl (wo rfl) rfl Try.underlying31 rfl rfl hev_16 hcv_16 ?_
     refine xp _ rfl rfl (p_ne rfl rfl rfl) ?_
     refine xm (.bool (!decide (v_16 = 0))) rfl rfl rfl rfl ?_
     refine ifB_cases H ?_ ?_
     ·clear H; intro hb7 H
      refine xo_skip rfl (wn 27 rfl rfl rfl hb7) ?_
      refine xo_skip rfl (wn 27 rfl rfl rfl hb7) ?_
      refine xo_skip rfl (wn 27 rfl rfl rfl hb7) ?_
      refine xo_skip rfl (wn 27 rfl rfl rfl hb7) ?_
      refine xp (.bool true) rfl rfl (p_pickT rfl rfl hb7 rfl) ?_
      refine xm (.bool true) rfl rfl rfl rfl ?_
      refine xo_pure (v := (.pointer m3)) rfl (wy 33 rfl rfl rfl rfl) (p_move rfl rfl) ?_
      refine xo_eff rfl (wy 33 rfl rfl rfl rfl) (e_call (fn := Try.f50) H rfl rfl Try.func50 rfl rfl rfl) ?_
      rintro _ w_10 ⟨v_18, rfl, H⟩
      refine xo_pure (v := (Sl.v v_11)) rfl (wy 33 rfl rfl rfl rfl) (p_move rfl rfl) ?_
      refine xo_eff rfl (wy 33 rfl rfl rfl rfl) (e_call (fn := Try.f52) H rfl rfl Try.func52 rfl rfl rfl) ?_
      rintro _ w_11 ⟨v_20, rfl, H⟩
      refine xo_pure (v := (.bool (!v_20))) rfl (wy 33 rfl rfl rfl rfl) (p_not rfl rfl) ?_
      refine xp (.bool (!v_20)) rfl rfl (p_pickT rfl rfl rfl rfl) ?_
      refine xm (.bool (!v_20)) rfl rfl rfl rfl ?_
      refine ifB_cases H ?_ ?_
      ·clear H; intro hb8 H
       refine xo_skip rfl (wn 40 rfl rfl rfl hb8) ?_
       refine xo_skip rfl (wn 40 rfl rfl rfl hb8) ?_
       refine xo_skip rfl (wn 40 rfl rfl rfl hb8) ?_
       refine xo_skip rfl (wn 40 rfl rfl rfl hb8) ?_
       refine xo_skip rfl (wanted_undef (d := 44) rfl rfl (by decide) rfl) ?_
       refine xo_skip rfl (wanted_undef (d := 44) rfl rfl (by decide) rfl) ?_
       refine xo_skip rfl (wanted_undef (d := 44) rfl rfl (by decide) rfl) ?_
       refine xo_skip rfl (wanted_undef (d := 44) rfl rfl (by decide) rfl) ?_
       refine xo_skip rfl (wanted_undef (d := 44) rfl rfl (by decide) rfl) ?_
       refine xo_skip rfl (wanted_undef (d := 44) rfl rfl (by decide) rfl) ?_
       refine xo_skip rfl (wn 40 rfl rfl rfl hb8) ?_
       refine xp (.bool true) rfl rfl (p_pickT rfl rfl hb8 rfl) ?_
       refine xo_end ?_
       refine ru 3 (.pointer m3) rfl ?_
       refine ru 13 (Sl.v t13) rfl ?_
       refine ru 14 (.int .i64 t14) rfl ?_
       refine ru 15 (.int .i64 t15) rfl ?_
       refine ru 52 (.bool true) rfl ?_
       exact J5 (m3, t13, t14, t15, true) _ _ H
      ·clear H; intro hb8 H
       refine xo_pure (v := (.pointer (some (a_15.add 0)))) rfl (wy 40 rfl rfl rfl hb8) (p_fieldAddr (off := 0) (ft := 31) (size := 1) rfl Try.underlying73 rfl Try.ti31 (by decide) rfl rfl) ?_
       obtain ⟨adv_21, v_21, hev_21, hcv_21, H⟩ := H
       refine xr (.int .i64 v_21) rfl (wy 40 rfl rfl rfl hb8) rfl Try.underlying31 rfl rfl hev_21 hcv_21 ?_
       refine xo_pure (v := (.bool (!decide (v_21 = 0)))) rfl (wy 40 rfl rfl rfl hb8) (p_ne rfl rfl rfl) ?_
       refine xo_pure (v := (.bool (!decide (v_21 = 0)))) rfl (wy 40 rfl rfl rfl hb8) (p_move rfl rfl) ?_
       refine ifB_cases H ?_ ?_
       ·clear H; intro hb9 H
        obtain ⟨adv_22, v_22, hev_22, hnv_22, hcv_22, H⟩ := H
        refine xo_read (v := (.agg v_22)) rfl (wy 44 rfl rfl rfl hb9) (rd_loadN (ad := adv_22) rfl Try.underlying73 rfl Try.ti73 (by show Value.pointer _ = _; rw [hev_22]) hnv_22 hcv_22) ?_
        refine xo_pure (v := (.pointer (some (a_15.add 0)))) rfl (wy 44 rfl rfl rfl hb9) (p_fieldAddr (off := 0) (ft := 31) (size := 1) rfl Try.underlying73 rfl Try.ti31 (by decide) rfl rfl) ?_
        obtain ⟨adv_23, v_23, hev_23, hcv_23, H⟩ := H
        refine xr (.int .i64 v_23) rfl (wy 44 rfl rfl rfl hb9) rfl Try.underlying31 rfl rfl hev_23 hcv_23 ?_
        obtain ⟨c_24, hflc_24, H⟩ := H
        refine xo_pure (v := (.agg c_24)) rfl (wy 44 rfl rfl rfl hb9) (p_buildS (places := #[(0, 1), (1, 1), (2, 48), (50, 1)]) rfl Try.pl73 Try.ti73 hflc_24 rfl) ?_
        refine xo_eff rfl (wy 44 rfl rfl rfl hb9) (e_call (fn := Try.f54) H rfl rfl Try.func54 rfl rfl rfl) ?_
        rintro _ w_12 ⟨v_26, rfl, H⟩
        refine xo_pure (v := (.bool (!v_26))) rfl (wy 44 rfl rfl rfl hb9) (p_not rfl rfl) ?_
        refine xo_pure (v := (.bool (!v_26))) rfl (wy 40 rfl rfl rfl hb8) (p_pickT rfl rfl hb9 rfl) ?_
        refine xp (.bool (!v_26)) rfl rfl (p_pickF rfl rfl hb8 rfl) ?_
        refine xo_end ?_
        refine ru 3 (.pointer m3) rfl ?_
        refine ru 13 (Sl.v t13) rfl ?_
        refine ru 14 (.int .i64 t14) rfl ?_
        refine ru 15 (.int .i64 t15) rfl ?_
        refine ru 52 (.bool (!v_26)) rfl ?_
        exact J5 (m3, t13, t14, t15, (!v_26)) _ _ H
       ·clear H; intro hb9 H
        refine xo_skip rfl (wn 44 rfl rfl rfl hb9) ?_
        refine xo_skip rfl (wn 44 rfl rfl rfl hb9) ?_
        refine xo_skip rfl (wn 44 rfl rfl rfl hb9) ?_
        refine xo_skip rfl (wn 44 rfl rfl rfl hb9) ?_
        refine xo_skip rfl (wn 44 rfl rfl rfl hb9) ?_
        refine xo_skip rfl (wn 44 rfl rfl rfl hb9) ?_
        refine xo_pure (v := (.bool false)) rfl (wy 40 rfl rfl rfl hb8) (p_pickF rfl rfl hb9 rfl) ?_
        refine xp (.bool false) rfl rfl (p_pickF rfl rfl hb8 rfl) ?_
        refine xo_end ?_
        refine ru 3 (.pointer m3) rfl ?_
        refine ru 13 (Sl.v t13) rfl ?_
        refine ru 14 (.int .i64 t14) rfl ?_
        refine ru 15 (.int .i64 t15) rfl ?_
        refine ru 52 (.bool false) rfl ?_
        exact J5 (m3, t13, t14, t15, false) _ _ H
     ·clear H; intro hb7 H
      refine xo_pure (v := (.pointer (some (a_9.add 0)))) rfl (wy 27 rfl rfl rfl hb7) (p_fieldAddr (off := 0) (ft := 3) (size := 1) rfl Try.underlying67 rfl Try.ti3 (by decide) rfl rfl) ?_
      obtain ⟨adv_27, v_27, hev_27, hcv_27, H⟩ := H
      refine xr (.int .i64 v_27) rfl (wy 27 rfl rfl rfl hb7) rfl Try.underlying3 rfl rfl hev_27 hcv_27 ?_
      refine xo_eff rfl (wy 27 rfl rfl rfl hb7) (e_call (fn := Try.f53) H rfl rfl Try.func53 rfl rfl rfl) ?_
      rintro _ w_13 ⟨v_29, rfl, H⟩
      refine xo_pure (v := (.bool (!v_29))) rfl (wy 27 rfl rfl rfl hb7) (p_not rfl rfl) ?_
      refine xp (.bool (!v_29)) rfl rfl (p_pickF rfl rfl hb7 rfl) ?_
      refine xm (.bool (!v_29)) rfl rfl rfl rfl ?_
      refine ifB_cases H ?_ ?_
      ·clear H; intro hb10 H
       refine xo_pure (v := (.pointer m3)) rfl (wy 33 rfl rfl rfl hb10) (p_move rfl rfl) ?_
       refine xo_eff rfl (wy 33 rfl rfl rfl hb10) (e_call (fn := Try.f50) H rfl rfl Try.func50 rfl rfl rfl) ?_
       rintro _ w_14 ⟨v_31, rfl, H⟩
       refine xo_pure (v := (Sl.v v_11)) rfl (wy 33 rfl rfl rfl hb10) (p_move rfl rfl) ?_
       refine xo_eff rfl (wy 33 rfl rfl rfl hb10) (e_call (fn := Try.f52) H rfl rfl Try.func52 rfl rfl rfl) ?_
       rintro _ w_15 ⟨v_33, rfl, H⟩
       refine xo_pure (v := (.bool (!v_33))) rfl (wy 33 rfl rfl rfl hb10) (p_not rfl rfl) ?_
       refine xp (.bool (!v_33)) rfl rfl (p_pickT rfl rfl hb10 rfl) ?_
       refine xm (.bool (!v_33)) rfl rfl rfl rfl ?_
       refine ifB_cases H ?_ ?_
       ·clear H; intro hb11 H
        refine xo_skip rfl (wn 40 rfl rfl rfl hb11) ?_
        refine xo_skip rfl (wn 40 rfl rfl rfl hb11) ?_
        refine xo_skip rfl (wn 40 rfl rfl rfl hb11) ?_
        refine xo_skip rfl (wn 40 rfl rfl rfl hb11) ?_
        refine xo_skip rfl (wanted_undef (d := 44) rfl rfl (by decide) rfl) ?_
        refine xo_skip rfl (wanted_undef (d := 44) rfl rfl (by decide) rfl) ?_
        refine xo_skip rfl (wanted_undef (d := 44) rfl rfl (by decide) rfl) ?_
        refine xo_skip rfl (wanted_undef (d := 44) rfl rfl (by decide) rfl) ?_
        refine xo_skip rfl (wanted_undef (d := 44) rfl rfl (by decide) rfl) ?_
        refine xo_skip rfl (wanted_undef (d := 44) rfl rfl (by decide) rfl) ?_
        refine xo_skip rfl (wn 40 rfl rfl rfl hb11) ?_
        refine xp (.bool true) rfl rfl (p_pickT rfl rfl hb11 rfl) ?_
        refine xo_end ?_
        refine ru 3 (.pointer m3) rfl ?_
        refine ru 13 (Sl.v t13) rfl ?_
        refine ru 14 (.int .i64 t14) rfl ?_
        refine ru 15 (.int .i64 t15) rfl ?_
        refine ru 52 (.bool true) rfl ?_
        exact J5 (m3, t13, t14, t15, true) _ _ H
       ·clear H; intro hb11 H
        refine xo_pure (v := (.pointer (some (a_15.add 0)))) rfl (wy 40 rfl rfl rfl hb11) (p_fieldAddr (off := 0) (ft := 31) (size := 1) rfl Try.underlying73 rfl Try.ti31 (by decide) rfl rfl) ?_
        obtain ⟨adv_34, v_34, hev_34, hcv_34, H⟩ := H
        refine xr (.int .i64 v_34) rfl (wy 40 rfl rfl rfl hb11) rfl Try.underlying31 rfl rfl hev_34 hcv_34 ?_
        refine xo_pure (v := (.bool (!decide (v_34 = 0)))) rfl (wy 40 rfl rfl rfl hb11) (p_ne rfl rfl rfl) ?_
        refine xo_pure (v := (.bool (!decide (v_34 = 0)))) rfl (wy 40 rfl rfl rfl hb11) (p_move rfl rfl) ?_
        refine ifB_cases H ?_ ?_
        ·clear H; intro hb12 H
         obtain ⟨adv_35, v_35, hev_35, hnv_35, hcv_35, H⟩ := H
         refine xo_read (v := (.agg v_35)) rfl (wy 44 rfl rfl rfl hb12) (rd_loadN (ad := adv_35) rfl Try.underlying73 rfl Try.ti73 (by show Value.pointer _ = _; rw [hev_35]) hnv_35 hcv_35) ?_
         refine xo_pure (v := (.pointer (some (a_15.add 0)))) rfl (wy 44 rfl rfl rfl hb12) (p_fieldAddr (off := 0) (ft := 31) (size := 1) rfl Try.underlying73 rfl Try.ti31 (by decide) rfl rfl) ?_
         obtain ⟨adv_36, v_36, hev_36, hcv_36, H⟩ := H
         refine xr (.int .i64 v_36) rfl (wy 44 rfl rfl rfl hb12) rfl Try.underlying31 rfl rfl hev_36 hcv_36 ?_
         obtain ⟨c_37, hflc_37, H⟩ := H
         refine xo_pure (v := (.agg c_37)) rfl (wy 44 rfl rfl rfl hb12) (p_buildS (places := #[(0, 1), (1, 1), (2, 48), (50, 1)]) rfl Try.pl73 Try.ti73 hflc_37 rfl) ?_
         refine xo_eff rfl (wy 44 rfl rfl rfl hb12) (e_call (fn := Try.f54) H rfl rfl Try.func54 rfl rfl rfl) ?_
         rintro _ w_16 ⟨v_39, rfl, H⟩
         refine xo_pure (v := (.bool (!v_39))) rfl (wy 44 rfl rfl rfl hb12) (p_not rfl rfl) ?_
         refine xo_pure (v := (.bool (!v_39))) rfl (wy 40 rfl rfl rfl hb11) (p_pickT rfl rfl hb12 rfl) ?_
         refine xp (.bool (!v_39)) rfl rfl (p_pickF rfl rfl hb11 rfl) ?_
         refine xo_end ?_
         refine ru 3 (.pointer m3) rfl ?_
         refine ru 13 (Sl.v t13) rfl ?_
         refine ru 14 (.int .i64 t14) rfl ?_
         refine ru 15 (.int .i64 t15) rfl ?_
         refine ru 52 (.bool (!v_39)) rfl ?_
         exact J5 (m3, t13, t14, t15, (!v_39)) _ _ H
        ·clear H; intro hb12 H
         refine xo_skip rfl (wn 44 rfl rfl rfl hb12) ?_
         refine xo_skip rfl (wn 44 rfl rfl rfl hb12) ?_
         refine xo_skip rfl (wn 44 rfl rfl rfl hb12) ?_
         refine xo_skip rfl (wn 44 rfl rfl rfl hb12) ?_
         refine xo_skip rfl (wn 44 rfl rfl rfl hb12) ?_
         refine xo_skip rfl (wn 44 rfl rfl rfl hb12) ?_
         refine xo_pure (v := (.bool false)) rfl (wy 40 rfl rfl rfl hb11) (p_pickF rfl rfl hb12 rfl) ?_
         refine xp (.bool false) rfl rfl (p_pickF rfl rfl hb11 rfl) ?_
         refine xo_end ?_
         refine ru 3 (.pointer m3) rfl ?_
         refine ru 13 (Sl.v t13) rfl ?_
         refine ru 14 (.int .i64 t14) rfl ?_
         refine ru 15 (.int .i64 t15) rfl ?_
         refine ru 52 (.bool false) rfl ?_
         exact J5 (m3, t13, t14, t15, false) _ _ H
      ·clear H; intro hb10 H
       refine xo_skip rfl (wn 33 rfl rfl rfl hb10) ?_
       refine xo_skip rfl (wn 33 rfl rfl rfl hb10) ?_
       refine xo_skip rfl (wn 33 rfl rfl rfl hb10) ?_
       refine xo_skip rfl (wn 33 rfl rfl rfl hb10) ?_
       refine xo_skip rfl (wn 33 rfl rfl rfl hb10) ?_
       refine xp (.bool false) rfl rfl (p_pickF rfl rfl hb10 rfl) ?_
       refine xm (.bool false) rfl rfl rfl rfl ?_
       refine xo_pure (v := (.pointer (some (a_15.add 0)))) rfl (wy 40 rfl rfl rfl rfl) (p_fieldAddr (off := 0) (ft := 31) (size := 1) rfl Try.underlying73 rfl Try.ti31 (by decide) rfl rfl) ?_
       obtain ⟨adv_40, v_40, hev_40, hcv_40, H⟩ := H
       refine xr (.int .i64 v_40) rfl (wy 40 rfl rfl rfl rfl) rfl Try.underlying31 rfl rfl hev_40 hcv_40 ?_
       refine xo_pure (v := (.bool (!decide (v_40 = 0)))) rfl (wy 40 rfl rfl rfl rfl) (p_ne rfl rfl rfl) ?_
       refine xo_pure (v := (.bool (!decide (v_40 = 0)))) rfl (wy 40 rfl rfl rfl rfl) (p_move rfl rfl) ?_
       refine ifB_cases H ?_ ?_
       ·clear H; intro hb13 H
        obtain ⟨adv_41, v_41, hev_41, hnv_41, hcv_41, H⟩ := H
        refine xo_read (v := (.agg v_41)) rfl (wy 44 rfl rfl rfl hb13) (rd_loadN (ad := adv_41) rfl Try.underlying73 rfl Try.ti73 (by show Value.pointer _ = _; rw [hev_41]) hnv_41 hcv_41) ?_
        refine xo_pure (v := (.pointer (some (a_15.add 0)))) rfl (wy 44 rfl rfl rfl hb13) (p_fieldAddr (off := 0) (ft := 31) (size := 1) rfl Try.underlying73 rfl Try.ti31 (by decide) rfl rfl) ?_
        obtain ⟨adv_42, v_42, hev_42, hcv_42, H⟩ := H
        refine xr (.int .i64 v_42) rfl (wy 44 rfl rfl rfl hb13) rfl Try.underlying31 rfl rfl hev_42 hcv_42 ?_
        obtain ⟨c_43, hflc_43, H⟩ := H
        refine xo_pure (v := (.agg c_43)) rfl (wy 44 rfl rfl rfl hb13) (p_buildS (places := #[(0, 1), (1, 1), (2, 48), (50, 1)]) rfl Try.pl73 Try.ti73 hflc_43 rfl) ?_
        refine xo_eff rfl (wy 44 rfl rfl rfl hb13) (e_call (fn := Try.f54) H rfl rfl Try.func54 rfl rfl rfl) ?_
        rintro _ w_17 ⟨v_45, rfl, H⟩
        refine xo_pure (v := (.bool (!v_45))) rfl (wy 44 rfl rfl rfl hb13) (p_not rfl rfl) ?_
        refine xo_pure (v := (.bool (!v_45))) rfl (wy 40 rfl rfl rfl rfl) (p_pickT rfl rfl hb13 rfl) ?_
        refine xp (.bool (!v_45)) rfl rfl (p_pickF rfl rfl rfl rfl) ?_
        refine xo_end ?_
        refine ru 3 (.pointer m3) rfl ?_
        refine ru 13 (Sl.v t13) rfl ?_
        refine ru 14 (.int .i64 t14) rfl ?_
        refine ru 15 (.int .i64 t15) rfl ?_
        refine ru 52 (.bool (!v_45)) rfl ?_
        exact J5 (m3, t13, t14, t15, (!v_45)) _ _ H
       ·clear H; intro hb13 H
        refine xo_skip rfl (wn 44 rfl rfl rfl hb13) ?_
        refine xo_skip rfl (wn 44 rfl rfl rfl hb13) ?_
        refine xo_skip rfl (wn 44 rfl rfl rfl hb13) ?_
        refine xo_skip rfl (wn 44 rfl rfl rfl hb13) ?_
        refine xo_skip rfl (wn 44 rfl rfl rfl hb13) ?_
        refine xo_skip rfl (wn 44 rfl rfl rfl hb13) ?_
        refine xo_pure (v := (.bool false)) rfl (wy 40 rfl rfl rfl rfl) (p_pickF rfl rfl hb13 rfl) ?_
        refine xp (.bool false) rfl rfl (p_pickF rfl rfl rfl rfl) ?_
        refine xo_end ?_
        refine ru 3 (.pointer m3) rfl ?_
        refine ru 13 (Sl.v t13) rfl ?_
        refine ru 14 (.int .i64 t14) rfl ?_
        refine ru 15 (.int .i64 t15) rfl ?_
        refine ru 52 (.bool false) rfl ?_
        exact J5 (m3, t13, t14, t15, false) _ _ H
   ·clear H; intro hb4 H
    refine r_exit rfl ?_
    refine r_seq ?_
    refine r_region ?_
    refine xs (.bool true) rfl rfl rfl rfl ?_
    refine xo_end ?_
    exact r_ret (fn := Try.f10) Try.func10 (res_1 rfl ⟨by decide, rfl⟩) H

/-! 21 sporran/sporranref01.Same -/
def sporranref01_Same_b0 (R : Value → World → Prop) (ag2 : (Sl × Sl × Int) → World → Prop) (a0 : Sl) (b1 : Sl) (i5 : Int) (w : World) : Prop :=
 IfB (decide (i5 < (a0.len : Int))) (
  Ix a0 i5 fun p_1 =>
  Ld (Value.int .u8) (some (p_1.add (i5.toNat * 1))) (World.drew w) fun v_2 =>
  Ix b1 i5 fun p_3 =>
  Ld (Value.int .u8) (some (p_3.add (i5.toNat * 1))) (World.drew w) fun v_4 =>
  IfB (!decide (v_2 = v_4)) (
   R (.bool false) (World.drew w)) (
   ag2 (a0, b1, (IntKind.i64.wrap (i5 + 1))) (World.drew w))) (
  R (.bool true) w)
def sporranref01_Same (R : Value → World → Prop) (a0 : Sl) (b1 : Sl) (w : World) : Prop :=
 IfB (!decide ((a0.len : Int) = (b1.len : Int))) (
  R (.bool false) w) (
  Lp (fun ag (s : Sl × Sl × Int) w => sporranref01_Same_b0 R ag s.1 s.2.1 s.2.2 w) (a0, b1, 0) w)
theorem sporranref01_Same_ok (R : Value → World → Prop) (a0 : Sl) (b1 : Sl) (w : World) (H : sporranref01_Same R a0 b1 w) : CallF Try.prog 21 #[(Sl.v a0), (Sl.v b1)] w R := by
 refine calls_of_runs (fn := Try.f21) Try.func21 rfl (Nat.le_of_ble_eq_true rfl) ?_
 show Runs _ _ 26 _ _ _ _
 unfold sporranref01_Same at H
 refine ru 0 (Sl.v a0) rfl ?_
 refine ru 1 (Sl.v b1) rfl ?_
 refine r_seq ?_
 refine r_region ?_
 refine xs (.bool false) rfl rfl rfl rfl ?_
 refine xo_end ?_
 refine r_seq ?_
 refine r_seq ?_
 refine r_region ?_
 refine xm (Sl.v a0) rfl rfl rfl rfl ?_
 refine xp (.int .i64 (a0.len : Int)) rfl rfl (p_len rfl Try.underlying39 rfl) ?_
 refine xm (Sl.v b1) rfl rfl rfl rfl ?_
 refine xp (.int .i64 (b1.len : Int)) rfl rfl (p_len rfl Try.underlying39 rfl) ?_
 refine xp _ rfl rfl (p_ne rfl rfl rfl) ?_
 refine xo_end ?_
 refine r_condB (b := (!decide ((a0.len : Int) = (b1.len : Int)))) rfl H ?_ ?_
 ·clear H; intro hb1 H
  refine r_seq ?_
  refine r_region ?_
  refine xs (.bool false) rfl rfl rfl rfl ?_
  refine xo_end ?_
  exact r_ret (fn := Try.f21) Try.func21 (res_1 rfl ⟨by decide, rfl⟩) H
 ·clear H; intro hb1 H
  refine r_skip ?_
  refine r_seq ?_
  refine r_seq ?_
  refine r_region ?_
  refine xs (.int .i64 0) rfl rfl rfl rfl ?_
  refine xo_end ?_
  refine r_block ?_
  refine ru 0 (Sl.v a0) rfl ?_
  refine ru 1 (Sl.v b1) rfl ?_
  refine ru 5 (.int .i64 0) rfl ?_
  refine r_loopJ (fun (s : Sl × Sl × Int) σ => upd 5 (.int .i64 s.2.2) (upd 1 (Sl.v s.2.1) (upd 0 (Sl.v s.1) (σ)))) (s := (a0, b1, 0)) H ?_
  clear H
  rintro ag2 ⟨a0, b1, i5⟩ σ w H hag2
  replace H : sporranref01_Same_b0 R ag2 a0 b1 i5 w := H
  show Runs _ _ _ _ _ (upd 5 (.int .i64 i5) (upd 1 (Sl.v b1) (upd 0 (Sl.v a0) (σ)))) _
  unfold sporranref01_Same_b0 at H
  refine r_seq ?_
  refine r_seq ?_
  refine r_region ?_
  refine xm (.int .i64 i5) rfl rfl rfl rfl ?_
  refine xm (Sl.v a0) rfl rfl rfl rfl ?_
  refine xp (.int .i64 (a0.len : Int)) rfl rfl (p_len rfl Try.underlying39 rfl) ?_
  refine xp _ rfl rfl (p_lt rfl rfl rfl) ?_
  refine xo_end ?_
  refine r_condB (b := (decide (i5 < (a0.len : Int)))) rfl H ?_ ?_
  ·clear H; intro hb3 H
   refine r_skip ?_
   refine r_seq ?_
   refine r_block ?_
   refine r_seq ?_
   refine r_draw #[[], [], [0, 1], [0, 1, 2], [], [], [4, 5], [4, 5, 6], [0, 1, 2, 3, 4, 5, 6, 7]] 9 rfl rfl ?_
   refine am 0 (Sl.v a0) rfl rfl rfl rfl rfl ?_
   refine am 1 (.int .i64 i5) rfl rfl rfl rfl rfl ?_
   obtain ⟨p_1, hap_1, hlp_1, hup_1, H⟩ := H
   refine ap 2 _ rfl rfl rfl (p_indexAddr (s := a0) (ad := p_1) (size := 1) rfl Try.underlying39 Try.ti5 rfl rfl hap_1 hlp_1 hup_1) ?_
   obtain ⟨adv_2, v_2, hev_2, hcv_2, H⟩ := H
   refine ar 3 (.int .u8 v_2) rfl rfl (wo rfl) rfl Try.underlying5 rfl rfl hev_2 hcv_2 ?_
   refine am 4 (Sl.v b1) rfl rfl rfl rfl rfl ?_
   refine am 5 (.int .i64 i5) rfl rfl rfl rfl rfl ?_
   obtain ⟨p_3, hap_3, hlp_3, hup_3, H⟩ := H
   refine ap 6 _ rfl rfl rfl (p_indexAddr (s := b1) (ad := p_3) (size := 1) rfl Try.underlying39 Try.ti5 rfl rfl hap_3 hlp_3 hup_3) ?_
   obtain ⟨adv_4, v_4, hev_4, hcv_4, H⟩ := H
   refine ar 7 (.int .u8 v_4) rfl rfl (wo rfl) rfl Try.underlying5 rfl rfl hev_4 hcv_4 ?_
   refine ap 8 _ rfl rfl rfl (p_ne rfl rfl rfl) ?_
   refine ax ?_
   refine r_condB (b := (!decide (v_2 = v_4))) rfl H ?_ ?_
   ·clear H; intro hb4 H
    refine r_seq ?_
    refine r_region ?_
    refine xs (.bool false) rfl rfl rfl rfl ?_
    refine xo_end ?_
    exact r_ret (fn := Try.f21) Try.func21 (res_1 rfl ⟨by decide, rfl⟩) H
   ·clear H; intro hb4 H
    refine r_skip ?_
    refine r_inBlock ?_
    refine r_region ?_
    refine xm (.int .i64 i5) rfl rfl rfl rfl ?_
    refine xp _ rfl rfl (p_add rfl rfl rfl) ?_
    refine xs (.int .i64 (IntKind.i64.wrap (i5 + 1))) rfl rfl rfl rfl ?_
    refine xo_end ?_
    refine ru 0 (Sl.v a0) rfl ?_
    refine ru 1 (Sl.v b1) rfl ?_
    refine ru 5 (.int .i64 (IntKind.i64.wrap (i5 + 1))) rfl ?_
    exact hag2 (a0, b1, (IntKind.i64.wrap (i5 + 1))) _ _ H
  ·clear H; intro hb3 H
   refine r_exit rfl ?_
   refine r_seq ?_
   refine r_region ?_
   refine xs (.bool true) rfl rfl rfl rfl ?_
   refine xo_end ?_
   exact r_ret (fn := Try.f21) Try.func21 (res_1 rfl ⟨by decide, rfl⟩) H

/-! 34 sporran/sporranlaw15.speaks -/
def sporranlaw15_speaks (R : Value → World → Prop)  (w : World) : Prop :=
 CallF Try.prog 36 #[] w fun u_1 w_1 => As Value.pointer u_1 fun v_2 =>
 Built #[(0, 1), (1, 1), (2, 1), (3, 1), (4, 1), (5, 48)] Try.z67 [(0, (.int .i64 1)), (1, (.string (ByteArray.mk #[97]))), (4, (.int .i64 1))] fun c_3 =>
 CallF Try.prog 37 #[(.pointer v_2), (.agg c_3)] w_1 fun u_4 w_2 => As Value.agg u_4 fun v_5 =>
 New Try.z73 73 w_2 fun a_6 w_3 =>
 StN 51 (some a_6) v_5 w_3 fun w_4 =>
 BuiltA 1 Try.z65 [(0, (.int .u8 7))] fun c_7 =>
 Built #[(0, 1), (1, 1), (2, 1), (3, 1), (4, 1), (5, 48)] Try.z67 [(0, (.int .i64 3)), (1, (.string (ByteArray.mk #[97]))), (5, (.agg c_7))] fun c_8 =>
 CallF Try.prog 37 #[(.pointer v_2), (.agg c_8)] w_4 fun u_9 w_5 => As Value.agg u_9 fun v_10 =>
 New Try.z73 73 w_5 fun a_11 w_6 =>
 StN 51 (some a_11) v_10 w_6 fun w_7 =>
 Built #[(0, 1), (1, 1), (2, 1), (3, 1), (4, 1), (5, 48)] Try.z67 [(0, (.int .i64 5)), (1, (.string (ByteArray.mk #[97])))] fun c_12 =>
 CallF Try.prog 37 #[(.pointer v_2), (.agg c_12)] w_7 fun u_13 w_8 => As Value.agg u_13 fun v_14 =>
 New Try.z73 73 w_8 fun a_15 w_9 =>
 StN 51 (some a_15) v_14 w_9 fun w_10 =>
 Ld (Value.int .i64) (some (a_6.add 0)) w_10 fun v_16 =>
 IfB (decide (v_16 = 0)) (
  Ld (Value.int .i64) (some (a_11.add 0)) w_10 fun v_17 =>
  IfB (decide (v_17 = 0)) (
   Ld Value.bool (some (a_15.add 1)) w_10 fun v_18 =>
   IfB v_18 (
    LdN 48 (some (a_15.add 2)) w_10 fun v_19 =>
    BuiltA 1 Try.z65 [(0, (.int .u8 7))] fun c_20 =>
    AggEq Try.prog 65 v_19 c_20 fun b_21 =>
    IfB b_21 (
     CallF Try.prog 64 #[(.pointer v_2)] w_10 fun u_22 w_11 => As (Value.int .i64) u_22 fun v_23 =>
     R (.bool (decide (v_23 = 1))) w_11) (
     R (.bool false) w_10)) (
    R (.bool false) w_10)) (
   R (.bool false) w_10)) (
  R (.bool false) w_10)
theorem sporranlaw15_speaks_ok (R : Value → World → Prop)  (w : World) (H : sporranlaw15_speaks R  w) : CallF Try.prog 34 #[] w R := by
 refine calls_of_runs (fn := Try.f34) Try.func34 rfl (Nat.le_of_ble_eq_true rfl) ?_
 show Runs _ _ 39 _ _ _ _
 unfold sporranlaw15_speaks at H

 refine r_seq ?_
 refine r_region ?_
 refine xs (.bool false) rfl rfl rfl rfl ?_
 refine xo_end ?_
 refine r_seq ?_
 refine r_region ?_
 refine xo_eff rfl (wo rfl) (e_call (fn := Try.f36) H rfl rfl Try.func36 rfl rfl rfl) ?_
 rintro _ w_1 ⟨v_2, rfl, H⟩
 refine xs (.pointer v_2) rfl rfl rfl rfl ?_
 refine xo_end ?_
 refine r_seq ?_
 refine r_region ?_
 refine xm (.pointer v_2) rfl rfl rfl rfl ?_
 obtain ⟨c_3, hflc_3, H⟩ := H
 refine xp (.agg c_3) rfl rfl (p_buildS (places := #[(0, 1), (1, 1), (2, 1), (3, 1), (4, 1), (5, 48)]) rfl Try.pl67 Try.ti67 hflc_3 rfl) ?_
 refine xo_eff rfl (wo rfl) (e_call (fn := Try.f37) H rfl rfl Try.func37 rfl rfl rfl) ?_
 rintro _ w_2 ⟨v_5, rfl, H⟩
 refine xo_eff rfl (wo rfl) (e_alloc rfl Try.ti73 H) ?_
 rintro _ w_3 ⟨a_6, rfl, H⟩
 refine xo_effN rfl (wo rfl) (e_storeN rfl Try.ti73 rfl rfl H) ?_
 intro _ w_4 H
 refine xo_end ?_
 refine r_seq ?_
 refine r_region ?_
 refine xm (.pointer v_2) rfl rfl rfl rfl ?_
 obtain ⟨c_7, hflc_7, H⟩ := H
 refine xp (.agg c_7) rfl rfl (p_buildA (size := 1) rfl Try.underlying65 Try.ti65 Try.ti5 hflc_7 rfl) ?_
 obtain ⟨c_8, hflc_8, H⟩ := H
 refine xp (.agg c_8) rfl rfl (p_buildS (places := #[(0, 1), (1, 1), (2, 1), (3, 1), (4, 1), (5, 48)]) rfl Try.pl67 Try.ti67 hflc_8 rfl) ?_
 refine xo_eff rfl (wo rfl) (e_call (fn := Try.f37) H rfl rfl Try.func37 rfl rfl rfl) ?_
 rintro _ w_5 ⟨v_10, rfl, H⟩
 refine xo_eff rfl (wo rfl) (e_alloc rfl Try.ti73 H) ?_
 rintro _ w_6 ⟨a_11, rfl, H⟩
 refine xo_effN rfl (wo rfl) (e_storeN rfl Try.ti73 rfl rfl H) ?_
 intro _ w_7 H
 refine xo_end ?_
 refine r_seq ?_
 refine r_region ?_
 refine xm (.pointer v_2) rfl rfl rfl rfl ?_
 obtain ⟨c_12, hflc_12, H⟩ := H
 refine xp (.agg c_12) rfl rfl (p_buildS (places := #[(0, 1), (1, 1), (2, 1), (3, 1), (4, 1), (5, 48)]) rfl Try.pl67 Try.ti67 hflc_12 rfl) ?_
 refine xo_eff rfl (wo rfl) (e_call (fn := Try.f37) H rfl rfl Try.func37 rfl rfl rfl) ?_
 rintro _ w_8 ⟨v_14, rfl, H⟩
 refine xo_eff rfl (wo rfl) (e_alloc rfl Try.ti73 H) ?_
 rintro _ w_9 ⟨a_15, rfl, H⟩
 refine xo_effN rfl (wo rfl) (e_storeN rfl Try.ti73 rfl rfl H) ?_
 intro _ w_10 H
 refine xo_end ?_
 refine r_seq ?_
 refine r_region ?_
 refine xp _ rfl rfl (p_fieldAddr (off := 0) (ft := 31) (size := 1) rfl Try.underlying73 rfl Try.ti31 (by decide) rfl rfl) ?_
 obtain ⟨adv_16, v_16, hev_16, hcv_16, H⟩ := H
 refine xr (.int .i64 v_16) rfl (wo rfl) rfl Try.underlying31 rfl rfl hev_16 hcv_16 ?_
 refine xp _ rfl rfl (p_eq rfl rfl rfl) ?_
 refine xm (.bool (decide (v_16 = 0))) rfl rfl rfl rfl ?_
 refine ifB_cases H ?_ ?_
 ·clear H; intro hb1 H
  refine xo_pure (v := (.pointer (some (a_11.add 0)))) rfl (wy 19 rfl rfl rfl hb1) (p_fieldAddr (off := 0) (ft := 31) (size := 1) rfl Try.underlying73 rfl Try.ti31 (by decide) rfl rfl) ?_
  obtain ⟨adv_17, v_17, hev_17, hcv_17, H⟩ := H
  refine xr (.int .i64 v_17) rfl (wy 19 rfl rfl rfl hb1) rfl Try.underlying31 rfl rfl hev_17 hcv_17 ?_
  refine xo_pure (v := (.bool (decide (v_17 = 0)))) rfl (wy 19 rfl rfl rfl hb1) (p_eq rfl rfl rfl) ?_
  refine xp (.bool (decide (v_17 = 0))) rfl rfl (p_pickT rfl rfl hb1 rfl) ?_
  refine xm (.bool (decide (v_17 = 0))) rfl rfl rfl rfl ?_
  refine ifB_cases H ?_ ?_
  ·clear H; intro hb2 H
   refine xo_pure (v := (.pointer (some (a_15.add 1)))) rfl (wy 24 rfl rfl rfl hb2) (p_fieldAddr (off := 1) (ft := 4) (size := 1) rfl Try.underlying73 rfl Try.ti4 (by decide) rfl rfl) ?_
   obtain ⟨adv_18, v_18, hev_18, hcv_18, H⟩ := H
   refine xr (.bool v_18) rfl (wy 24 rfl rfl rfl hb2) rfl Try.underlying4 rfl rfl hev_18 hcv_18 ?_
   refine xp (.bool v_18) rfl rfl (p_pickT rfl rfl hb2 rfl) ?_
   refine xm (.bool v_18) rfl rfl rfl rfl ?_
   refine ifB_cases H ?_ ?_
   ·clear H; intro hb3 H
    refine xo_pure (v := (.pointer (some (a_15.add 2)))) rfl (wy 28 rfl rfl rfl hb3) (p_fieldAddr (off := 2) (ft := 65) (size := 48) rfl Try.underlying73 rfl Try.ti65 (by decide) rfl rfl) ?_
    obtain ⟨adv_19, v_19, hev_19, hnv_19, hcv_19, H⟩ := H
    refine xo_read (v := (.agg v_19)) rfl (wy 28 rfl rfl rfl hb3) (rd_loadN (ad := adv_19) rfl Try.underlying65 rfl Try.ti65 (by show Value.pointer _ = _; rw [hev_19]) hnv_19 hcv_19) ?_
    obtain ⟨c_20, hflc_20, H⟩ := H
    refine xo_pure (v := (.agg c_20)) rfl (wy 28 rfl rfl rfl hb3) (p_buildA (size := 1) rfl Try.underlying65 Try.ti65 Try.ti5 hflc_20 rfl) ?_
    obtain ⟨b_21, hqb_21, H⟩ := H
    refine xo_pure (v := (.bool b_21)) rfl (wy 28 rfl rfl rfl hb3) (p_aggEq rfl hqb_21 rfl rfl) ?_
    refine xp (.bool b_21) rfl rfl (p_pickT rfl rfl hb3 rfl) ?_
    refine xm (.bool b_21) rfl rfl rfl rfl ?_
    refine ifB_cases H ?_ ?_
    ·clear H; intro hb4 H
     refine xo_pure (v := (.pointer v_2)) rfl (wy 34 rfl rfl rfl hb4) (p_move rfl rfl) ?_
     refine xo_eff rfl (wy 34 rfl rfl rfl hb4) (e_call (fn := Try.f64) H rfl rfl Try.func64 rfl rfl rfl) ?_
     rintro _ w_11 ⟨v_23, rfl, H⟩
     refine xo_pure (v := (.bool (decide (v_23 = 1)))) rfl (wy 34 rfl rfl rfl hb4) (p_eq rfl rfl rfl) ?_
     refine xp (.bool (decide (v_23 = 1))) rfl rfl (p_pickT rfl rfl hb4 rfl) ?_
     refine xs (.bool (decide (v_23 = 1))) rfl rfl rfl rfl ?_
     refine xo_end ?_
     exact r_ret (fn := Try.f34) Try.func34 (res_1 rfl ⟨by decide, rfl⟩) H
    ·clear H; intro hb4 H
     refine xo_skip rfl (wn 34 rfl rfl rfl hb4) ?_
     refine xo_skip rfl (wn 34 rfl rfl rfl hb4) ?_
     refine xo_skip rfl (wn 34 rfl rfl rfl hb4) ?_
     refine xp (.bool false) rfl rfl (p_pickF rfl rfl hb4 rfl) ?_
     refine xs (.bool false) rfl rfl rfl rfl ?_
     refine xo_end ?_
     exact r_ret (fn := Try.f34) Try.func34 (res_1 rfl ⟨by decide, rfl⟩) H
   ·clear H; intro hb3 H
    refine xo_skip rfl (wn 28 rfl rfl rfl hb3) ?_
    refine xo_skip rfl (wn 28 rfl rfl rfl hb3) ?_
    refine xo_skip rfl (wn 28 rfl rfl rfl hb3) ?_
    refine xo_skip rfl (wn 28 rfl rfl rfl hb3) ?_
    refine xp (.bool false) rfl rfl (p_pickF rfl rfl hb3 rfl) ?_
    refine xm (.bool false) rfl rfl rfl rfl ?_
    refine xo_skip rfl (wn 34 rfl rfl rfl rfl) ?_
    refine xo_skip rfl (wn 34 rfl rfl rfl rfl) ?_
    refine xo_skip rfl (wn 34 rfl rfl rfl rfl) ?_
    refine xp (.bool false) rfl rfl (p_pickF rfl rfl rfl rfl) ?_
    refine xs (.bool false) rfl rfl rfl rfl ?_
    refine xo_end ?_
    exact r_ret (fn := Try.f34) Try.func34 (res_1 rfl ⟨by decide, rfl⟩) H
  ·clear H; intro hb2 H
   refine xo_skip rfl (wn 24 rfl rfl rfl hb2) ?_
   refine xo_skip rfl (wn 24 rfl rfl rfl hb2) ?_
   refine xp (.bool false) rfl rfl (p_pickF rfl rfl hb2 rfl) ?_
   refine xm (.bool false) rfl rfl rfl rfl ?_
   refine xo_skip rfl (wn 28 rfl rfl rfl rfl) ?_
   refine xo_skip rfl (wn 28 rfl rfl rfl rfl) ?_
   refine xo_skip rfl (wn 28 rfl rfl rfl rfl) ?_
   refine xo_skip rfl (wn 28 rfl rfl rfl rfl) ?_
   refine xp (.bool false) rfl rfl (p_pickF rfl rfl rfl rfl) ?_
   refine xm (.bool false) rfl rfl rfl rfl ?_
   refine xo_skip rfl (wn 34 rfl rfl rfl rfl) ?_
   refine xo_skip rfl (wn 34 rfl rfl rfl rfl) ?_
   refine xo_skip rfl (wn 34 rfl rfl rfl rfl) ?_
   refine xp (.bool false) rfl rfl (p_pickF rfl rfl rfl rfl) ?_
   refine xs (.bool false) rfl rfl rfl rfl ?_
   refine xo_end ?_
   exact r_ret (fn := Try.f34) Try.func34 (res_1 rfl ⟨by decide, rfl⟩) H
 ·clear H; intro hb1 H
  refine xo_skip rfl (wn 19 rfl rfl rfl hb1) ?_
  refine xo_skip rfl (wn 19 rfl rfl rfl hb1) ?_
  refine xo_skip rfl (wn 19 rfl rfl rfl hb1) ?_
  refine xp (.bool false) rfl rfl (p_pickF rfl rfl hb1 rfl) ?_
  refine xm (.bool false) rfl rfl rfl rfl ?_
  refine xo_skip rfl (wn 24 rfl rfl rfl rfl) ?_
  refine xo_skip rfl (wn 24 rfl rfl rfl rfl) ?_
  refine xp (.bool false) rfl rfl (p_pickF rfl rfl rfl rfl) ?_
  refine xm (.bool false) rfl rfl rfl rfl ?_
  refine xo_skip rfl (wn 28 rfl rfl rfl rfl) ?_
  refine xo_skip rfl (wn 28 rfl rfl rfl rfl) ?_
  refine xo_skip rfl (wn 28 rfl rfl rfl rfl) ?_
  refine xo_skip rfl (wn 28 rfl rfl rfl rfl) ?_
  refine xp (.bool false) rfl rfl (p_pickF rfl rfl rfl rfl) ?_
  refine xm (.bool false) rfl rfl rfl rfl ?_
  refine xo_skip rfl (wn 34 rfl rfl rfl rfl) ?_
  refine xo_skip rfl (wn 34 rfl rfl rfl rfl) ?_
  refine xo_skip rfl (wn 34 rfl rfl rfl rfl) ?_
  refine xp (.bool false) rfl rfl (p_pickF rfl rfl rfl rfl) ?_
  refine xs (.bool false) rfl rfl rfl rfl ?_
  refine xo_end ?_
  exact r_ret (fn := Try.f34) Try.func34 (res_1 rfl ⟨by decide, rfl⟩) H

/-! 35 sporran/sporranlaw15.Great -/
def sporranlaw15_Great_k1 (R : Value → World → Prop) (ag2 : (Sl × Int × Int) → World → Prop) (t8 : Sl) (t9 : Int) (t10 : Int) (t23 : Bool) (w : World) : Prop :=
 IfB t23 (
  R (.bool true) w) (
  ag2 (t8, t9, (IntKind.i64.wrap (t10 + 1))) w)
def sporranlaw15_Great_b0 (R : Value → World → Prop) (ag2 : (Sl × Int × Int) → World → Prop) (t8 : Sl) (t9 : Int) (t10 : Int) (w : World) : Prop :=
 IfB (decide (t10 < t9)) (
  Ix t8 t10 fun p_1 =>
  LdN 53 (some (p_1.add (t10.toNat * 53))) w fun v_2 =>
  New Try.z67 67 w fun a_3 w_1 =>
  StN 53 (some a_3) v_2 w_1 fun w_2 =>
  Ld Value.string (some (a_3.add 1)) w_2 fun v_4 =>
  IfB (decide (100 < (v_4.size : Int))) (
   sporranlaw15_Great_k1 R ag2 t8 t9 t10 true w_2) (
   Ld Value.string (some (a_3.add 2)) w_2 fun v_5 =>
   sporranlaw15_Great_k1 R ag2 t8 t9 t10 (decide (100 < (v_5.size : Int))) w_2)) (
  R (.bool false) w)
def sporranlaw15_Great (R : Value → World → Prop) (ops0 : Sl) (w : World) : Prop :=
 IfB (decide (80 < (ops0.len : Int))) (
  R (.bool true) w) (
  Lp (fun ag (s : Sl × Int × Int) w => sporranlaw15_Great_b0 R ag s.1 s.2.1 s.2.2 w) (ops0, (ops0.len : Int), 0) w)
theorem sporranlaw15_Great_ok (R : Value → World → Prop) (ops0 : Sl) (w : World) (H : sporranlaw15_Great R ops0 w) : CallF Try.prog 35 #[(Sl.v ops0)] w R := by
 refine calls_of_runs (fn := Try.f35) Try.func35 rfl (Nat.le_of_ble_eq_true rfl) ?_
 show Runs _ _ 25 _ _ _ _
 unfold sporranlaw15_Great at H
 refine ru 0 (Sl.v ops0) rfl ?_
 refine r_seq ?_
 refine r_region ?_
 refine xs (.bool false) rfl rfl rfl rfl ?_
 refine xo_end ?_
 refine r_seq ?_
 refine r_seq ?_
 refine r_region ?_
 refine xm (Sl.v ops0) rfl rfl rfl rfl ?_
 refine xp (.int .i64 (ops0.len : Int)) rfl rfl (p_len rfl Try.underlying63 rfl) ?_
 refine xp _ rfl rfl (p_gt rfl rfl rfl) ?_
 refine xo_end ?_
 refine r_condB (b := (decide (80 < (ops0.len : Int)))) rfl H ?_ ?_
 ·clear H; intro hb1 H
  refine r_seq ?_
  refine r_region ?_
  refine xs (.bool true) rfl rfl rfl rfl ?_
  refine xo_end ?_
  exact r_ret (fn := Try.f35) Try.func35 (res_1 rfl ⟨by decide, rfl⟩) H
 ·clear H; intro hb1 H
  refine r_skip ?_
  refine r_seq ?_
  refine r_seq ?_
  refine r_region ?_
  refine xm (Sl.v ops0) rfl rfl rfl rfl ?_
  refine xp (.int .i64 (ops0.len : Int)) rfl rfl (p_len rfl Try.underlying63 rfl) ?_
  refine xm (.int .i64 0) rfl rfl rfl rfl ?_
  refine xo_end ?_
  refine r_block ?_
  refine ru 8 (Sl.v ops0) rfl ?_
  refine ru 9 (.int .i64 (ops0.len : Int)) rfl ?_
  refine ru 10 (.int .i64 0) rfl ?_
  refine r_loopJ (fun (s : Sl × Int × Int) σ => upd 10 (.int .i64 s.2.2) (upd 9 (.int .i64 s.2.1) (upd 8 (Sl.v s.1) (σ)))) (s := (ops0, (ops0.len : Int), 0)) H ?_
  clear H
  rintro ag2 ⟨t8, t9, t10⟩ σ w H hag2
  replace H : sporranlaw15_Great_b0 R ag2 t8 t9 t10 w := H
  show Runs _ _ _ _ _ (upd 10 (.int .i64 t10) (upd 9 (.int .i64 t9) (upd 8 (Sl.v t8) (σ)))) _
  unfold sporranlaw15_Great_b0 at H
  refine r_seq ?_
  refine r_region ?_
  refine xp _ rfl rfl (p_lt rfl rfl rfl) ?_
  refine xo_end ?_
  refine r_seq ?_
  refine r_condB (b := (decide (t10 < t9))) rfl H ?_ ?_
  ·clear H; intro hb3 H
   refine r_skip ?_
   refine r_seq ?_
   refine r_block ?_
   refine r_seq ?_
   refine r_region ?_
   obtain ⟨p_1, hap_1, hlp_1, hup_1, H⟩ := H
   refine xp _ rfl rfl (p_indexAddr (s := t8) (ad := p_1) (size := 53) rfl Try.underlying63 Try.ti67 rfl rfl hap_1 hlp_1 hup_1) ?_
   obtain ⟨adv_2, v_2, hev_2, hnv_2, hcv_2, H⟩ := H
   refine xo_read (v := (.agg v_2)) rfl (wo rfl) (rd_loadN (ad := adv_2) rfl Try.underlying67 rfl Try.ti67 (by show Value.pointer _ = _; rw [hev_2]) hnv_2 hcv_2) ?_
   refine xo_eff rfl (wo rfl) (e_alloc rfl Try.ti67 H) ?_
   rintro _ w_1 ⟨a_3, rfl, H⟩
   refine xo_effN rfl (wo rfl) (e_storeN rfl Try.ti67 rfl rfl H) ?_
   intro _ w_2 H
   refine xo_end ?_
   refine r_seq ?_
   refine r_topJ (fun (s : Sl × Int × Int × Bool) σ => upd 23 (.bool s.2.2.2) (upd 10 (.int .i64 s.2.2.1) (upd 9 (.int .i64 s.2.1) (upd 8 (Sl.v s.1) (σ))))) (fun (s : Sl × Int × Int × Bool) w => sporranlaw15_Great_k1 R ag2 s.1 s.2.1 s.2.2.1 s.2.2.2 w) ?_ ?_
   ·rintro ⟨t8, t9, t10, t23⟩ σ w H
    replace H : sporranlaw15_Great_k1 R ag2 t8 t9 t10 t23 w := H
    show Runs _ _ _ _ _ (upd 23 (.bool t23) (upd 10 (.int .i64 t10) (upd 9 (.int .i64 t9) (upd 8 (Sl.v t8) (σ))))) _
    unfold sporranlaw15_Great_k1 at H
    refine r_condB (b := t23) rfl H ?_ ?_
    ·clear H; intro hb5 H
     refine r_seq ?_
     refine r_region ?_
     refine xs (.bool true) rfl rfl rfl rfl ?_
     refine xo_end ?_
     exact r_ret (fn := Try.f35) Try.func35 (res_1 rfl ⟨by decide, rfl⟩) H
    ·clear H; intro hb5 H
     refine r_skip ?_
     refine r_inBlock ?_
     refine r_region ?_
     refine xp _ rfl rfl (p_add rfl rfl rfl) ?_
     refine xm (.int .i64 (IntKind.i64.wrap (t10 + 1))) rfl rfl rfl rfl ?_
     refine xo_end ?_
     refine ru 8 (Sl.v t8) rfl ?_
     refine ru 9 (.int .i64 t9) rfl ?_
     refine ru 10 (.int .i64 (IntKind.i64.wrap (t10 + 1))) rfl ?_
     exact hag2 (t8, t9, (IntKind.i64.wrap (t10 + 1))) _ _ H
   ·intro J4
    refine r_region ?_
    refine xp _ rfl rfl (p_fieldAddr (off := 1) (ft := 9) (size := 1) rfl Try.underlying67 rfl Try.ti9 (by decide) rfl rfl) ?_
    obtain ⟨adv_4, v_4, hev_4, hcv_4, H⟩ := H
    refine xr (.string v_4) rfl (wo rfl) rfl Try.underlying9 rfl rfl hev_4 hcv_4 ?_
    refine xp (.int .i64 (v_4.size : Int)) rfl rfl (p_lenS rfl Try.underlying9 rfl) ?_
    refine xp _ rfl rfl (p_gt rfl rfl rfl) ?_
    refine xm (.bool (decide (100 < (v_4.size : Int)))) rfl rfl rfl rfl ?_
    refine ifB_cases H ?_ ?_
    ·clear H; intro hb6 H
     refine xo_skip rfl (wn 18 rfl rfl rfl hb6) ?_
     refine xo_skip rfl (wn 18 rfl rfl rfl hb6) ?_
     refine xo_skip rfl (wn 18 rfl rfl rfl hb6) ?_
     refine xo_skip rfl (wn 18 rfl rfl rfl hb6) ?_
     refine xp (.bool true) rfl rfl (p_pickT rfl rfl hb6 rfl) ?_
     refine xo_end ?_
     refine ru 8 (Sl.v t8) rfl ?_
     refine ru 9 (.int .i64 t9) rfl ?_
     refine ru 10 (.int .i64 t10) rfl ?_
     refine ru 23 (.bool true) rfl ?_
     exact J4 (t8, t9, t10, true) _ _ H
    ·clear H; intro hb6 H
     refine xo_pure (v := (.pointer (some (a_3.add 2)))) rfl (wy 18 rfl rfl rfl hb6) (p_fieldAddr (off := 2) (ft := 9) (size := 1) rfl Try.underlying67 rfl Try.ti9 (by decide) rfl rfl) ?_
     obtain ⟨adv_5, v_5, hev_5, hcv_5, H⟩ := H
     refine xr (.string v_5) rfl (wy 18 rfl rfl rfl hb6) rfl Try.underlying9 rfl rfl hev_5 hcv_5 ?_
     refine xo_pure (v := (.int .i64 (v_5.size : Int))) rfl (wy 18 rfl rfl rfl hb6) (p_lenS rfl Try.underlying9 rfl) ?_
     refine xo_pure (v := (.bool (decide (100 < (v_5.size : Int))))) rfl (wy 18 rfl rfl rfl hb6) (p_gt rfl rfl rfl) ?_
     refine xp (.bool (decide (100 < (v_5.size : Int)))) rfl rfl (p_pickF rfl rfl hb6 rfl) ?_
     refine xo_end ?_
     refine ru 8 (Sl.v t8) rfl ?_
     refine ru 9 (.int .i64 t9) rfl ?_
     refine ru 10 (.int .i64 t10) rfl ?_
     refine ru 23 (.bool (decide (100 < (v_5.size : Int)))) rfl ?_
     exact J4 (t8, t9, t10, (decide (100 < (v_5.size : Int)))) _ _ H
  ·clear H; intro hb3 H
   refine r_exit rfl ?_
   refine r_seq ?_
   refine r_region ?_
   refine xs (.bool false) rfl rfl rfl rfl ?_
   refine xo_end ?_
   exact r_ret (fn := Try.f35) Try.func35 (res_1 rfl ⟨by decide, rfl⟩) H

/-! 36 sporran/model.New -/
def model_New (R : Value → World → Prop)  (w : World) : Prop :=
 Ef Try.prog (Instr.makeMap 163 none) Value.map w fun v_1 w_1 =>
 Built #[(0, 1)] #[(.map none)] [(0, (.map v_1))] fun c_2 =>
 New c_2 165 w_1 fun a_3 w_2 =>
 R (.pointer (some a_3)) w_2
theorem model_New_ok (R : Value → World → Prop)  (w : World) (H : model_New R  w) : CallF Try.prog 36 #[] w R := by
 refine calls_of_runs (fn := Try.f36) Try.func36 rfl (Nat.le_of_ble_eq_true rfl) ?_
 show Runs _ _ 4 _ _ _ _
 unfold model_New at H

 refine r_seq ?_
 refine r_region ?_
 refine xs (.pointer none) rfl rfl rfl rfl ?_
 refine xo_end ?_
 refine r_seq ?_
 refine r_region ?_
 refine xo_eff rfl (wo rfl) (e_gen (s := Instr.makeMap 163 none) (enc := Value.map) rfl H) ?_
 rintro _ w_1 ⟨v_1, rfl, H⟩
 obtain ⟨c_2, hflc_2, H⟩ := H
 refine xp (.agg c_2) rfl rfl (p_buildS (places := #[(0, 1)]) rfl Try.pl165 Try.ti165 hflc_2 rfl) ?_
 refine xo_eff rfl (wo rfl) (e_box (v := (.agg c_2)) rfl rfl H) ?_
 rintro _ w_2 ⟨a_3, rfl, H⟩
 refine xs (.pointer (some a_3)) rfl rfl rfl rfl ?_
 refine xo_end ?_
 exact r_ret (fn := Try.f36) Try.func36 (res_1 rfl ⟨by decide, rfl⟩) H

/-! 37 (*sporran/model.Model).Do -/
def model_Model_Do_k1 (R : Value → World → Prop) (m0 : Option Addr) (o3 : Option Addr) (t4 : Option Addr) (t8 : Int) (t50 : Bool) (w : World) : Prop :=
 IfB t50 (
  LdN 53 o3 w fun v_31 =>
  CallF Try.prog 94 #[(.pointer m0), (.agg v_31)] w fun u_32 w_15 => As (Value.int .i64) u_32 fun v_33 =>
  Built #[(0, 1), (1, 1), (2, 48), (50, 1)] Try.z73 [(0, (.int .i64 v_33))] fun c_34 =>
  StN 51 t4 c_34 w_15 fun w_16 =>
  LdN 51 t4 w_16 fun r_35 =>
  R (.agg r_35) w_16) (
  IfB (decide (t8 = 8)) (
   NotNil m0 fun p_36 =>
   Ld Value.map (some (p_36.add 0)) w fun v_37 =>
   CallF Try.prog 96 #[(.map v_37)] w fun v_39 w_17 =>
   CallF Try.prog 95 #[v_39] w_17 fun u_40 w_18 => As Sl.v u_40 fun v_41 =>
   Built #[(0, 1), (1, 1), (2, 48), (50, 1)] Try.z73 [(3, (Sl.v v_41))] fun c_42 =>
   StN 51 t4 c_42 w_18 fun w_19 =>
   LdN 51 t4 w_19 fun r_43 =>
   R (.agg r_43) w_19) (
   Built #[(0, 1), (1, 1), (2, 48), (50, 1)] Try.z73 [(0, (.int .i64 1))] fun c_44 =>
   StN 51 t4 c_44 w fun w_20 =>
   LdN 51 t4 w_20 fun r_45 =>
   R (.agg r_45) w_20))
def model_Model_Do_k0 (R : Value → World → Prop) (m0 : Option Addr) (o3 : Option Addr) (t4 : Option Addr) (t8 : Int) (t43 : Bool) (w : World) : Prop :=
 IfB t43 (
  LdN 53 o3 w fun v_27 =>
  CallF Try.prog 93 #[(.pointer m0), (.agg v_27)] w fun u_28 w_13 => As Value.agg u_28 fun v_29 =>
  StN 51 t4 v_29 w_13 fun w_14 =>
  LdN 51 t4 w_14 fun r_30 =>
  R (.agg r_30) w_14) (
  IfB (decide (t8 = 6)) (
   model_Model_Do_k1 R m0 o3 t4 t8 (decide (t8 = 6)) w) (
   model_Model_Do_k1 R m0 o3 t4 t8 (decide (t8 = 7)) w))
def model_Model_Do (R : Value → World → Prop) (m0 : Option Addr) (o1 : Array Value) (w : World) : Prop :=
 New o1 67 w fun a_1 w_1 =>
 New Try.z73 73 w_1 fun a_2 w_2 =>
 Ld (Value.int .i64) (some (a_1.add 0)) w_2 fun v_3 =>
 IfB (decide (v_3 = 1)) (
  Ld Value.string (some (a_1.add 1)) w_2 fun v_4 =>
  Ld (Value.int .i64) (some (a_1.add 4)) w_2 fun v_5 =>
  Ef Try.prog (Instr.makeMap 168 none) Value.map w_2 fun v_6 w_3 =>
  Built #[(0, 1), (1, 1), (2, 1)] #[(.int .i64 0), (.bool false), (.map none)] [(0, (.int .i64 v_5)), (2, (.map v_6))] fun c_7 =>
  New c_7 170 w_3 fun a_8 w_4 =>
  CallF Try.prog 92 #[(.pointer m0), (.string v_4), (.pointer (some a_8)), (.int .i64 0)] w_4 fun u_9 w_5 => As (Value.int .i64) u_9 fun v_10 =>
  Built #[(0, 1), (1, 1), (2, 48), (50, 1)] Try.z73 [(0, (.int .i64 v_10))] fun c_11 =>
  StN 51 (some a_2) c_11 w_5 fun w_6 =>
  LdN 51 (some a_2) w_6 fun r_12 =>
  R (.agg r_12) w_6) (
  IfB (decide (v_3 = 2)) (
   NotNil m0 fun p_13 =>
   Ld Value.map (some (p_13.add 0)) (World.drew w_2) fun v_14 =>
   Ld Value.string (some (a_1.add 1)) (World.drew w_2) fun v_15 =>
   Ef Try.prog (Instr.lookup 163 (.map v_14) (.string v_15) true) id (World.drew w_2) fun u_18 w_8 => AsT2 Value.pointer Value.bool u_18 fun v_16 v_17 =>
   IfB (!v_17) (
    Built #[(0, 1), (1, 1), (2, 48), (50, 1)] Try.z73 [(0, (.int .i64 5))] fun c_19 =>
    StN 51 (some a_2) c_19 w_8 fun w_9 =>
    LdN 51 (some a_2) w_9 fun r_20 =>
    R (.agg r_20) w_9) (
    NotNil m0 fun p_21 =>
    Ld Value.map (some (p_21.add 0)) (World.drew w_8) fun v_22 =>
    Ld Value.string (some (a_1.add 1)) (World.drew w_8) fun v_23 =>
    Ef Try.prog (Builtin.delete_ #[163, 9] 0 #[(.map v_22), (.string v_23)]) id (World.drew w_8) fun v_24 w_11 =>
    Built #[(0, 1), (1, 1), (2, 48), (50, 1)] Try.z73 [] fun c_25 =>
    StN 51 (some a_2) c_25 w_11 fun w_12 =>
    LdN 51 (some a_2) w_12 fun r_26 =>
    R (.agg r_26) w_12)) (
   IfB (decide (v_3 = 3)) (
    model_Model_Do_k0 R m0 (some a_1) (some a_2) v_3 (decide (v_3 = 3)) w_2) (
    IfB (decide (v_3 = 4)) (
     model_Model_Do_k0 R m0 (some a_1) (some a_2) v_3 (decide (v_3 = 4)) w_2) (
     model_Model_Do_k0 R m0 (some a_1) (some a_2) v_3 (decide (v_3 = 5)) w_2))))
theorem model_Model_Do_ok (R : Value → World → Prop) (m0 : Option Addr) (o1 : Array Value) (w : World) (H : model_Model_Do R m0 o1 w) : CallF Try.prog 37 #[(.pointer m0), (.agg o1)] w R := by
 refine calls_of_runs (fn := Try.f37) Try.func37 rfl (Nat.le_of_ble_eq_true rfl) ?_
 show Runs _ _ 67 _ _ _ _
 unfold model_Model_Do at H
 refine ru 0 (.pointer m0) rfl ?_
 refine ru 1 (.agg o1) rfl ?_
 refine r_seq ?_
 refine r_region ?_
 refine xo_eff rfl (wo rfl) (e_box (v := (.agg o1)) rfl rfl H) ?_
 rintro _ w_1 ⟨a_1, rfl, H⟩
 refine xo_eff rfl (wo rfl) (e_alloc rfl Try.ti73 H) ?_
 rintro _ w_2 ⟨a_2, rfl, H⟩
 refine xo_end ?_
 refine r_seq ?_
 refine r_seq ?_
 refine r_region ?_
 refine xp _ rfl rfl (p_fieldAddr (off := 0) (ft := 3) (size := 1) rfl Try.underlying67 rfl Try.ti3 (by decide) rfl rfl) ?_
 obtain ⟨adv_3, v_3, hev_3, hcv_3, H⟩ := H
 refine xr (.int .i64 v_3) rfl (wo rfl) rfl Try.underlying3 rfl rfl hev_3 hcv_3 ?_
 refine xo_end ?_
 refine r_block ?_
 refine r_seq ?_
 refine r_region ?_
 refine xp _ rfl rfl (p_eq rfl rfl rfl) ?_
 refine xs (.bool (decide (v_3 = 1))) rfl rfl rfl rfl ?_
 refine xo_end ?_
 refine r_condB (b := (decide (v_3 = 1))) rfl H ?_ ?_
 ·clear H; intro hb1 H
  refine r_seq ?_
  refine r_region ?_
  refine xm (.pointer m0) rfl rfl rfl rfl ?_
  refine xp _ rfl rfl (p_fieldAddr (off := 1) (ft := 9) (size := 1) rfl Try.underlying67 rfl Try.ti9 (by decide) rfl rfl) ?_
  obtain ⟨adv_4, v_4, hev_4, hcv_4, H⟩ := H
  refine xr (.string v_4) rfl (wo rfl) rfl Try.underlying9 rfl rfl hev_4 hcv_4 ?_
  refine xp _ rfl rfl (p_fieldAddr (off := 4) (ft := 3) (size := 1) rfl Try.underlying67 rfl Try.ti3 (by decide) rfl rfl) ?_
  obtain ⟨adv_5, v_5, hev_5, hcv_5, H⟩ := H
  refine xr (.int .i64 v_5) rfl (wo rfl) rfl Try.underlying3 rfl rfl hev_5 hcv_5 ?_
  refine xo_eff rfl (wo rfl) (e_gen (s := Instr.makeMap 168 none) (enc := Value.map) rfl H) ?_
  rintro _ w_3 ⟨v_6, rfl, H⟩
  obtain ⟨c_7, hflc_7, H⟩ := H
  refine xp (.agg c_7) rfl rfl (p_buildS (places := #[(0, 1), (1, 1), (2, 1)]) rfl Try.pl170 Try.ti170 hflc_7 rfl) ?_
  refine xo_eff rfl (wo rfl) (e_box (v := (.agg c_7)) rfl rfl H) ?_
  rintro _ w_4 ⟨a_8, rfl, H⟩
  refine xo_eff rfl (wo rfl) (e_call (fn := Try.f92) H rfl rfl Try.func92 rfl rfl rfl) ?_
  rintro _ w_5 ⟨v_10, rfl, H⟩
  obtain ⟨c_11, hflc_11, H⟩ := H
  refine xp (.agg c_11) rfl rfl (p_buildS (places := #[(0, 1), (1, 1), (2, 48), (50, 1)]) rfl Try.pl73 Try.ti73 hflc_11 rfl) ?_
  refine xo_effN rfl (wo rfl) (e_storeN rfl Try.ti73 rfl rfl H) ?_
  intro _ w_6 H
  refine xo_end ?_
  obtain ⟨adr_12, r_12, her_12, hnr_12, hrr_12, H⟩ := H
  exact r_ret (fn := Try.f37) Try.func37 (res_1 rfl (resV_cellN (by decide) (by show Value.pointer _ = _; rw [her_12]) Try.underlying73 rfl Try.ti73 hnr_12 hrr_12)) H
 ·clear H; intro hb1 H
  refine r_seq ?_
  refine r_region ?_
  refine xp _ rfl rfl (p_eq rfl rfl rfl) ?_
  refine xs (.bool (decide (v_3 = 2))) rfl rfl rfl rfl ?_
  refine xo_end ?_
  refine r_condB (b := (decide (v_3 = 2))) rfl H ?_ ?_
  ·clear H; intro hb2 H
   refine r_seq ?_
   refine r_seq ?_
   refine r_draw #[[], [0], [0, 1], [0, 1, 2], [], [4], [0, 1, 2, 3, 4, 5], [0, 1, 2, 3, 4, 5, 6], [0, 1, 2, 3, 4, 5, 6, 7], [0, 1, 2, 3, 4, 5, 6, 7], [0, 1, 2, 3, 4, 5, 6, 7, 8], [0, 1, 2, 3, 4, 5, 6, 7, 8, 9, 10]] 12 rfl rfl ?_
   refine am 0 (.pointer m0) rfl rfl rfl rfl rfl ?_
   obtain ⟨p_13, hpp_13, H⟩ := H
   refine ap 1 (.pointer (some p_13)) rfl rfl rfl (p_nilCheck rfl rfl hpp_13) ?_
   refine ap 2 _ rfl rfl rfl (p_fieldAddr (off := 0) (ft := 163) (size := 1) rfl Try.underlying165 rfl Try.ti163 (by decide) rfl rfl) ?_
   obtain ⟨adv_14, v_14, hev_14, hcv_14, H⟩ := H
   refine ar 3 (.map v_14) rfl rfl (wo rfl) rfl Try.underlying163 rfl rfl hev_14 hcv_14 ?_
   refine ap 4 _ rfl rfl rfl (p_fieldAddr (off := 1) (ft := 9) (size := 1) rfl Try.underlying67 rfl Try.ti9 (by decide) rfl rfl) ?_
   obtain ⟨adv_15, v_15, hev_15, hcv_15, H⟩ := H
   refine ar 5 (.string v_15) rfl rfl (wo rfl) rfl Try.underlying9 rfl rfl hev_15 hcv_15 ?_
   refine xa_eff 6 [] (by decide +kernel) rfl rfl rfl (wo rfl) (e_genV (s := Instr.lookup 163 (.map v_14) (.string v_15) true) rfl H) ?_
   rintro _ w_8 ⟨v_16, v_17, rfl, H⟩
   refine ⟨AllHeld.nil, ?_⟩
   refine am 7 (.tuple #[(.pointer v_16), (.bool v_17)]) rfl rfl rfl rfl rfl ?_
   refine ap 8 (.pointer v_16) rfl rfl rfl (p_extract (vs := #[(.pointer v_16), (.bool v_17)]) rfl rfl rfl) ?_
   refine ap 9 (.bool v_17) rfl rfl rfl (p_extract (vs := #[(.pointer v_16), (.bool v_17)]) rfl rfl rfl) ?_
   refine as_ 10 (.pointer v_16) rfl rfl rfl rfl rfl ?_
   refine as_ 11 (.bool v_17) rfl rfl rfl rfl rfl ?_
   refine ax ?_
   refine r_seq ?_
   refine r_region ?_
   refine xm (.bool v_17) rfl rfl rfl rfl ?_
   refine xp (.bool (!v_17)) rfl rfl (p_not rfl rfl) ?_
   refine xo_end ?_
   refine r_condB (b := (!v_17)) rfl H ?_ ?_
   ·clear H; intro hb3 H
    refine r_seq ?_
    refine r_region ?_
    obtain ⟨c_19, hflc_19, H⟩ := H
    refine xp (.agg c_19) rfl rfl (p_buildS (places := #[(0, 1), (1, 1), (2, 48), (50, 1)]) rfl Try.pl73 Try.ti73 hflc_19 rfl) ?_
    refine xo_effN rfl (wo rfl) (e_storeN rfl Try.ti73 rfl rfl H) ?_
    intro _ w_9 H
    refine xo_end ?_
    obtain ⟨adr_20, r_20, her_20, hnr_20, hrr_20, H⟩ := H
    exact r_ret (fn := Try.f37) Try.func37 (res_1 rfl (resV_cellN (by decide) (by show Value.pointer _ = _; rw [her_20]) Try.underlying73 rfl Try.ti73 hnr_20 hrr_20)) H
   ·clear H; intro hb3 H
    refine r_skip ?_
    refine r_seq ?_
    refine r_draw #[[], [0], [0, 1], [0, 1, 2], [], [4], [0, 1, 2, 3, 4, 5]] 7 rfl rfl ?_
    refine am 0 (.pointer m0) rfl rfl rfl rfl rfl ?_
    obtain ⟨p_21, hpp_21, H⟩ := H
    refine ap 1 (.pointer (some p_21)) rfl rfl rfl (p_nilCheck rfl rfl hpp_21) ?_
    refine ap 2 _ rfl rfl rfl (p_fieldAddr (off := 0) (ft := 163) (size := 1) rfl Try.underlying165 rfl Try.ti163 (by decide) rfl rfl) ?_
    obtain ⟨adv_22, v_22, hev_22, hcv_22, H⟩ := H
    refine ar 3 (.map v_22) rfl rfl (wo rfl) rfl Try.underlying163 rfl rfl hev_22 hcv_22 ?_
    refine ap 4 _ rfl rfl rfl (p_fieldAddr (off := 1) (ft := 9) (size := 1) rfl Try.underlying67 rfl Try.ti9 (by decide) rfl rfl) ?_
    obtain ⟨adv_23, v_23, hev_23, hcv_23, H⟩ := H
    refine ar 5 (.string v_23) rfl rfl (wo rfl) rfl Try.underlying9 rfl rfl hev_23 hcv_23 ?_
    refine an 6 rfl rfl rfl (wo rfl) (e_biV (b := .delete) H rfl rfl rfl) fun v_24 w_11 H => ?_
    refine ax ?_
    refine r_seq ?_
    refine r_region ?_
    obtain ⟨c_25, hflc_25, H⟩ := H
    refine xp (.agg c_25) rfl rfl (p_buildS (places := #[(0, 1), (1, 1), (2, 48), (50, 1)]) rfl Try.pl73 Try.ti73 hflc_25 rfl) ?_
    refine xo_effN rfl (wo rfl) (e_storeN rfl Try.ti73 rfl rfl H) ?_
    intro _ w_12 H
    refine xo_end ?_
    obtain ⟨adr_26, r_26, her_26, hnr_26, hrr_26, H⟩ := H
    exact r_ret (fn := Try.f37) Try.func37 (res_1 rfl (resV_cellN (by decide) (by show Value.pointer _ = _; rw [her_26]) Try.underlying73 rfl Try.ti73 hnr_26 hrr_26)) H
  ·clear H; intro hb2 H
   refine r_seqJ (fun (s : Option Addr × Option Addr × Option Addr × Int × Bool) σ => upd 43 (.bool s.2.2.2.2) (upd 8 (.int .i64 s.2.2.2.1) (upd 4 (.pointer s.2.2.1) (upd 3 (.pointer s.2.1) (upd 0 (.pointer s.1) (σ)))))) (fun (s : Option Addr × Option Addr × Option Addr × Int × Bool) w => model_Model_Do_k0 R s.1 s.2.1 s.2.2.1 s.2.2.2.1 s.2.2.2.2 w) ?_ ?_
   ·rintro ⟨m0, o3, t4, t8, t43⟩ σ w H
    replace H : model_Model_Do_k0 R m0 o3 t4 t8 t43 w := H
    show Runs _ _ _ _ _ (upd 43 (.bool t43) (upd 8 (.int .i64 t8) (upd 4 (.pointer t4) (upd 3 (.pointer o3) (upd 0 (.pointer m0) (σ)))))) _
    unfold model_Model_Do_k0 at H
    refine r_condB (b := t43) rfl H ?_ ?_
    ·clear H; intro hb5 H
     refine r_seq ?_
     refine r_region ?_
     refine xm (.pointer m0) rfl rfl rfl rfl ?_
     obtain ⟨adv_27, v_27, hev_27, hnv_27, hcv_27, H⟩ := H
     refine xo_read (v := (.agg v_27)) rfl (wo rfl) (rd_loadN (ad := adv_27) rfl Try.underlying67 rfl Try.ti67 (by show Value.pointer _ = _; rw [hev_27]) hnv_27 hcv_27) ?_
     refine xo_eff rfl (wo rfl) (e_call (fn := Try.f93) H rfl rfl Try.func93 rfl rfl rfl) ?_
     rintro _ w_13 ⟨v_29, rfl, H⟩
     refine xo_effN rfl (wo rfl) (e_storeN rfl Try.ti73 rfl rfl H) ?_
     intro _ w_14 H
     refine xo_end ?_
     obtain ⟨adr_30, r_30, her_30, hnr_30, hrr_30, H⟩ := H
     exact r_ret (fn := Try.f37) Try.func37 (res_1 rfl (resV_cellN (by decide) (by show Value.pointer _ = _; rw [her_30]) Try.underlying73 rfl Try.ti73 hnr_30 hrr_30)) H
    ·clear H; intro hb5 H
     refine r_seqJ (fun (s : Option Addr × Option Addr × Option Addr × Int × Bool) σ => upd 50 (.bool s.2.2.2.2) (upd 8 (.int .i64 s.2.2.2.1) (upd 4 (.pointer s.2.2.1) (upd 3 (.pointer s.2.1) (upd 0 (.pointer s.1) (σ)))))) (fun (s : Option Addr × Option Addr × Option Addr × Int × Bool) w => model_Model_Do_k1 R s.1 s.2.1 s.2.2.1 s.2.2.2.1 s.2.2.2.2 w) ?_ ?_
     ·rintro ⟨m0, o3, t4, t8, t50⟩ σ w H
      replace H : model_Model_Do_k1 R m0 o3 t4 t8 t50 w := H
      show Runs _ _ _ _ _ (upd 50 (.bool t50) (upd 8 (.int .i64 t8) (upd 4 (.pointer t4) (upd 3 (.pointer o3) (upd 0 (.pointer m0) (σ)))))) _
      unfold model_Model_Do_k1 at H
      refine r_condB (b := t50) rfl H ?_ ?_
      ·clear H; intro hb7 H
       refine r_seq ?_
       refine r_region ?_
       refine xm (.pointer m0) rfl rfl rfl rfl ?_
       obtain ⟨adv_31, v_31, hev_31, hnv_31, hcv_31, H⟩ := H
       refine xo_read (v := (.agg v_31)) rfl (wo rfl) (rd_loadN (ad := adv_31) rfl Try.underlying67 rfl Try.ti67 (by show Value.pointer _ = _; rw [hev_31]) hnv_31 hcv_31) ?_
       refine xo_eff rfl (wo rfl) (e_call (fn := Try.f94) H rfl rfl Try.func94 rfl rfl rfl) ?_
       rintro _ w_15 ⟨v_33, rfl, H⟩
       obtain ⟨c_34, hflc_34, H⟩ := H
       refine xp (.agg c_34) rfl rfl (p_buildS (places := #[(0, 1), (1, 1), (2, 48), (50, 1)]) rfl Try.pl73 Try.ti73 hflc_34 rfl) ?_
       refine xo_effN rfl (wo rfl) (e_storeN rfl Try.ti73 rfl rfl H) ?_
       intro _ w_16 H
       refine xo_end ?_
       obtain ⟨adr_35, r_35, her_35, hnr_35, hrr_35, H⟩ := H
       exact r_ret (fn := Try.f37) Try.func37 (res_1 rfl (resV_cellN (by decide) (by show Value.pointer _ = _; rw [her_35]) Try.underlying73 rfl Try.ti73 hnr_35 hrr_35)) H
      ·clear H; intro hb7 H
       refine r_seq ?_
       refine r_region ?_
       refine xp _ rfl rfl (p_eq rfl rfl rfl) ?_
       refine xs (.bool (decide (t8 = 8))) rfl rfl rfl rfl ?_
       refine xo_end ?_
       refine r_condB (b := (decide (t8 = 8))) rfl H ?_ ?_
       ·clear H; intro hb8 H
        refine r_seq ?_
        refine r_region ?_
        refine xm (.pointer m0) rfl rfl rfl rfl ?_
        obtain ⟨p_36, hpp_36, H⟩ := H
        refine xp (.pointer (some p_36)) rfl rfl (p_nilCheck rfl rfl hpp_36) ?_
        refine xp _ rfl rfl (p_fieldAddr (off := 0) (ft := 163) (size := 1) rfl Try.underlying165 rfl Try.ti163 (by decide) rfl rfl) ?_
        obtain ⟨adv_37, v_37, hev_37, hcv_37, H⟩ := H
        refine xr (.map v_37) rfl (wo rfl) rfl Try.underlying163 rfl rfl hev_37 hcv_37 ?_
        refine xo_eff rfl (wo rfl) (e_call (fn := Try.f96) H rfl rfl Try.func96 rfl rfl rfl) ?_
        intro v_39 w_17 H
        refine xo_eff rfl (wo rfl) (e_call (fn := Try.f95) H rfl rfl Try.func95 rfl rfl rfl) ?_
        rintro _ w_18 ⟨v_41, rfl, H⟩
        obtain ⟨c_42, hflc_42, H⟩ := H
        refine xp (.agg c_42) rfl rfl (p_buildS (places := #[(0, 1), (1, 1), (2, 48), (50, 1)]) rfl Try.pl73 Try.ti73 hflc_42 rfl) ?_
        refine xo_effN rfl (wo rfl) (e_storeN rfl Try.ti73 rfl rfl H) ?_
        intro _ w_19 H
        refine xo_end ?_
        obtain ⟨adr_43, r_43, her_43, hnr_43, hrr_43, H⟩ := H
        exact r_ret (fn := Try.f37) Try.func37 (res_1 rfl (resV_cellN (by decide) (by show Value.pointer _ = _; rw [her_43]) Try.underlying73 rfl Try.ti73 hnr_43 hrr_43)) H
       ·clear H; intro hb8 H
        refine r_skip ?_
        refine r_inBlock ?_
        refine r_seq ?_
        refine r_region ?_
        obtain ⟨c_44, hflc_44, H⟩ := H
        refine xp (.agg c_44) rfl rfl (p_buildS (places := #[(0, 1), (1, 1), (2, 48), (50, 1)]) rfl Try.pl73 Try.ti73 hflc_44 rfl) ?_
        refine xo_effN rfl (wo rfl) (e_storeN rfl Try.ti73 rfl rfl H) ?_
        intro _ w_20 H
        refine xo_end ?_
        obtain ⟨adr_45, r_45, her_45, hnr_45, hrr_45, H⟩ := H
        exact r_ret (fn := Try.f37) Try.func37 (res_1 rfl (resV_cellN (by decide) (by show Value.pointer _ = _; rw [her_45]) Try.underlying73 rfl Try.ti73 hnr_45 hrr_45)) H
     ·intro J6
      refine r_seq ?_
      refine r_region ?_
      refine xp _ rfl rfl (p_eq rfl rfl rfl) ?_
      refine xs (.bool (decide (t8 = 6))) rfl rfl rfl rfl ?_
      refine xo_end ?_
      refine r_condB (b := (decide (t8 = 6))) rfl H ?_ ?_
      ·clear H; intro hb9 H
       refine r_skip ?_
       refine ru 0 (.pointer m0) rfl ?_
       refine ru 3 (.pointer o3) rfl ?_
       refine ru 4 (.pointer t4) rfl ?_
       refine ru 8 (.int .i64 t8) rfl ?_
       refine ru 50 (.bool (decide (t8 = 6))) rfl ?_
       exact J6 (m0, o3, t4, t8, (decide (t8 = 6))) _ _ H
      ·clear H; intro hb9 H
       refine r_region ?_
       refine xp _ rfl rfl (p_eq rfl rfl rfl) ?_
       refine xs (.bool (decide (t8 = 7))) rfl rfl rfl rfl ?_
       refine xo_end ?_
       refine ru 0 (.pointer m0) rfl ?_
       refine ru 3 (.pointer o3) rfl ?_
       refine ru 4 (.pointer t4) rfl ?_
       refine ru 8 (.int .i64 t8) rfl ?_
       refine ru 50 (.bool (decide (t8 = 7))) rfl ?_
       exact J6 (m0, o3, t4, t8, (decide (t8 = 7))) _ _ H
   ·intro J4
    refine r_seq ?_
    refine r_region ?_
    refine xp _ rfl rfl (p_eq rfl rfl rfl) ?_
    refine xs (.bool (decide (v_3 = 3))) rfl rfl rfl rfl ?_
    refine xo_end ?_
    refine r_condB (b := (decide (v_3 = 3))) rfl H ?_ ?_
    ·clear H; intro hb10 H
     refine r_skip ?_
     refine ru 0 (.pointer m0) rfl ?_
     refine ru 3 (.pointer (some a_1)) rfl ?_
     refine ru 4 (.pointer (some a_2)) rfl ?_
     refine ru 8 (.int .i64 v_3) rfl ?_
     refine ru 43 (.bool (decide (v_3 = 3))) rfl ?_
     exact J4 (m0, (some a_1), (some a_2), v_3, (decide (v_3 = 3))) _ _ H
    ·clear H; intro hb10 H
     refine r_seq ?_
     refine r_region ?_
     refine xp _ rfl rfl (p_eq rfl rfl rfl) ?_
     refine xs (.bool (decide (v_3 = 4))) rfl rfl rfl rfl ?_
     refine xo_end ?_
     refine r_condB (b := (decide (v_3 = 4))) rfl H ?_ ?_
     ·clear H; intro hb11 H
      refine r_skip ?_
      refine ru 0 (.pointer m0) rfl ?_
      refine ru 3 (.pointer (some a_1)) rfl ?_
      refine ru 4 (.pointer (some a_2)) rfl ?_
      refine ru 8 (.int .i64 v_3) rfl ?_
      refine ru 43 (.bool (decide (v_3 = 4))) rfl ?_
      exact J4 (m0, (some a_1), (some a_2), v_3, (decide (v_3 = 4))) _ _ H
     ·clear H; intro hb11 H
      refine r_region ?_
      refine xp _ rfl rfl (p_eq rfl rfl rfl) ?_
      refine xs (.bool (decide (v_3 = 5))) rfl rfl rfl rfl ?_
      refine xo_end ?_
      refine ru 0 (.pointer m0) rfl ?_
      refine ru 3 (.pointer (some a_1)) rfl ?_
      refine ru 4 (.pointer (some a_2)) rfl ?_
      refine ru 8 (.int .i64 v_3) rfl ?_
      refine ru 43 (.bool (decide (v_3 = 5))) rfl ?_
      exact J4 (m0, (some a_1), (some a_2), v_3, (decide (v_3 = 5))) _ _ H
end Go.Proofs
