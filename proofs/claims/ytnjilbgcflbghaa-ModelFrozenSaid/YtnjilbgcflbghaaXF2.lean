/- Laid by program. -/
import Derived.Test.YtnjilbgcflbghaaXFT
set_option linter.all false
set_option linter.unusedVariables false
set_option linter.unusedSimpArgs false
set_option maxRecDepth 20000
set_option maxHeartbeats 4000000
namespace Go.Proofs
open Go Go.X
/-! 94 (*sporran/model.Model).copied -/
def model_Model_copied_k0 (R : Value → World → Prop) (m0 : Option Addr) (o3 : Option Addr) (c7 : Option Addr) (w : World) : Prop :=
 NotNil o3 fun p_12 =>
 Ld Value.string (some (p_12.add 2)) w fun v_13 =>
 CallF Try.prog 92 #[(.pointer m0), (.string v_13), (.pointer c7), (.int .i64 5)] w fun u_14 w_5 => As (Value.int .i64) u_14 fun v_15 =>
 R (.int .i64 v_15) w_5
def model_Model_copied_k1 (R : Value → World → Prop) (m0 : Option Addr) (o3 : Option Addr) (v5 : Option Addr) (c7 : Option Addr) (w : World) : Prop :=
 NotNil v5 fun p_17 =>
 Ld Value.map (some (p_17.add 2)) w fun v_18 =>
 CallF Try.prog 152 #[(.map v_18)] w fun u_19 w_7 => As Value.map u_19 fun v_20 =>
 NotNil c7 fun p_21 =>
 St (some (p_21.add 2)) (.map v_20) w_7 fun w_8 =>
 NotNil o3 fun p_22 =>
 Ld Value.string (some (p_22.add 2)) w_8 fun v_23 =>
 CallF Try.prog 92 #[(.pointer m0), (.string v_23), (.pointer c7), (.int .i64 0)] w_8 fun u_24 w_9 => As (Value.int .i64) u_24 fun v_25 =>
 R (.int .i64 v_25) w_9
def model_Model_copied (R : Value → World → Prop) (m0 : Option Addr) (o1 : Array Value) (w : World) : Prop :=
 New o1 67 w fun a_1 w_1 =>
 NotNil m0 fun p_2 =>
 Ld Value.map (some (p_2.add 0)) (World.drew w_1) fun v_3 =>
 Ld Value.string (some (a_1.add 1)) (World.drew w_1) fun v_4 =>
 Ef Try.prog (Instr.lookup 163 (.map v_3) (.string v_4) true) id (World.drew w_1) fun u_7 w_3 => AsT2 Value.pointer Value.bool u_7 fun v_5 v_6 =>
 Ld (Value.int .i64) (some (a_1.add 4)) w_3 fun v_8 =>
 Ld (Value.int .i64) (some (a_1.add 0)) w_3 fun v_9 =>
 Built #[(0, 1), (1, 1), (2, 1)] #[(.int .i64 0), (.bool false), (.map none)] [(0, (.int .i64 v_8)), (1, (.bool (decide (v_9 = 6))))] fun c_10 =>
 New c_10 170 w_3 fun a_11 w_4 =>
 IfB (!v_6) (
  Ld Value.bool (some (a_11.add 1)) w_4 fun v_16 =>
  IfB v_16 (
   St (some (a_11.add 0)) (.int .i64 0) w_4 fun w_6 =>
   model_Model_copied_k0 R m0 (some a_1) (some a_11) w_6) (
   model_Model_copied_k0 R m0 (some a_1) (some a_11) w_4)) (
  Ld Value.bool (some (a_11.add 1)) w_4 fun v_26 =>
  IfB v_26 (
   NotNil v_5 fun p_27 =>
   Ld (Value.int .i64) (some (p_27.add 0)) w_4 fun v_28 =>
   St (some (a_11.add 0)) (.int .i64 v_28) w_4 fun w_10 =>
   model_Model_copied_k1 R m0 (some a_1) v_5 (some a_11) w_10) (
   model_Model_copied_k1 R m0 (some a_1) v_5 (some a_11) w_4))
theorem model_Model_copied_ok (R : Value → World → Prop) (m0 : Option Addr) (o1 : Array Value) (w : World) (H : model_Model_copied R m0 o1 w) : CallF Try.prog 94 #[(.pointer m0), (.agg o1)] w R := by
 refine calls_of_runs (fn := Try.f94) Try.func94 rfl (Nat.le_of_ble_eq_true rfl) ?_
 show Runs _ _ 63 _ _ _ _
 unfold model_Model_copied at H
 refine ru 0 (.pointer m0) rfl ?_
 refine ru 1 (.agg o1) rfl ?_
 refine r_seq ?_
 refine r_region ?_
 refine xo_eff rfl (wo rfl) (e_box (v := (.agg o1)) rfl rfl H) ?_
 rintro _ w_1 ⟨a_1, rfl, H⟩
 refine xs (.int .i64 0) rfl rfl rfl rfl ?_
 refine xo_end ?_
 refine r_seq ?_
 refine r_draw #[[], [0], [0, 1], [0, 1, 2], [], [4], [0, 1, 2, 3, 4, 5], [0, 1, 2, 3, 4, 5, 6], [0, 1, 2, 3, 4, 5, 6, 7], [0, 1, 2, 3, 4, 5, 6, 7], [0, 1, 2, 3, 4, 5, 6, 7, 8], [0, 1, 2, 3, 4, 5, 6, 7, 8, 9, 10]] 12 rfl rfl ?_
 refine am 0 (.pointer m0) rfl rfl rfl rfl rfl ?_
 obtain ⟨p_2, hpp_2, H⟩ := H
 refine ap 1 (.pointer (some p_2)) rfl rfl rfl (p_nilCheck rfl rfl hpp_2) ?_
 refine ap 2 _ rfl rfl rfl (p_fieldAddr (off := 0) (ft := 163) (size := 1) rfl Try.underlying165 rfl Try.ti163 (by decide) rfl rfl) ?_
 obtain ⟨adv_3, v_3, hev_3, hcv_3, H⟩ := H
 refine ar 3 (.map v_3) rfl rfl (wo rfl) rfl Try.underlying163 rfl rfl hev_3 hcv_3 ?_
 refine ap 4 _ rfl rfl rfl (p_fieldAddr (off := 1) (ft := 9) (size := 1) rfl Try.underlying67 rfl Try.ti9 (by decide) rfl rfl) ?_
 obtain ⟨adv_4, v_4, hev_4, hcv_4, H⟩ := H
 refine ar 5 (.string v_4) rfl rfl (wo rfl) rfl Try.underlying9 rfl rfl hev_4 hcv_4 ?_
 refine xa_eff 6 [] (by decide +kernel) rfl rfl rfl (wo rfl) (e_genV (s := Instr.lookup 163 (.map v_3) (.string v_4) true) rfl H) ?_
 rintro _ w_3 ⟨v_5, v_6, rfl, H⟩
 refine ⟨AllHeld.nil, ?_⟩
 refine am 7 (.tuple #[(.pointer v_5), (.bool v_6)]) rfl rfl rfl rfl rfl ?_
 refine ap 8 (.pointer v_5) rfl rfl rfl (p_extract (vs := #[(.pointer v_5), (.bool v_6)]) rfl rfl rfl) ?_
 refine ap 9 (.bool v_6) rfl rfl rfl (p_extract (vs := #[(.pointer v_5), (.bool v_6)]) rfl rfl rfl) ?_
 refine as_ 10 (.pointer v_5) rfl rfl rfl rfl rfl ?_
 refine as_ 11 (.bool v_6) rfl rfl rfl rfl rfl ?_
 refine ax ?_
 refine r_seq ?_
 refine r_region ?_
 refine xp _ rfl rfl (p_fieldAddr (off := 4) (ft := 3) (size := 1) rfl Try.underlying67 rfl Try.ti3 (by decide) rfl rfl) ?_
 obtain ⟨adv_8, v_8, hev_8, hcv_8, H⟩ := H
 refine xr (.int .i64 v_8) rfl (wo rfl) rfl Try.underlying3 rfl rfl hev_8 hcv_8 ?_
 refine xp _ rfl rfl (p_fieldAddr (off := 0) (ft := 3) (size := 1) rfl Try.underlying67 rfl Try.ti3 (by decide) rfl rfl) ?_
 obtain ⟨adv_9, v_9, hev_9, hcv_9, H⟩ := H
 refine xr (.int .i64 v_9) rfl (wo rfl) rfl Try.underlying3 rfl rfl hev_9 hcv_9 ?_
 refine xp _ rfl rfl (p_eq rfl rfl rfl) ?_
 obtain ⟨c_10, hflc_10, H⟩ := H
 refine xp (.agg c_10) rfl rfl (p_buildS (places := #[(0, 1), (1, 1), (2, 1)]) rfl Try.pl170 Try.ti170 hflc_10 rfl) ?_
 refine xo_eff rfl (wo rfl) (e_box (v := (.agg c_10)) rfl rfl H) ?_
 rintro _ w_4 ⟨a_11, rfl, H⟩
 refine xs (.pointer (some a_11)) rfl rfl rfl rfl ?_
 refine xo_end ?_
 refine r_seq ?_
 refine r_seq ?_
 refine r_region ?_
 refine xm (.bool v_6) rfl rfl rfl rfl ?_
 refine xp (.bool (!v_6)) rfl rfl (p_not rfl rfl) ?_
 refine xo_end ?_
 refine r_condB (b := (!v_6)) rfl H ?_ ?_
 ·clear H; intro hb1 H
  refine r_seqJ (fun (s : Option Addr × Option Addr × Option Addr) σ => upd 7 (.pointer s.2.2) (upd 3 (.pointer s.2.1) (upd 0 (.pointer s.1) (σ)))) (fun (s : Option Addr × Option Addr × Option Addr) w => model_Model_copied_k0 R s.1 s.2.1 s.2.2 w) ?_ ?_
  ·rintro ⟨m0, o3, c7⟩ σ w H
   replace H : model_Model_copied_k0 R m0 o3 c7 w := H
   show Runs _ _ _ _ _ (upd 7 (.pointer c7) (upd 3 (.pointer o3) (upd 0 (.pointer m0) (σ)))) _
   unfold model_Model_copied_k0 at H
   refine r_seq ?_
   refine r_region ?_
   refine xm (.pointer m0) rfl rfl rfl rfl ?_
   obtain ⟨p_12, hpp_12, H⟩ := H
   refine xp _ rfl rfl (p_fieldAddr (off := 2) (ft := 9) (size := 1) rfl Try.underlying67 rfl Try.ti9 (by decide) rfl hpp_12) ?_
   obtain ⟨adv_13, v_13, hev_13, hcv_13, H⟩ := H
   refine xr (.string v_13) rfl (wo rfl) rfl Try.underlying9 rfl rfl hev_13 hcv_13 ?_
   refine xm (.pointer c7) rfl rfl rfl rfl ?_
   refine xo_eff rfl (wo rfl) (e_call (fn := Try.f92) H rfl rfl Try.func92 rfl rfl rfl) ?_
   rintro _ w_5 ⟨v_15, rfl, H⟩
   refine xs (.int .i64 v_15) rfl rfl rfl rfl ?_
   refine xo_end ?_
   exact r_ret (fn := Try.f94) Try.func94 (res_1 rfl ⟨by decide, rfl⟩) H
  ·intro J2
   refine r_seq ?_
   refine r_region ?_
   refine xm (.pointer (some a_11)) rfl rfl rfl rfl ?_
   refine xp (.pointer (some a_11)) rfl rfl (p_nilCheck rfl rfl rfl) ?_
   refine xp _ rfl rfl (p_fieldAddr (off := 1) (ft := 4) (size := 1) rfl Try.underlying170 rfl Try.ti4 (by decide) rfl rfl) ?_
   obtain ⟨adv_16, v_16, hev_16, hcv_16, H⟩ := H
   refine xr (.bool v_16) rfl (wo rfl) rfl Try.underlying4 rfl rfl hev_16 hcv_16 ?_
   refine xo_end ?_
   refine r_condB (b := v_16) rfl H ?_ ?_
   ·clear H; intro hb3 H
    refine r_region ?_
    refine xm (.pointer (some a_11)) rfl rfl rfl rfl ?_
    refine xp (.pointer (some a_11)) rfl rfl (p_nilCheck rfl rfl rfl) ?_
    refine xp _ rfl rfl (p_fieldAddr (off := 0) (ft := 3) (size := 1) rfl Try.underlying170 rfl Try.ti3 (by decide) rfl rfl) ?_
    refine xo_effN rfl (wo rfl) (e_store rfl Try.ti3 rfl rfl rfl H) ?_
    intro _ w_6 H
    refine xo_end ?_
    refine ru 0 (.pointer m0) rfl ?_
    refine ru 3 (.pointer (some a_1)) rfl ?_
    refine ru 7 (.pointer (some a_11)) rfl ?_
    exact J2 (m0, (some a_1), (some a_11)) _ _ H
   ·clear H; intro hb3 H
    refine r_skip ?_
    refine ru 0 (.pointer m0) rfl ?_
    refine ru 3 (.pointer (some a_1)) rfl ?_
    refine ru 7 (.pointer (some a_11)) rfl ?_
    exact J2 (m0, (some a_1), (some a_11)) _ _ H
 ·clear H; intro hb1 H
  refine r_skip ?_
  refine r_seqJ (fun (s : Option Addr × Option Addr × Option Addr × Option Addr) σ => upd 7 (.pointer s.2.2.2) (upd 5 (.pointer s.2.2.1) (upd 3 (.pointer s.2.1) (upd 0 (.pointer s.1) (σ))))) (fun (s : Option Addr × Option Addr × Option Addr × Option Addr) w => model_Model_copied_k1 R s.1 s.2.1 s.2.2.1 s.2.2.2 w) ?_ ?_
  ·rintro ⟨m0, o3, v5, c7⟩ σ w H
   replace H : model_Model_copied_k1 R m0 o3 v5 c7 w := H
   show Runs _ _ _ _ _ (upd 7 (.pointer c7) (upd 5 (.pointer v5) (upd 3 (.pointer o3) (upd 0 (.pointer m0) (σ))))) _
   unfold model_Model_copied_k1 at H
   refine r_seq ?_
   refine r_region ?_
   refine xm (.pointer c7) rfl rfl rfl rfl ?_
   refine xm (.pointer v5) rfl rfl rfl rfl ?_
   obtain ⟨p_17, hpp_17, H⟩ := H
   refine xp (.pointer (some p_17)) rfl rfl (p_nilCheck rfl rfl hpp_17) ?_
   refine xp _ rfl rfl (p_fieldAddr (off := 2) (ft := 168) (size := 1) rfl Try.underlying170 rfl Try.ti168 (by decide) rfl rfl) ?_
   obtain ⟨adv_18, v_18, hev_18, hcv_18, H⟩ := H
   refine xr (.map v_18) rfl (wo rfl) rfl Try.underlying168 rfl rfl hev_18 hcv_18 ?_
   refine xo_eff rfl (wo rfl) (e_call (fn := Try.f152) H rfl rfl Try.func152 rfl rfl rfl) ?_
   rintro _ w_7 ⟨v_20, rfl, H⟩
   obtain ⟨p_21, hpp_21, H⟩ := H
   refine xp (.pointer (some p_21)) rfl rfl (p_nilCheck rfl rfl hpp_21) ?_
   refine xp _ rfl rfl (p_fieldAddr (off := 2) (ft := 168) (size := 1) rfl Try.underlying170 rfl Try.ti168 (by decide) rfl rfl) ?_
   refine xo_effN rfl (wo rfl) (e_store rfl Try.ti168 rfl rfl rfl H) ?_
   intro _ w_8 H
   refine xo_end ?_
   refine r_seq ?_
   refine r_region ?_
   refine xm (.pointer m0) rfl rfl rfl rfl ?_
   obtain ⟨p_22, hpp_22, H⟩ := H
   refine xp _ rfl rfl (p_fieldAddr (off := 2) (ft := 9) (size := 1) rfl Try.underlying67 rfl Try.ti9 (by decide) rfl hpp_22) ?_
   obtain ⟨adv_23, v_23, hev_23, hcv_23, H⟩ := H
   refine xr (.string v_23) rfl (wo rfl) rfl Try.underlying9 rfl rfl hev_23 hcv_23 ?_
   refine xm (.pointer c7) rfl rfl rfl rfl ?_
   refine xo_eff rfl (wo rfl) (e_call (fn := Try.f92) H rfl rfl Try.func92 rfl rfl rfl) ?_
   rintro _ w_9 ⟨v_25, rfl, H⟩
   refine xs (.int .i64 v_25) rfl rfl rfl rfl ?_
   refine xo_end ?_
   exact r_ret (fn := Try.f94) Try.func94 (res_1 rfl ⟨by decide, rfl⟩) H
  ·intro J4
   refine r_seq ?_
   refine r_region ?_
   refine xm (.pointer (some a_11)) rfl rfl rfl rfl ?_
   refine xp (.pointer (some a_11)) rfl rfl (p_nilCheck rfl rfl rfl) ?_
   refine xp _ rfl rfl (p_fieldAddr (off := 1) (ft := 4) (size := 1) rfl Try.underlying170 rfl Try.ti4 (by decide) rfl rfl) ?_
   obtain ⟨adv_26, v_26, hev_26, hcv_26, H⟩ := H
   refine xr (.bool v_26) rfl (wo rfl) rfl Try.underlying4 rfl rfl hev_26 hcv_26 ?_
   refine xo_end ?_
   refine r_condB (b := v_26) rfl H ?_ ?_
   ·clear H; intro hb5 H
    refine r_region ?_
    refine xm (.pointer (some a_11)) rfl rfl rfl rfl ?_
    refine xm (.pointer v_5) rfl rfl rfl rfl ?_
    obtain ⟨p_27, hpp_27, H⟩ := H
    refine xp (.pointer (some p_27)) rfl rfl (p_nilCheck rfl rfl hpp_27) ?_
    refine xp _ rfl rfl (p_fieldAddr (off := 0) (ft := 3) (size := 1) rfl Try.underlying170 rfl Try.ti3 (by decide) rfl rfl) ?_
    obtain ⟨adv_28, v_28, hev_28, hcv_28, H⟩ := H
    refine xr (.int .i64 v_28) rfl (wo rfl) rfl Try.underlying3 rfl rfl hev_28 hcv_28 ?_
    refine xp (.pointer (some a_11)) rfl rfl (p_nilCheck rfl rfl rfl) ?_
    refine xp _ rfl rfl (p_fieldAddr (off := 0) (ft := 3) (size := 1) rfl Try.underlying170 rfl Try.ti3 (by decide) rfl rfl) ?_
    refine xo_effN rfl (wo rfl) (e_store rfl Try.ti3 rfl rfl rfl H) ?_
    intro _ w_10 H
    refine xo_end ?_
    refine ru 0 (.pointer m0) rfl ?_
    refine ru 3 (.pointer (some a_1)) rfl ?_
    refine ru 5 (.pointer v_5) rfl ?_
    refine ru 7 (.pointer (some a_11)) rfl ?_
    exact J4 (m0, (some a_1), v_5, (some a_11)) _ _ H
   ·clear H; intro hb5 H
    refine r_skip ?_
    refine ru 0 (.pointer m0) rfl ?_
    refine ru 3 (.pointer (some a_1)) rfl ?_
    refine ru 5 (.pointer v_5) rfl ?_
    refine ru 7 (.pointer (some a_11)) rfl ?_
    exact J4 (m0, (some a_1), v_5, (some a_11)) _ _ H

/-! 95 slices.Sorted[string] -/
def slices_Sorted_string (R : Value → World → Prop) (seq0 : Value) (w : World) : Prop :=
 CallF Try.prog 153 #[seq0] w fun u_1 w_1 => As Sl.v u_1 fun v_2 =>
 CallF Try.prog 154 #[(Sl.v v_2)] w_1 fun _ w_2 =>
 R (Sl.v v_2) w_2
theorem slices_Sorted_string_ok (R : Value → World → Prop) (seq0 : Value) (w : World) (H : slices_Sorted_string R seq0 w) : CallF Try.prog 95 #[seq0] w R := by
 refine calls_of_runs (fn := Try.f95) Try.func95 rfl (Nat.le_of_ble_eq_true rfl) ?_
 show Runs _ _ 9 _ _ _ _
 unfold slices_Sorted_string at H
 refine ru 0 seq0 rfl ?_
 refine r_seq ?_
 refine r_region ?_
 refine xs (Sl.v Sl.nil) rfl rfl rfl rfl ?_
 refine xo_end ?_
 refine r_seq ?_
 refine r_region ?_
 refine xm seq0 rfl rfl rfl rfl ?_
 refine xo_eff rfl (wo rfl) (e_call (fn := Try.f153) H rfl rfl Try.func153 rfl rfl rfl) ?_
 rintro _ w_1 ⟨v_2, rfl, H⟩
 refine xs (Sl.v v_2) rfl rfl rfl rfl ?_
 refine xo_end ?_
 refine r_seq ?_
 refine r_region ?_
 refine xm (Sl.v v_2) rfl rfl rfl rfl ?_
 refine xo_eff rfl (wo rfl) (e_call (fn := Try.f154) H rfl rfl Try.func154 rfl rfl rfl) ?_
 intro _ w_2 H
 refine xo_end ?_
 refine r_seq ?_
 refine r_region ?_
 refine xm (Sl.v v_2) rfl rfl rfl rfl ?_
 refine xs (Sl.v v_2) rfl rfl rfl rfl ?_
 refine xo_end ?_
 exact r_ret (fn := Try.f95) Try.func95 (res_1 rfl ⟨by decide, rfl⟩) H

/-! 96 maps.Keys[map[string]*sporran/model.volume,string,*sporran/model.volume] -/
def maps_Keys_map_string_model_volume_string_model_volume (R : Value → World → Prop) (m0 : Option Nat) (w : World) : Prop :=
 New #[(.map m0)] 163 w fun a_1 w_1 =>
 R (.func (.func 155) #[] #[(.pointer (some a_1))]) w_1
theorem maps_Keys_map_string_model_volume_string_model_volume_ok (R : Value → World → Prop) (m0 : Option Nat) (w : World) (H : maps_Keys_map_string_model_volume_string_model_volume R m0 w) : CallF Try.prog 96 #[(.map m0)] w R := by
 refine calls_of_runs (fn := Try.f96) Try.func96 rfl (Nat.le_of_ble_eq_true rfl) ?_
 show Runs _ _ 4 _ _ _ _
 unfold maps_Keys_map_string_model_volume_string_model_volume at H
 refine ru 0 (.map m0) rfl ?_
 refine r_seq ?_
 refine r_region ?_
 refine xo_eff rfl (wo rfl) (e_box (v := (.map m0)) rfl rfl H) ?_
 rintro _ w_1 ⟨a_1, rfl, H⟩
 refine xs .nilFunc rfl rfl rfl rfl ?_
 refine xo_end ?_
 refine r_seq ?_
 refine r_region ?_
 refine xp (.func (.func 155) #[] #[(.pointer (some a_1))]) rfl rfl (p_makeFunc rfl rfl rfl) ?_
 refine xs (.func (.func 155) #[] #[(.pointer (some a_1))]) rfl rfl rfl rfl ?_
 refine xo_end ?_
 exact r_ret (fn := Try.f96) Try.func96 (res_1 rfl ⟨by decide, rfl⟩) H

/-! 98 slices.Sorted[int] -/
def slices_Sorted_int (R : Value → World → Prop) (seq0 : Value) (w : World) : Prop :=
 CallF Try.prog 157 #[seq0] w fun u_1 w_1 => As Sl.v u_1 fun v_2 =>
 CallF Try.prog 158 #[(Sl.v v_2)] w_1 fun _ w_2 =>
 R (Sl.v v_2) w_2
theorem slices_Sorted_int_ok (R : Value → World → Prop) (seq0 : Value) (w : World) (H : slices_Sorted_int R seq0 w) : CallF Try.prog 98 #[seq0] w R := by
 refine calls_of_runs (fn := Try.f98) Try.func98 rfl (Nat.le_of_ble_eq_true rfl) ?_
 show Runs _ _ 9 _ _ _ _
 unfold slices_Sorted_int at H
 refine ru 0 seq0 rfl ?_
 refine r_seq ?_
 refine r_region ?_
 refine xs (Sl.v Sl.nil) rfl rfl rfl rfl ?_
 refine xo_end ?_
 refine r_seq ?_
 refine r_region ?_
 refine xm seq0 rfl rfl rfl rfl ?_
 refine xo_eff rfl (wo rfl) (e_call (fn := Try.f157) H rfl rfl Try.func157 rfl rfl rfl) ?_
 rintro _ w_1 ⟨v_2, rfl, H⟩
 refine xs (Sl.v v_2) rfl rfl rfl rfl ?_
 refine xo_end ?_
 refine r_seq ?_
 refine r_region ?_
 refine xm (Sl.v v_2) rfl rfl rfl rfl ?_
 refine xo_eff rfl (wo rfl) (e_call (fn := Try.f158) H rfl rfl Try.func158 rfl rfl rfl) ?_
 intro _ w_2 H
 refine xo_end ?_
 refine r_seq ?_
 refine r_region ?_
 refine xm (Sl.v v_2) rfl rfl rfl rfl ?_
 refine xs (Sl.v v_2) rfl rfl rfl rfl ?_
 refine xo_end ?_
 exact r_ret (fn := Try.f98) Try.func98 (res_1 rfl ⟨by decide, rfl⟩) H

/-! 108 maps.Keys[map[int]sporran/api.Block,int,sporran/api.Block] -/
def maps_Keys_map_int_api_Block_int_api_Block (R : Value → World → Prop) (m0 : Option Nat) (w : World) : Prop :=
 New #[(.map m0)] 168 w fun a_1 w_1 =>
 R (.func (.func 166) #[] #[(.pointer (some a_1))]) w_1
theorem maps_Keys_map_int_api_Block_int_api_Block_ok (R : Value → World → Prop) (m0 : Option Nat) (w : World) (H : maps_Keys_map_int_api_Block_int_api_Block R m0 w) : CallF Try.prog 108 #[(.map m0)] w R := by
 refine calls_of_runs (fn := Try.f108) Try.func108 rfl (Nat.le_of_ble_eq_true rfl) ?_
 show Runs _ _ 4 _ _ _ _
 unfold maps_Keys_map_int_api_Block_int_api_Block at H
 refine ru 0 (.map m0) rfl ?_
 refine r_seq ?_
 refine r_region ?_
 refine xo_eff rfl (wo rfl) (e_box (v := (.map m0)) rfl rfl H) ?_
 rintro _ w_1 ⟨a_1, rfl, H⟩
 refine xs .nilFunc rfl rfl rfl rfl ?_
 refine xo_end ?_
 refine r_seq ?_
 refine r_region ?_
 refine xp (.func (.func 166) #[] #[(.pointer (some a_1))]) rfl rfl (p_makeFunc rfl rfl rfl) ?_
 refine xs (.func (.func 166) #[] #[(.pointer (some a_1))]) rfl rfl rfl rfl ?_
 refine xo_end ?_
 exact r_ret (fn := Try.f108) Try.func108 (res_1 rfl ⟨by decide, rfl⟩) H

/-! 125 sporran/pack.Number -/
def pack_Number_b0 (R : Value → World → Prop) (ag1 : (Sl × Int) → World → Prop) (out0 : Sl) (v1 : Int) (w : World) : Prop :=
 IfB (decide (128 ≤ v1)) (
  New #[(.int .u8 (orK .u8 (IntKind.u8.wrap v1) 128))] 5 w fun a_1 w_1 =>
  Ef Try.prog (Builtin.append_ #[39, 39] 39 #[(Sl.v out0), (Sl.v ⟨some a_1, 1, 1⟩)]) Sl.v w_1 fun v_2 w_2 =>
  ag1 (v_2, (shrK .u64 v1 7)) w_2) (
  New #[(.int .u8 (IntKind.u8.wrap v1))] 5 w fun a_3 w_3 =>
  Ef Try.prog (Builtin.append_ #[39, 39] 39 #[(Sl.v out0), (Sl.v ⟨some a_3, 1, 1⟩)]) Sl.v w_3 fun v_4 w_4 =>
  R (Sl.v v_4) w_4)
def pack_Number (R : Value → World → Prop) (out0 : Sl) (v1 : Int) (w : World) : Prop :=
 Lp (fun ag (s : Sl × Int) w => pack_Number_b0 R ag s.1 s.2 w) (out0, v1) w
theorem pack_Number_ok (R : Value → World → Prop) (out0 : Sl) (v1 : Int) (w : World) (H : pack_Number R out0 v1 w) : CallF Try.prog 125 #[(Sl.v out0), (.int .u64 v1)] w R := by
 refine calls_of_runs (fn := Try.f125) Try.func125 rfl (Nat.le_of_ble_eq_true rfl) ?_
 show Runs _ _ 20 _ _ _ _
 unfold pack_Number at H
 refine ru 0 (Sl.v out0) rfl ?_
 refine ru 1 (.int .u64 v1) rfl ?_
 refine r_seq ?_
 refine r_region ?_
 refine xs (Sl.v Sl.nil) rfl rfl rfl rfl ?_
 refine xo_end ?_
 refine r_seq ?_
 refine r_block ?_
 refine ru 0 (Sl.v out0) rfl ?_
 refine ru 1 (.int .u64 v1) rfl ?_
 refine r_loopJ (fun (s : Sl × Int) σ => upd 1 (.int .u64 s.2) (upd 0 (Sl.v s.1) (σ))) (s := (out0, v1)) H ?_
 clear H
 rintro ag1 ⟨out0, v1⟩ σ w H hag1
 replace H : pack_Number_b0 R ag1 out0 v1 w := H
 show Runs _ _ _ _ _ (upd 1 (.int .u64 v1) (upd 0 (Sl.v out0) (σ))) _
 unfold pack_Number_b0 at H
 refine r_seq ?_
 refine r_seq ?_
 refine r_region ?_
 refine xm (.int .u64 v1) rfl rfl rfl rfl ?_
 refine xp _ rfl rfl (p_ge rfl rfl rfl) ?_
 refine xo_end ?_
 refine r_condB (b := (decide (128 ≤ v1))) rfl H ?_ ?_
 ·clear H; intro hb2 H
  refine r_skip ?_
  refine r_block ?_
  refine r_seq ?_
  refine r_region ?_
  refine xm (Sl.v out0) rfl rfl rfl rfl ?_
  refine xm (.int .u64 v1) rfl rfl rfl rfl ?_
  refine xp (.int .u8 (IntKind.u8.wrap v1)) rfl rfl (p_conv rfl Try.underlying22 Try.underlying5 rfl) ?_
  refine xp (.int .u8 (orK .u8 (IntKind.u8.wrap v1) 128)) rfl rfl (p_or rfl rfl rfl) ?_
  refine xo_eff rfl (wo rfl) (e_buildRow H rfl Try.underlying39 Try.ti5 (by decide) (by decide) rfl rfl (by simp [Value.oneCell', Sl.v])) ?_
  rintro _ w_1 ⟨a_1, rfl, H⟩
  refine xo_eff rfl (wo rfl) (e_app H rfl rfl rfl) ?_
  rintro _ w_2 ⟨v_2, rfl, H⟩
  refine xs (Sl.v v_2) rfl rfl rfl rfl ?_
  refine xo_end ?_
  refine r_region ?_
  refine xm (.int .u64 v1) rfl rfl rfl rfl ?_
  refine xp (.int .u64 (shrK .u64 v1 7)) rfl rfl (p_shr rfl rfl rfl (by decide)) ?_
  refine xs (.int .u64 (shrK .u64 v1 7)) rfl rfl rfl rfl ?_
  refine xo_end ?_
  refine r_inBlock ?_
  refine ru 0 (Sl.v v_2) rfl ?_
  refine ru 1 (.int .u64 (shrK .u64 v1 7)) rfl ?_
  exact hag1 (v_2, (shrK .u64 v1 7)) _ _ H
 ·clear H; intro hb2 H
  refine r_exit rfl ?_
  refine r_seq ?_
  refine r_region ?_
  refine xm (Sl.v out0) rfl rfl rfl rfl ?_
  refine xm (.int .u64 v1) rfl rfl rfl rfl ?_
  refine xp (.int .u8 (IntKind.u8.wrap v1)) rfl rfl (p_conv rfl Try.underlying22 Try.underlying5 rfl) ?_
  refine xo_eff rfl (wo rfl) (e_buildRow H rfl Try.underlying39 Try.ti5 (by decide) (by decide) rfl rfl (by simp [Value.oneCell', Sl.v])) ?_
  rintro _ w_3 ⟨a_3, rfl, H⟩
  refine xo_eff rfl (wo rfl) (e_app H rfl rfl rfl) ?_
  rintro _ w_4 ⟨v_4, rfl, H⟩
  refine xs (Sl.v v_4) rfl rfl rfl rfl ?_
  refine xo_end ?_
  exact r_ret (fn := Try.f125) Try.func125 (res_1 rfl ⟨by decide, rfl⟩) H

/-! 126 sporran/pack.Bytes -/
def pack_Bytes (R : Value → World → Prop) (out0 : Sl) (b1 : Sl) (w : World) : Prop :=
 CallF Try.prog 125 #[(Sl.v out0), (.int .u64 (IntKind.u64.wrap (b1.len : Int)))] w fun u_1 w_1 => As Sl.v u_1 fun v_2 =>
 Ef Try.prog (Builtin.append_ #[39, 39] 39 #[(Sl.v v_2), (Sl.v b1)]) Sl.v w_1 fun v_3 w_2 =>
 R (Sl.v v_3) w_2
theorem pack_Bytes_ok (R : Value → World → Prop) (out0 : Sl) (b1 : Sl) (w : World) (H : pack_Bytes R out0 b1 w) : CallF Try.prog 126 #[(Sl.v out0), (Sl.v b1)] w R := by
 refine calls_of_runs (fn := Try.f126) Try.func126 rfl (Nat.le_of_ble_eq_true rfl) ?_
 show Runs _ _ 12 _ _ _ _
 unfold pack_Bytes at H
 refine ru 0 (Sl.v out0) rfl ?_
 refine ru 1 (Sl.v b1) rfl ?_
 refine r_seq ?_
 refine r_region ?_
 refine xs (Sl.v Sl.nil) rfl rfl rfl rfl ?_
 refine xo_end ?_
 refine r_seq ?_
 refine r_region ?_
 refine xm (Sl.v out0) rfl rfl rfl rfl ?_
 refine xm (Sl.v b1) rfl rfl rfl rfl ?_
 refine xp (.int .i64 (b1.len : Int)) rfl rfl (p_len rfl Try.underlying39 rfl) ?_
 refine xp (.int .u64 (IntKind.u64.wrap (b1.len : Int))) rfl rfl (p_conv rfl Try.underlying3 Try.underlying22 rfl) ?_
 refine xo_eff rfl (wo rfl) (e_call (fn := Try.f125) H rfl rfl Try.func125 rfl rfl rfl) ?_
 rintro _ w_1 ⟨v_2, rfl, H⟩
 refine xm (Sl.v b1) rfl rfl rfl rfl ?_
 refine xo_eff rfl (wo rfl) (e_app H rfl rfl rfl) ?_
 rintro _ w_2 ⟨v_3, rfl, H⟩
 refine xs (Sl.v v_3) rfl rfl rfl rfl ?_
 refine xo_end ?_
 exact r_ret (fn := Try.f126) Try.func126 (res_1 rfl ⟨by decide, rfl⟩) H

/-! 150 sporran/model.named -/
def model_named_k1 (R : Value → World → Prop) (ag1 : (ByteArray × Int × Int) → World → Prop) (s0 : ByteArray) (t5 : Int) (t6 : Int) (t18 : Bool) (w : World) : Prop :=
 IfB t18 (
  R (.bool false) w) (
  ag1 (s0, t5, (IntKind.i64.wrap (t6 + 1))) w)
def model_named_b0 (R : Value → World → Prop) (ag1 : (ByteArray × Int × Int) → World → Prop) (s0 : ByteArray) (t5 : Int) (t6 : Int) (w : World) : Prop :=
 IfB (decide (t6 < t5)) (
  IxA s0.size t6 (
  IfB (decide (((s0.data.toList.getD (t6).toNat 0).toNat : Int) ≤ 32)) (
   model_named_k1 R ag1 s0 t5 t6 true w) (
   IxA s0.size t6 (
   model_named_k1 R ag1 s0 t5 t6 (decide (126 < ((s0.data.toList.getD (t6).toNat 0).toNat : Int))) w)))) (
  IfB (!seq s0 (ByteArray.mk #[])) (
   R (.bool (decide ((s0.size : Int) ≤ 20))) w) (
   R (.bool false) w))
def model_named (R : Value → World → Prop) (s0 : ByteArray) (w : World) : Prop :=
 Lp (fun ag (s : ByteArray × Int × Int) w => model_named_b0 R ag s.1 s.2.1 s.2.2 w) (s0, (s0.size : Int), 0) w
theorem model_named_ok (R : Value → World → Prop) (s0 : ByteArray) (w : World) (H : model_named R s0 w) : CallF Try.prog 150 #[(.string s0)] w R := by
 refine calls_of_runs (fn := Try.f150) Try.func150 rfl (Nat.le_of_ble_eq_true rfl) ?_
 show Runs _ _ 27 _ _ _ _
 unfold model_named at H
 refine ru 0 (.string s0) rfl ?_
 refine r_seq ?_
 refine r_region ?_
 refine xs (.bool false) rfl rfl rfl rfl ?_
 refine xo_end ?_
 refine r_seq ?_
 refine r_seq ?_
 refine r_region ?_
 refine xm (.string s0) rfl rfl rfl rfl ?_
 refine xp (.int .i64 (s0.size : Int)) rfl rfl (p_lenS rfl Try.underlying9 rfl) ?_
 refine xm (.int .i64 0) rfl rfl rfl rfl ?_
 refine xo_end ?_
 refine r_block ?_
 refine ru 0 (.string s0) rfl ?_
 refine ru 5 (.int .i64 (s0.size : Int)) rfl ?_
 refine ru 6 (.int .i64 0) rfl ?_
 refine r_loopJ (fun (s : ByteArray × Int × Int) σ => upd 6 (.int .i64 s.2.2) (upd 5 (.int .i64 s.2.1) (upd 0 (.string s.1) (σ)))) (s := (s0, (s0.size : Int), 0)) H ?_
 clear H
 rintro ag1 ⟨s0, t5, t6⟩ σ w H hag1
 replace H : model_named_b0 R ag1 s0 t5 t6 w := H
 show Runs _ _ _ _ _ (upd 6 (.int .i64 t6) (upd 5 (.int .i64 t5) (upd 0 (.string s0) (σ)))) _
 unfold model_named_b0 at H
 refine r_seq ?_
 refine r_region ?_
 refine xp _ rfl rfl (p_lt rfl rfl rfl) ?_
 refine xo_end ?_
 refine r_seq ?_
 refine r_condB (b := (decide (t6 < t5))) rfl H ?_ ?_
 ·clear H; intro hb2 H
  refine r_skip ?_
  refine r_seq ?_
  refine r_block ?_
  refine r_seq ?_
  refine r_region ?_
  refine xm (.int .i64 t6) rfl rfl rfl rfl ?_
  refine xs (.int .i64 t6) rfl rfl rfl rfl ?_
  refine xo_end ?_
  refine r_seq ?_
  refine r_topJ (fun (s : ByteArray × Int × Int × Bool) σ => upd 18 (.bool s.2.2.2) (upd 6 (.int .i64 s.2.2.1) (upd 5 (.int .i64 s.2.1) (upd 0 (.string s.1) (σ))))) (fun (s : ByteArray × Int × Int × Bool) w => model_named_k1 R ag1 s.1 s.2.1 s.2.2.1 s.2.2.2 w) ?_ ?_
  ·rintro ⟨s0, t5, t6, t18⟩ σ w H
   replace H : model_named_k1 R ag1 s0 t5 t6 t18 w := H
   show Runs _ _ _ _ _ (upd 18 (.bool t18) (upd 6 (.int .i64 t6) (upd 5 (.int .i64 t5) (upd 0 (.string s0) (σ))))) _
   unfold model_named_k1 at H
   refine r_condB (b := t18) rfl H ?_ ?_
   ·clear H; intro hb4 H
    refine r_seq ?_
    refine r_region ?_
    refine xs (.bool false) rfl rfl rfl rfl ?_
    refine xo_end ?_
    exact r_ret (fn := Try.f150) Try.func150 (res_1 rfl ⟨by decide, rfl⟩) H
   ·clear H; intro hb4 H
    refine r_skip ?_
    refine r_inBlock ?_
    refine r_region ?_
    refine xp _ rfl rfl (p_add rfl rfl rfl) ?_
    refine xm (.int .i64 (IntKind.i64.wrap (t6 + 1))) rfl rfl rfl rfl ?_
    refine xo_end ?_
    refine ru 0 (.string s0) rfl ?_
    refine ru 5 (.int .i64 t5) rfl ?_
    refine ru 6 (.int .i64 (IntKind.i64.wrap (t6 + 1))) rfl ?_
    exact hag1 (s0, t5, (IntKind.i64.wrap (t6 + 1))) _ _ H
  ·intro J3
   refine r_region ?_
   refine xm (.string s0) rfl rfl rfl rfl ?_
   refine xm (.int .i64 t6) rfl rfl rfl rfl ?_
   obtain ⟨hlq_1, huq_1, H⟩ := H
   refine xp (.int .u8 ((s0.data.toList.getD (t6).toNat 0).toNat : Int)) rfl rfl (p_indexS rfl Try.underlying9 rfl rfl hlq_1 huq_1) ?_
   refine xp _ rfl rfl (p_le rfl rfl rfl) ?_
   refine xm (.bool (decide (((s0.data.toList.getD (t6).toNat 0).toNat : Int) ≤ 32))) rfl rfl rfl rfl ?_
   refine ifB_cases H ?_ ?_
   ·clear H; intro hb5 H
    refine xo_skip rfl (wn 13 rfl rfl rfl hb5) ?_
    refine xo_skip rfl (wn 13 rfl rfl rfl hb5) ?_
    refine xo_skip rfl (wn 13 rfl rfl rfl hb5) ?_
    refine xo_skip rfl (wn 13 rfl rfl rfl hb5) ?_
    refine xp (.bool true) rfl rfl (p_pickT rfl rfl hb5 rfl) ?_
    refine xo_end ?_
    refine ru 0 (.string s0) rfl ?_
    refine ru 5 (.int .i64 t5) rfl ?_
    refine ru 6 (.int .i64 t6) rfl ?_
    refine ru 18 (.bool true) rfl ?_
    exact J3 (s0, t5, t6, true) _ _ H
   ·clear H; intro hb5 H
    refine xo_pure (v := (.string s0)) rfl (wy 13 rfl rfl rfl hb5) (p_move rfl rfl) ?_
    refine xo_pure (v := (.int .i64 t6)) rfl (wy 13 rfl rfl rfl hb5) (p_move rfl rfl) ?_
    obtain ⟨hlq_2, huq_2, H⟩ := H
    refine xo_pure (v := (.int .u8 ((s0.data.toList.getD (t6).toNat 0).toNat : Int))) rfl (wy 13 rfl rfl rfl hb5) (p_indexS rfl Try.underlying9 rfl rfl hlq_2 huq_2) ?_
    refine xo_pure (v := (.bool (decide (126 < ((s0.data.toList.getD (t6).toNat 0).toNat : Int))))) rfl (wy 13 rfl rfl rfl hb5) (p_gt rfl rfl rfl) ?_
    refine xp (.bool (decide (126 < ((s0.data.toList.getD (t6).toNat 0).toNat : Int)))) rfl rfl (p_pickF rfl rfl hb5 rfl) ?_
    refine xo_end ?_
    refine ru 0 (.string s0) rfl ?_
    refine ru 5 (.int .i64 t5) rfl ?_
    refine ru 6 (.int .i64 t6) rfl ?_
    refine ru 18 (.bool (decide (126 < ((s0.data.toList.getD (t6).toNat 0).toNat : Int)))) rfl ?_
    exact J3 (s0, t5, t6, (decide (126 < ((s0.data.toList.getD (t6).toNat 0).toNat : Int)))) _ _ H
 ·clear H; intro hb2 H
  refine r_exit rfl ?_
  refine r_seq ?_
  refine r_region ?_
  refine xm (.string s0) rfl rfl rfl rfl ?_
  refine xp (.bool (!seq s0 (ByteArray.mk #[]))) rfl rfl (p_sne rfl rfl rfl) ?_
  refine xm (.bool (!seq s0 (ByteArray.mk #[]))) rfl rfl rfl rfl ?_
  refine ifB_cases H ?_ ?_
  ·clear H; intro hb6 H
   refine xo_pure (v := (.string s0)) rfl (wy 22 rfl rfl rfl hb6) (p_move rfl rfl) ?_
   refine xo_pure (v := (.int .i64 (s0.size : Int))) rfl (wy 22 rfl rfl rfl hb6) (p_lenS rfl Try.underlying9 rfl) ?_
   refine xo_pure (v := (.bool (decide ((s0.size : Int) ≤ 20)))) rfl (wy 22 rfl rfl rfl hb6) (p_le rfl rfl rfl) ?_
   refine xp (.bool (decide ((s0.size : Int) ≤ 20))) rfl rfl (p_pickT rfl rfl hb6 rfl) ?_
   refine xs (.bool (decide ((s0.size : Int) ≤ 20))) rfl rfl rfl rfl ?_
   refine xo_end ?_
   exact r_ret (fn := Try.f150) Try.func150 (res_1 rfl ⟨by decide, rfl⟩) H
  ·clear H; intro hb6 H
   refine xo_skip rfl (wn 22 rfl rfl rfl hb6) ?_
   refine xo_skip rfl (wn 22 rfl rfl rfl hb6) ?_
   refine xo_skip rfl (wn 22 rfl rfl rfl hb6) ?_
   refine xp (.bool false) rfl rfl (p_pickF rfl rfl hb6 rfl) ?_
   refine xs (.bool false) rfl rfl rfl rfl ?_
   refine xo_end ?_
   exact r_ret (fn := Try.f150) Try.func150 (res_1 rfl ⟨by decide, rfl⟩) H

/-! 151 (*sporran/model.Model).find -/
def model_Model_find_k1 (R : Value → World → Prop) (v6 : Option Addr) (t30 : Bool) (w : World) : Prop :=
 IfB t30 (
  R (.tuple #[(.pointer none), (.int .i64 10)]) w) (
  R (.tuple #[(.pointer v6), (.int .i64 0)]) w)
def model_Model_find_k0 (R : Value → World → Prop) (o3 : Option Addr) (v6 : Option Addr) (t21 : Bool) (w : World) : Prop :=
 IfB t21 (
  R (.tuple #[(.pointer none), (.int .i64 2)]) w) (
  NotNil v6 fun p_8 =>
  Ld Value.bool (some (p_8.add 1)) w fun v_9 =>
  IfB v_9 (
   NotNil o3 fun p_10 =>
   Ld (Value.int .i64) (some (p_10.add 0)) w fun v_11 =>
   model_Model_find_k1 R v6 (!decide (v_11 = 5)) w) (
   model_Model_find_k1 R v6 false w))
def model_Model_find (R : Value → World → Prop) (m0 : Option Addr) (o1 : Array Value) (w : World) : Prop :=
 New o1 67 w fun a_1 w_1 =>
 NotNil m0 fun p_2 =>
 Ld Value.map (some (p_2.add 0)) (World.drew w_1) fun v_3 =>
 Ld Value.string (some (a_1.add 1)) (World.drew w_1) fun v_4 =>
 Ef Try.prog (Instr.lookup 163 (.map v_3) (.string v_4) true) id (World.drew w_1) fun u_7 w_3 => AsT2 Value.pointer Value.bool u_7 fun v_5 v_6 =>
 IfB (!v_6) (
  R (.tuple #[(.pointer none), (.int .i64 5)]) w_3) (
  Ld (Value.int .i64) (some (a_1.add 3)) w_3 fun v_12 =>
  IfB (decide (v_12 < 0)) (
   model_Model_find_k0 R (some a_1) v_5 true w_3) (
   Ld (Value.int .i64) (some (a_1.add 3)) w_3 fun v_13 =>
   model_Model_find_k0 R (some a_1) v_5 (decide (1048576 ≤ v_13)) w_3))
theorem model_Model_find_ok (R : Value → World → Prop) (m0 : Option Addr) (o1 : Array Value) (w : World) (H : model_Model_find R m0 o1 w) : CallF Try.prog 151 #[(.pointer m0), (.agg o1)] w R := by
 refine calls_of_runs (fn := Try.f151) Try.func151 rfl (Nat.le_of_ble_eq_true rfl) ?_
 show Runs _ _ 41 _ _ _ _
 unfold model_Model_find at H
 refine ru 0 (.pointer m0) rfl ?_
 refine ru 1 (.agg o1) rfl ?_
 refine r_seq ?_
 refine r_region ?_
 refine xo_eff rfl (wo rfl) (e_box (v := (.agg o1)) rfl rfl H) ?_
 rintro _ w_1 ⟨a_1, rfl, H⟩
 refine xs (.pointer none) rfl rfl rfl rfl ?_
 refine xs (.int .i64 0) rfl rfl rfl rfl ?_
 refine xo_end ?_
 refine r_seq ?_
 refine r_draw #[[], [0], [0, 1], [0, 1, 2], [], [4], [0, 1, 2, 3, 4, 5], [0, 1, 2, 3, 4, 5, 6], [0, 1, 2, 3, 4, 5, 6, 7], [0, 1, 2, 3, 4, 5, 6, 7], [0, 1, 2, 3, 4, 5, 6, 7, 8], [0, 1, 2, 3, 4, 5, 6, 7, 8, 9, 10]] 12 rfl rfl ?_
 refine am 0 (.pointer m0) rfl rfl rfl rfl rfl ?_
 obtain ⟨p_2, hpp_2, H⟩ := H
 refine ap 1 (.pointer (some p_2)) rfl rfl rfl (p_nilCheck rfl rfl hpp_2) ?_
 refine ap 2 _ rfl rfl rfl (p_fieldAddr (off := 0) (ft := 163) (size := 1) rfl Try.underlying165 rfl Try.ti163 (by decide) rfl rfl) ?_
 obtain ⟨adv_3, v_3, hev_3, hcv_3, H⟩ := H
 refine ar 3 (.map v_3) rfl rfl (wo rfl) rfl Try.underlying163 rfl rfl hev_3 hcv_3 ?_
 refine ap 4 _ rfl rfl rfl (p_fieldAddr (off := 1) (ft := 9) (size := 1) rfl Try.underlying67 rfl Try.ti9 (by decide) rfl rfl) ?_
 obtain ⟨adv_4, v_4, hev_4, hcv_4, H⟩ := H
 refine ar 5 (.string v_4) rfl rfl (wo rfl) rfl Try.underlying9 rfl rfl hev_4 hcv_4 ?_
 refine xa_eff 6 [] (by decide +kernel) rfl rfl rfl (wo rfl) (e_genV (s := Instr.lookup 163 (.map v_3) (.string v_4) true) rfl H) ?_
 rintro _ w_3 ⟨v_5, v_6, rfl, H⟩
 refine ⟨AllHeld.nil, ?_⟩
 refine am 7 (.tuple #[(.pointer v_5), (.bool v_6)]) rfl rfl rfl rfl rfl ?_
 refine ap 8 (.pointer v_5) rfl rfl rfl (p_extract (vs := #[(.pointer v_5), (.bool v_6)]) rfl rfl rfl) ?_
 refine ap 9 (.bool v_6) rfl rfl rfl (p_extract (vs := #[(.pointer v_5), (.bool v_6)]) rfl rfl rfl) ?_
 refine as_ 10 (.pointer v_5) rfl rfl rfl rfl rfl ?_
 refine as_ 11 (.bool v_6) rfl rfl rfl rfl rfl ?_
 refine ax ?_
 refine r_seq ?_
 refine r_block ?_
 refine r_seq ?_
 refine r_region ?_
 refine xm (.bool v_6) rfl rfl rfl rfl ?_
 refine xp (.bool (!v_6)) rfl rfl (p_not rfl rfl) ?_
 refine xs (.bool (!v_6)) rfl rfl rfl rfl ?_
 refine xo_end ?_
 refine r_condB (b := (!v_6)) rfl H ?_ ?_
 ·clear H; intro hb1 H
  refine r_seq ?_
  refine r_region ?_
  refine xs (.pointer none) rfl rfl rfl rfl ?_
  refine xs (.int .i64 5) rfl rfl rfl rfl ?_
  refine xo_end ?_
  exact r_ret (fn := Try.f151) Try.func151 (res_2 rfl ⟨by decide, rfl⟩ ⟨by decide, rfl⟩) H
 ·clear H; intro hb1 H
  refine r_seq ?_
  refine r_topJ (fun (s : Option Addr × Option Addr × Bool) σ => upd 21 (.bool s.2.2) (upd 6 (.pointer s.2.1) (upd 3 (.pointer s.1) (σ)))) (fun (s : Option Addr × Option Addr × Bool) w => model_Model_find_k0 R s.1 s.2.1 s.2.2 w) ?_ ?_
  ·rintro ⟨o3, v6, t21⟩ σ w H
   replace H : model_Model_find_k0 R o3 v6 t21 w := H
   show Runs _ _ _ _ _ (upd 21 (.bool t21) (upd 6 (.pointer v6) (upd 3 (.pointer o3) (σ)))) _
   unfold model_Model_find_k0 at H
   refine r_condB (b := t21) rfl H ?_ ?_
   ·clear H; intro hb3 H
    refine r_seq ?_
    refine r_region ?_
    refine xs (.pointer none) rfl rfl rfl rfl ?_
    refine xs (.int .i64 2) rfl rfl rfl rfl ?_
    refine xo_end ?_
    exact r_ret (fn := Try.f151) Try.func151 (res_2 rfl ⟨by decide, rfl⟩ ⟨by decide, rfl⟩) H
   ·clear H; intro hb3 H
    refine r_seq ?_
    refine r_topJ (fun (s : Option Addr × Bool) σ => upd 30 (.bool s.2) (upd 6 (.pointer s.1) (σ))) (fun (s : Option Addr × Bool) w => model_Model_find_k1 R s.1 s.2 w) ?_ ?_
    ·rintro ⟨v6, t30⟩ σ w H
     replace H : model_Model_find_k1 R v6 t30 w := H
     show Runs _ _ _ _ _ (upd 30 (.bool t30) (upd 6 (.pointer v6) (σ))) _
     unfold model_Model_find_k1 at H
     refine r_condB (b := t30) rfl H ?_ ?_
     ·clear H; intro hb5 H
      refine r_seq ?_
      refine r_region ?_
      refine xs (.pointer none) rfl rfl rfl rfl ?_
      refine xs (.int .i64 10) rfl rfl rfl rfl ?_
      refine xo_end ?_
      exact r_ret (fn := Try.f151) Try.func151 (res_2 rfl ⟨by decide, rfl⟩ ⟨by decide, rfl⟩) H
     ·clear H; intro hb5 H
      refine r_skip ?_
      refine r_inBlock ?_
      refine r_seq ?_
      refine r_region ?_
      refine xm (.pointer v6) rfl rfl rfl rfl ?_
      refine xs (.pointer v6) rfl rfl rfl rfl ?_
      refine xs (.int .i64 0) rfl rfl rfl rfl ?_
      refine xo_end ?_
      exact r_ret (fn := Try.f151) Try.func151 (res_2 rfl ⟨by decide, rfl⟩ ⟨by decide, rfl⟩) H
    ·intro J4
     refine r_region ?_
     refine xm (.pointer v6) rfl rfl rfl rfl ?_
     obtain ⟨p_8, hpp_8, H⟩ := H
     refine xp (.pointer (some p_8)) rfl rfl (p_nilCheck rfl rfl hpp_8) ?_
     refine xp _ rfl rfl (p_fieldAddr (off := 1) (ft := 4) (size := 1) rfl Try.underlying170 rfl Try.ti4 (by decide) rfl rfl) ?_
     obtain ⟨adv_9, v_9, hev_9, hcv_9, H⟩ := H
     refine xr (.bool v_9) rfl (wo rfl) rfl Try.underlying4 rfl rfl hev_9 hcv_9 ?_
     refine xm (.bool v_9) rfl rfl rfl rfl ?_
     refine ifB_cases H ?_ ?_
     ·clear H; intro hb6 H
      obtain ⟨p_10, hpp_10, H⟩ := H
      refine xo_pure (v := (.pointer (some (p_10.add 0)))) rfl (wy 35 rfl rfl rfl hb6) (p_fieldAddr (off := 0) (ft := 3) (size := 1) rfl Try.underlying67 rfl Try.ti3 (by decide) rfl hpp_10) ?_
      obtain ⟨adv_11, v_11, hev_11, hcv_11, H⟩ := H
      refine xr (.int .i64 v_11) rfl (wy 35 rfl rfl rfl hb6) rfl Try.underlying3 rfl rfl hev_11 hcv_11 ?_
      refine xo_pure (v := (.bool (!decide (v_11 = 5)))) rfl (wy 35 rfl rfl rfl hb6) (p_ne rfl rfl rfl) ?_
      refine xp (.bool (!decide (v_11 = 5))) rfl rfl (p_pickT rfl rfl hb6 rfl) ?_
      refine xs (.bool (!decide (v_11 = 5))) rfl rfl rfl rfl ?_
      refine xo_end ?_
      refine ru 6 (.pointer v6) rfl ?_
      refine ru 30 (.bool (!decide (v_11 = 5))) rfl ?_
      exact J4 (v6, (!decide (v_11 = 5))) _ _ H
     ·clear H; intro hb6 H
      refine xo_skip rfl (wn 35 rfl rfl rfl hb6) ?_
      refine xo_skip rfl (wn 35 rfl rfl rfl hb6) ?_
      refine xo_skip rfl (wn 35 rfl rfl rfl hb6) ?_
      refine xp (.bool false) rfl rfl (p_pickF rfl rfl hb6 rfl) ?_
      refine xs (.bool false) rfl rfl rfl rfl ?_
      refine xo_end ?_
      refine ru 6 (.pointer v6) rfl ?_
      refine ru 30 (.bool false) rfl ?_
      exact J4 (v6, false) _ _ H
  ·intro J2
   refine r_region ?_
   refine xp _ rfl rfl (p_fieldAddr (off := 3) (ft := 3) (size := 1) rfl Try.underlying67 rfl Try.ti3 (by decide) rfl rfl) ?_
   obtain ⟨adv_12, v_12, hev_12, hcv_12, H⟩ := H
   refine xr (.int .i64 v_12) rfl (wo rfl) rfl Try.underlying3 rfl rfl hev_12 hcv_12 ?_
   refine xp _ rfl rfl (p_lt rfl rfl rfl) ?_
   refine xm (.bool (decide (v_12 < 0))) rfl rfl rfl rfl ?_
   refine ifB_cases H ?_ ?_
   ·clear H; intro hb7 H
    refine xo_skip rfl (wn 25 rfl rfl rfl hb7) ?_
    refine xo_skip rfl (wn 25 rfl rfl rfl hb7) ?_
    refine xo_skip rfl (wn 25 rfl rfl rfl hb7) ?_
    refine xp (.bool true) rfl rfl (p_pickT rfl rfl hb7 rfl) ?_
    refine xs (.bool true) rfl rfl rfl rfl ?_
    refine xo_end ?_
    refine ru 3 (.pointer (some a_1)) rfl ?_
    refine ru 6 (.pointer v_5) rfl ?_
    refine ru 21 (.bool true) rfl ?_
    exact J2 ((some a_1), v_5, true) _ _ H
   ·clear H; intro hb7 H
    refine xo_pure (v := (.pointer (some (a_1.add 3)))) rfl (wy 25 rfl rfl rfl hb7) (p_fieldAddr (off := 3) (ft := 3) (size := 1) rfl Try.underlying67 rfl Try.ti3 (by decide) rfl rfl) ?_
    obtain ⟨adv_13, v_13, hev_13, hcv_13, H⟩ := H
    refine xr (.int .i64 v_13) rfl (wy 25 rfl rfl rfl hb7) rfl Try.underlying3 rfl rfl hev_13 hcv_13 ?_
    refine xo_pure (v := (.bool (decide (1048576 ≤ v_13)))) rfl (wy 25 rfl rfl rfl hb7) (p_ge rfl rfl rfl) ?_
    refine xp (.bool (decide (1048576 ≤ v_13))) rfl rfl (p_pickF rfl rfl hb7 rfl) ?_
    refine xs (.bool (decide (1048576 ≤ v_13))) rfl rfl rfl rfl ?_
    refine xo_end ?_
    refine ru 3 (.pointer (some a_1)) rfl ?_
    refine ru 6 (.pointer v_5) rfl ?_
    refine ru 21 (.bool (decide (1048576 ≤ v_13))) rfl ?_
    exact J2 ((some a_1), v_5, (decide (1048576 ≤ v_13))) _ _ H

/-! 152 maps.Clone[map[int]sporran/api.Block,int,sporran/api.Block] -/
def maps_Clone_map_int_api_Block_int_api_Block (R : Value → World → Prop) (m0 : Option Nat) (w : World) : Prop :=
 IfB (m0.isNone) (
  R (.map none) w) (
  Ef Try.prog (Instr.makeInterface 168 (.map m0)) id w fun v_1 w_1 =>
  Ef Try.prog (XE_clone #[v_1]) id w_1 fun v_3 w_3 =>
  Ef Try.prog (Instr.typeAssert v_3 20 168 false) Value.map w_3 fun v_4 w_4 =>
  R (.map v_4) w_4)
theorem maps_Clone_map_int_api_Block_int_api_Block_ok (R : Value → World → Prop) (m0 : Option Nat) (w : World) (H : maps_Clone_map_int_api_Block_int_api_Block R m0 w) : CallF Try.prog 152 #[(.map m0)] w R := by
 refine calls_of_runs (fn := Try.f152) Try.func152 rfl (Nat.le_of_ble_eq_true rfl) ?_
 show Runs _ _ 9 _ _ _ _
 unfold maps_Clone_map_int_api_Block_int_api_Block at H
 refine ru 0 (.map m0) rfl ?_
 refine r_seq ?_
 refine r_region ?_
 refine xs (.map none) rfl rfl rfl rfl ?_
 refine xo_end ?_
 refine r_seq ?_
 refine r_seq ?_
 refine r_region ?_
 refine xm (.map m0) rfl rfl rfl rfl ?_
 refine xp (.bool (m0.isNone)) rfl rfl (p_mapNil rfl Try.underlying168 rfl rfl) ?_
 refine xo_end ?_
 refine r_condB (b := (m0.isNone)) rfl H ?_ ?_
 ·clear H; intro hb1 H
  refine r_seq ?_
  refine r_region ?_
  refine xs (.map none) rfl rfl rfl rfl ?_
  refine xo_end ?_
  exact r_ret (fn := Try.f152) Try.func152 (res_1 rfl ⟨by decide, rfl⟩) H
 ·clear H; intro hb1 H
  refine r_skip ?_
  refine r_seq ?_
  refine r_region ?_
  refine xm (.map m0) rfl rfl rfl rfl ?_
  refine xo_eff rfl (wo rfl) (e_genV (s := Instr.makeInterface 168 (.map m0)) rfl H) ?_
  intro v_1 w_1 H
  refine xo_eff rfl (wo rfl) (e_extV (fn := Try.f162) (e := XE_clone) H rfl rfl Try.func162 rfl rfl rfl rfl rfl) ?_
  intro v_3 w_3 H
  refine xo_eff rfl (wo rfl) (e_gen (s := Instr.typeAssert v_3 20 168 false) (enc := Value.map) rfl H) ?_
  rintro _ w_4 ⟨v_4, rfl, H⟩
  refine xs (.map v_4) rfl rfl rfl rfl ?_
  refine xo_end ?_
  exact r_ret (fn := Try.f152) Try.func152 (res_1 rfl ⟨by decide, rfl⟩) H

/-! 153 slices.Collect[string] -/
def slices_Collect_string (R : Value → World → Prop) (seq0 : Value) (w : World) : Prop :=
 CallF Try.prog 192 #[(Sl.v Sl.nil), seq0] w fun u_1 w_1 => As Sl.v u_1 fun v_2 =>
 R (Sl.v v_2) w_1
theorem slices_Collect_string_ok (R : Value → World → Prop) (seq0 : Value) (w : World) (H : slices_Collect_string R seq0 w) : CallF Try.prog 153 #[seq0] w R := by
 refine calls_of_runs (fn := Try.f153) Try.func153 rfl (Nat.le_of_ble_eq_true rfl) ?_
 show Runs _ _ 5 _ _ _ _
 unfold slices_Collect_string at H
 refine ru 0 seq0 rfl ?_
 refine r_seq ?_
 refine r_region ?_
 refine xs (Sl.v Sl.nil) rfl rfl rfl rfl ?_
 refine xo_end ?_
 refine r_seq ?_
 refine r_region ?_
 refine xm seq0 rfl rfl rfl rfl ?_
 refine xo_eff rfl (wo rfl) (e_call (fn := Try.f192) H rfl rfl Try.func192 rfl rfl rfl) ?_
 rintro _ w_1 ⟨v_2, rfl, H⟩
 refine xs (Sl.v v_2) rfl rfl rfl rfl ?_
 refine xo_end ?_
 exact r_ret (fn := Try.f153) Try.func153 (res_1 rfl ⟨by decide, rfl⟩) H

/-! 154 slices.Sort[[]string,string] -/
def slices_Sort_string_string (R : Value → World → Prop) (x0 : Sl) (w : World) : Prop :=
 CallF Try.prog 194 #[(.int .u64 (IntKind.u64.wrap (x0.len : Int)))] w fun u_1 w_1 => As (Value.int .i64) u_1 fun v_2 =>
 CallF Try.prog 193 #[(Sl.v x0), (.int .i64 0), (.int .i64 (x0.len : Int)), (.int .i64 v_2)] w_1 fun _ w_2 =>
 R (.tuple #[]) w_2
theorem slices_Sort_string_string_ok (R : Value → World → Prop) (x0 : Sl) (w : World) (H : slices_Sort_string_string R x0 w) : CallF Try.prog 154 #[(Sl.v x0)] w R := by
 refine calls_of_runs (fn := Try.f154) Try.func154 rfl (Nat.le_of_ble_eq_true rfl) ?_
 show Runs _ _ 11 _ _ _ _
 unfold slices_Sort_string_string at H
 refine ru 0 (Sl.v x0) rfl ?_
 refine r_seq ?_
 refine r_region ?_
 refine xm (Sl.v x0) rfl rfl rfl rfl ?_
 refine xp (.int .i64 (x0.len : Int)) rfl rfl (p_len rfl Try.underlying71 rfl) ?_
 refine xs (.int .i64 (x0.len : Int)) rfl rfl rfl rfl ?_
 refine xo_end ?_
 refine r_region ?_
 refine xm (Sl.v x0) rfl rfl rfl rfl ?_
 refine xm (.int .i64 (x0.len : Int)) rfl rfl rfl rfl ?_
 refine xm (.int .i64 (x0.len : Int)) rfl rfl rfl rfl ?_
 refine xp (.int .u64 (IntKind.u64.wrap (x0.len : Int))) rfl rfl (p_conv rfl Try.underlying3 Try.underlying234 rfl) ?_
 refine xo_eff rfl (wo rfl) (e_call (fn := Try.f194) H rfl rfl Try.func194 rfl rfl rfl) ?_
 rintro _ w_1 ⟨v_2, rfl, H⟩
 refine xo_eff rfl (wo rfl) (e_call (fn := Try.f193) H rfl rfl Try.func193 rfl rfl rfl) ?_
 intro _ w_2 H
 refine xo_end ?_
 exact r_end (fn := Try.f154) Try.func154 (res_0 rfl ) H

/-! 155 maps.Keys[map[string]*sporran/model.volume,string,*sporran/model.volume]$1 -/
def maps_Keys_map_string_model_volume_string_model_volume_1_b0 (R : Value → World → Prop) (ag1 : (Value × Value) → World → Prop) (yield0 : Value) (t5 : Value) (w : World) : Prop :=
 Ef Try.prog (Instr.next t5 false 0) id w fun u_5 w_2 => AsNext u_5 fun vs_3 b_4 =>
 IfB b_4 (
  Ef Try.prog (Instr.entry t5) id w_2 fun u_8 w_3 => AsT2 Value.string Value.pointer u_8 fun v_6 v_7 =>
  CallV Try.prog yield0 #[(.string v_6)] w_3 fun u_9 w_4 => As Value.bool u_9 fun v_10 =>
  IfB (!v_10) (
   R (.tuple #[]) w_4) (
   ag1 (yield0, t5) w_4)) (
  R (.tuple #[]) w_2)
def maps_Keys_map_string_model_volume_string_model_volume_1 (R : Value → World → Prop) (yield0 : Value) (x1 : Option Addr) (w : World) : Prop :=
 Ld Value.map x1 w fun v_1 =>
 Ef Try.prog (Instr.range 163 (.map v_1)) id w fun v_2 w_1 =>
 Lp (fun ag (s : Value × Value) w => maps_Keys_map_string_model_volume_string_model_volume_1_b0 R ag s.1 s.2 w) (yield0, v_2) w_1
theorem maps_Keys_map_string_model_volume_string_model_volume_1_ok (R : Value → World → Prop) (yield0 : Value) (x1 : Option Addr) (w : World) (H : maps_Keys_map_string_model_volume_string_model_volume_1 R yield0 x1 w) : CallF Try.prog 155 #[yield0, (.pointer x1)] w R := by
 refine calls_of_runs (fn := Try.f155) Try.func155 rfl (Nat.le_of_ble_eq_true rfl) ?_
 show Runs _ _ 14 _ _ _ _
 unfold maps_Keys_map_string_model_volume_string_model_volume_1 at H
 refine ru 0 yield0 rfl ?_
 refine ru 1 (.pointer x1) rfl ?_
 refine r_seq ?_
 refine r_region ?_
 obtain ⟨adv_1, v_1, hev_1, hcv_1, H⟩ := H
 refine xr (.map v_1) rfl (wo rfl) rfl Try.underlying163 rfl rfl hev_1 hcv_1 ?_
 refine xo_eff rfl (wo rfl) (e_genV (s := Instr.range 163 (.map v_1)) rfl H) ?_
 intro v_2 w_1 H
 refine xo_end ?_
 refine r_block ?_
 refine ru 0 yield0 rfl ?_
 refine ru 5 v_2 rfl ?_
 refine r_loopJ (fun (s : Value × Value) σ => upd 5 s.2 (upd 0 s.1 (σ))) (s := (yield0, v_2)) H ?_
 clear H
 rintro ag1 ⟨yield0, t5⟩ σ w H hag1
 replace H : maps_Keys_map_string_model_volume_string_model_volume_1_b0 R ag1 yield0 t5 w := H
 show Runs _ _ _ _ _ (upd 5 t5 (upd 0 yield0 (σ))) _
 unfold maps_Keys_map_string_model_volume_string_model_volume_1_b0 at H
 refine r_seq ?_
 refine r_region ?_
 refine xo_eff rfl (wo rfl) (e_genV (s := Instr.next t5 false 0) rfl H) ?_
 rintro _ w_2 ⟨vs_3, b_4, rfl, hxb_4, H⟩
 refine xp (.bool b_4) rfl rfl (p_extract (vs := vs_3) rfl rfl hxb_4) ?_
 refine xo_end ?_
 refine r_seq ?_
 refine r_condB (b := b_4) rfl H ?_ ?_
 ·clear H; intro hb2 H
  refine r_skip ?_
  refine r_block ?_
  refine r_seq ?_
  refine r_region ?_
  refine xo_eff rfl (wo rfl) (e_genV (s := Instr.entry t5) rfl H) ?_
  rintro _ w_3 ⟨v_6, v_7, rfl, H⟩
  refine xp (.string v_6) rfl rfl (p_extract (vs := #[(.string v_6), (.pointer v_7)]) rfl rfl rfl) ?_
  refine xs (.string v_6) rfl rfl rfl rfl ?_
  refine xo_end ?_
  refine r_seq ?_
  refine r_region ?_
  refine xm yield0 rfl rfl rfl rfl ?_
  refine xm (.string v_6) rfl rfl rfl rfl ?_
  refine xo_eff rfl (wo rfl) (e_callv H rfl rfl rfl) ?_
  rintro _ w_4 ⟨v_10, rfl, H⟩
  refine xp (.bool (!v_10)) rfl rfl (p_not rfl rfl) ?_
  refine xo_end ?_
  refine r_condB (b := (!v_10)) rfl H ?_ ?_
  ·clear H; intro hb3 H
   exact r_ret (fn := Try.f155) Try.func155 (res_0 rfl ) H
  ·clear H; intro hb3 H
   refine r_skip ?_
   refine r_inBlock ?_
   refine ru 0 yield0 rfl ?_
   refine ru 5 t5 rfl ?_
   exact hag1 (yield0, t5) _ _ H
 ·clear H; intro hb2 H
  refine r_exit rfl ?_
  exact r_end (fn := Try.f155) Try.func155 (res_0 rfl ) H

/-! 157 slices.Collect[int] -/
def slices_Collect_int (R : Value → World → Prop) (seq0 : Value) (w : World) : Prop :=
 CallF Try.prog 195 #[(Sl.v Sl.nil), seq0] w fun u_1 w_1 => As Sl.v u_1 fun v_2 =>
 R (Sl.v v_2) w_1
theorem slices_Collect_int_ok (R : Value → World → Prop) (seq0 : Value) (w : World) (H : slices_Collect_int R seq0 w) : CallF Try.prog 157 #[seq0] w R := by
 refine calls_of_runs (fn := Try.f157) Try.func157 rfl (Nat.le_of_ble_eq_true rfl) ?_
 show Runs _ _ 5 _ _ _ _
 unfold slices_Collect_int at H
 refine ru 0 seq0 rfl ?_
 refine r_seq ?_
 refine r_region ?_
 refine xs (Sl.v Sl.nil) rfl rfl rfl rfl ?_
 refine xo_end ?_
 refine r_seq ?_
 refine r_region ?_
 refine xm seq0 rfl rfl rfl rfl ?_
 refine xo_eff rfl (wo rfl) (e_call (fn := Try.f195) H rfl rfl Try.func195 rfl rfl rfl) ?_
 rintro _ w_1 ⟨v_2, rfl, H⟩
 refine xs (Sl.v v_2) rfl rfl rfl rfl ?_
 refine xo_end ?_
 exact r_ret (fn := Try.f157) Try.func157 (res_1 rfl ⟨by decide, rfl⟩) H

/-! 158 slices.Sort[[]int,int] -/
def slices_Sort_int_int (R : Value → World → Prop) (x0 : Sl) (w : World) : Prop :=
 CallF Try.prog 194 #[(.int .u64 (IntKind.u64.wrap (x0.len : Int)))] w fun u_1 w_1 => As (Value.int .i64) u_1 fun v_2 =>
 CallF Try.prog 196 #[(Sl.v x0), (.int .i64 0), (.int .i64 (x0.len : Int)), (.int .i64 v_2)] w_1 fun _ w_2 =>
 R (.tuple #[]) w_2
theorem slices_Sort_int_int_ok (R : Value → World → Prop) (x0 : Sl) (w : World) (H : slices_Sort_int_int R x0 w) : CallF Try.prog 158 #[(Sl.v x0)] w R := by
 refine calls_of_runs (fn := Try.f158) Try.func158 rfl (Nat.le_of_ble_eq_true rfl) ?_
 show Runs _ _ 11 _ _ _ _
 unfold slices_Sort_int_int at H
 refine ru 0 (Sl.v x0) rfl ?_
 refine r_seq ?_
 refine r_region ?_
 refine xm (Sl.v x0) rfl rfl rfl rfl ?_
 refine xp (.int .i64 (x0.len : Int)) rfl rfl (p_len rfl Try.underlying184 rfl) ?_
 refine xs (.int .i64 (x0.len : Int)) rfl rfl rfl rfl ?_
 refine xo_end ?_
 refine r_region ?_
 refine xm (Sl.v x0) rfl rfl rfl rfl ?_
 refine xm (.int .i64 (x0.len : Int)) rfl rfl rfl rfl ?_
 refine xm (.int .i64 (x0.len : Int)) rfl rfl rfl rfl ?_
 refine xp (.int .u64 (IntKind.u64.wrap (x0.len : Int))) rfl rfl (p_conv rfl Try.underlying3 Try.underlying234 rfl) ?_
 refine xo_eff rfl (wo rfl) (e_call (fn := Try.f194) H rfl rfl Try.func194 rfl rfl rfl) ?_
 rintro _ w_1 ⟨v_2, rfl, H⟩
 refine xo_eff rfl (wo rfl) (e_call (fn := Try.f196) H rfl rfl Try.func196 rfl rfl rfl) ?_
 intro _ w_2 H
 refine xo_end ?_
 exact r_end (fn := Try.f158) Try.func158 (res_0 rfl ) H

/-! 166 maps.Keys[map[int]sporran/api.Block,int,sporran/api.Block]$1 -/
def maps_Keys_map_int_api_Block_int_api_Block_1_b0 (R : Value → World → Prop) (ag1 : (Value × Value) → World → Prop) (yield0 : Value) (t5 : Value) (w : World) : Prop :=
 Ef Try.prog (Instr.next t5 false 0) id w fun u_5 w_2 => AsNext u_5 fun vs_3 b_4 =>
 IfB b_4 (
  Ef Try.prog (Instr.entry t5) id w_2 fun u_8 w_3 => AsT2 (Value.int .i64) Value.agg u_8 fun v_6 v_7 =>
  CallV Try.prog yield0 #[(.int .i64 v_6)] w_3 fun u_9 w_4 => As Value.bool u_9 fun v_10 =>
  IfB (!v_10) (
   R (.tuple #[]) w_4) (
   ag1 (yield0, t5) w_4)) (
  R (.tuple #[]) w_2)
def maps_Keys_map_int_api_Block_int_api_Block_1 (R : Value → World → Prop) (yield0 : Value) (x1 : Option Addr) (w : World) : Prop :=
 Ld Value.map x1 w fun v_1 =>
 Ef Try.prog (Instr.range 168 (.map v_1)) id w fun v_2 w_1 =>
 Lp (fun ag (s : Value × Value) w => maps_Keys_map_int_api_Block_int_api_Block_1_b0 R ag s.1 s.2 w) (yield0, v_2) w_1
theorem maps_Keys_map_int_api_Block_int_api_Block_1_ok (R : Value → World → Prop) (yield0 : Value) (x1 : Option Addr) (w : World) (H : maps_Keys_map_int_api_Block_int_api_Block_1 R yield0 x1 w) : CallF Try.prog 166 #[yield0, (.pointer x1)] w R := by
 refine calls_of_runs (fn := Try.f166) Try.func166 rfl (Nat.le_of_ble_eq_true rfl) ?_
 show Runs _ _ 14 _ _ _ _
 unfold maps_Keys_map_int_api_Block_int_api_Block_1 at H
 refine ru 0 yield0 rfl ?_
 refine ru 1 (.pointer x1) rfl ?_
 refine r_seq ?_
 refine r_region ?_
 obtain ⟨adv_1, v_1, hev_1, hcv_1, H⟩ := H
 refine xr (.map v_1) rfl (wo rfl) rfl Try.underlying168 rfl rfl hev_1 hcv_1 ?_
 refine xo_eff rfl (wo rfl) (e_genV (s := Instr.range 168 (.map v_1)) rfl H) ?_
 intro v_2 w_1 H
 refine xo_end ?_
 refine r_block ?_
 refine ru 0 yield0 rfl ?_
 refine ru 5 v_2 rfl ?_
 refine r_loopJ (fun (s : Value × Value) σ => upd 5 s.2 (upd 0 s.1 (σ))) (s := (yield0, v_2)) H ?_
 clear H
 rintro ag1 ⟨yield0, t5⟩ σ w H hag1
 replace H : maps_Keys_map_int_api_Block_int_api_Block_1_b0 R ag1 yield0 t5 w := H
 show Runs _ _ _ _ _ (upd 5 t5 (upd 0 yield0 (σ))) _
 unfold maps_Keys_map_int_api_Block_int_api_Block_1_b0 at H
 refine r_seq ?_
 refine r_region ?_
 refine xo_eff rfl (wo rfl) (e_genV (s := Instr.next t5 false 0) rfl H) ?_
 rintro _ w_2 ⟨vs_3, b_4, rfl, hxb_4, H⟩
 refine xp (.bool b_4) rfl rfl (p_extract (vs := vs_3) rfl rfl hxb_4) ?_
 refine xo_end ?_
 refine r_seq ?_
 refine r_condB (b := b_4) rfl H ?_ ?_
 ·clear H; intro hb2 H
  refine r_skip ?_
  refine r_block ?_
  refine r_seq ?_
  refine r_region ?_
  refine xo_eff rfl (wo rfl) (e_genV (s := Instr.entry t5) rfl H) ?_
  rintro _ w_3 ⟨v_6, v_7, rfl, H⟩
  refine xp (.int .i64 v_6) rfl rfl (p_extract (vs := #[(.int .i64 v_6), (.agg v_7)]) rfl rfl rfl) ?_
  refine xs (.int .i64 v_6) rfl rfl rfl rfl ?_
  refine xo_end ?_
  refine r_seq ?_
  refine r_region ?_
  refine xm yield0 rfl rfl rfl rfl ?_
  refine xm (.int .i64 v_6) rfl rfl rfl rfl ?_
  refine xo_eff rfl (wo rfl) (e_callv H rfl rfl rfl) ?_
  rintro _ w_4 ⟨v_10, rfl, H⟩
  refine xp (.bool (!v_10)) rfl rfl (p_not rfl rfl) ?_
  refine xo_end ?_
  refine r_condB (b := (!v_10)) rfl H ?_ ?_
  ·clear H; intro hb3 H
   exact r_ret (fn := Try.f166) Try.func166 (res_0 rfl ) H
  ·clear H; intro hb3 H
   refine r_skip ?_
   refine r_inBlock ?_
   refine ru 0 yield0 rfl ?_
   refine ru 5 t5 rfl ?_
   exact hag1 (yield0, t5) _ _ H
 ·clear H; intro hb2 H
  refine r_exit rfl ?_
  exact r_end (fn := Try.f166) Try.func166 (res_0 rfl ) H

/-! 192 slices.AppendSeq[[]string,string] -/
def slices_AppendSeq_string_string_r0 (R : Value → World → Prop)  (l : Nat) (lr : Loop) (s2 : Option Addr) (y7 : ByteArray) (w : World) : Prop :=
 BegR l lr w fun w_2 =>
 Ld Sl.v s2 w_2 fun v_2 =>
 New #[(.string y7)] 9 w_2 fun a_3 w_3 =>
 Ef Try.prog (Builtin.append_ #[71, 71] 71 #[(Sl.v v_2), (Sl.v ⟨some a_3, 1, 1⟩)]) Sl.v w_3 fun v_4 w_4 =>
 St s2 (Sl.v v_4) w_4 fun w_5 =>
 EndR l lr none w_5 R
def slices_AppendSeq_string_string (R : Value → World → Prop) (s0 : Sl) (seq1 : Value) (w : World) : Prop :=
 New #[(Sl.v s0)] 71 w fun a_1 w_1 =>
 RF Try.prog seq1 (fun l lr args w K => ∃ (y7 : ByteArray), args = #[(.string y7)] ∧ slices_AppendSeq_string_string_r0 K  l lr (some a_1) y7 w) w_1 fun r_5 c_6 w_6 =>
  (c_6 = none ∧ (
   Ld Sl.v (some a_1) w_6 fun v_7 =>
   Und r_5 w_6 fun w_7 =>
   R (Sl.v v_7) w_7))
theorem slices_AppendSeq_string_string_ok (R : Value → World → Prop) (s0 : Sl) (seq1 : Value) (w : World) (H : slices_AppendSeq_string_string R s0 seq1 w) : CallF Try.prog 192 #[(Sl.v s0), seq1] w R := by
 refine calls_of_runs (fn := Try.f192) Try.func192 rfl (Nat.le_of_ble_eq_true rfl) ?_
 show Runs _ _ 13 _ _ _ _
 unfold slices_AppendSeq_string_string at H
 refine ru 0 (Sl.v s0) rfl ?_
 refine ru 1 seq1 rfl ?_
 refine r_seq ?_
 refine r_region ?_
 refine xo_eff rfl (wo rfl) (e_box (v := (Sl.v s0)) rfl rfl H) ?_
 rintro _ w_1 ⟨a_1, rfl, H⟩
 refine xs (Sl.v Sl.nil) rfl rfl rfl rfl ?_
 refine xo_end ?_
 refine r_seq ?_
 refine r_seq ?_
 refine r_region ?_
 refine xm seq1 rfl rfl rfl rfl ?_
 refine xo_end ?_
 refine r_block ?_
 refine r_rangeJ (fun (s : Option Addr × ByteArray) σ => upd 7 (.string s.2) (upd 2 (.pointer s.1) (σ))) (fun K l lr (s : Option Addr × ByteArray) w => slices_AppendSeq_string_string_r0 K  l lr s.1 s.2 w) ?_ ?_
 ·rintro R l lr ⟨s2, y7⟩ σ w H
  replace H : slices_AppendSeq_string_string_r0 R  l lr s2 y7 w := H
  show Runs _ _ _ _ _ (upd 7 (.string y7) (upd 2 (.pointer s2) (σ))) _
  unfold slices_AppendSeq_string_string_r0 at H
  refine r_region ?_
  refine xs (.string y7) rfl rfl rfl rfl ?_
  refine xo_end ?_
  obtain ⟨hbeg, H⟩ := H
  refine r_beg (l := l) rfl hbeg ?_
  generalize hww_2 : World.putObj _ _ _ = w_2 at H ⊢
  clear hww_2 hbeg
  refine r_block ?_
  refine r_region ?_
  obtain ⟨adv_2, v_2, hev_2, hcv_2, H⟩ := H
  refine xr (Sl.v v_2) rfl (wo rfl) rfl Try.underlying71 rfl rfl hev_2 hcv_2 ?_
  refine xm (.string y7) rfl rfl rfl rfl ?_
  refine xo_eff rfl (wo rfl) (e_buildRow H rfl Try.underlying71 Try.ti9 (by decide) (by decide) rfl rfl (by simp [Value.oneCell', Sl.v])) ?_
  rintro _ w_3 ⟨a_3, rfl, H⟩
  refine xo_eff rfl (wo rfl) (e_app H rfl rfl rfl) ?_
  rintro _ w_4 ⟨v_4, rfl, H⟩
  refine xo_effN rfl (wo rfl) (e_store rfl Try.ti71 rfl rfl rfl H) ?_
  intro _ w_5 H
  refine xo_end ?_
  refine r_inBlock ?_
  exact r_rEnd (l := l) (lr := lr) rfl H
 ·intro J1
  refine r_range rfl rfl H ?_ ?_
  ·clear H; rintro l lr args w K ⟨y7, rfl, H⟩
   refine ⟨[(.string y7)], rfl, rfl, ?_⟩
   refine ru 2 (.pointer (some a_1)) rfl ?_
   refine ru 7 (.string y7) rfl ?_
   exact J1 _ _ _ ((some a_1), y7) _ _ H
  ·clear H; rintro r_5 c_6 w_6 H
   obtain ⟨rfl, H⟩ := H
   refine rj_none ?_
   refine r_inBlock ?_
   refine r_seq ?_
   refine r_region ?_
   obtain ⟨adv_7, v_7, hev_7, hcv_7, H⟩ := H
   refine xr (Sl.v v_7) rfl (wo rfl) rfl Try.underlying71 rfl rfl hev_7 hcv_7 ?_
   refine xs (Sl.v v_7) rfl rfl rfl rfl ?_
   refine xo_end ?_
   obtain ⟨hund, H⟩ := H
   generalize hwund : World.putObj _ _ _ = w_7 at H
   exact r_ret1 (fn := Try.f192) Try.func192 (res_1 rfl ⟨by decide, rfl⟩) H hund hwund.symm

/-! 193 slices.pdqsortOrdered[string] -/
def slices_pdqsortOrdered_string_k4 (R : Value → World → Prop) (ag1 : (Sl × Int × Int × Int × Bool × Bool) → World → Prop) (data0 : Sl) (a1 : Int) (b2 : Int) (limit3 : Int) (wasBalanced8 : Bool) (wasPartitioned9 : Bool) (length10 : Int) (pivot11 : Int) (t87 : Bool) (w : World) : Prop :=
 IfB t87 (
  CallF Try.prog 215 #[(Sl.v data0), (.int .i64 a1), (.int .i64 b2), (.int .i64 pivot11)] w fun u_6 w_4 => As (Value.int .i64) u_6 fun v_7 =>
  ag1 (data0, v_7, b2, limit3, wasBalanced8, wasPartitioned9) w_4) (
  CallF Try.prog 216 #[(Sl.v data0), (.int .i64 a1), (.int .i64 b2), (.int .i64 pivot11)] w fun u_8 w_5 => AsT2 (Value.int .i64) Value.bool u_8 fun v_9 v_10 =>
  IfB (decide ((IntKind.i64.wrap (v_9 - a1)) < (IntKind.i64.wrap (b2 - v_9)))) (
   CallF Try.prog 193 #[(Sl.v data0), (.int .i64 a1), (.int .i64 v_9), (.int .i64 limit3)] w_5 fun _ w_6 =>
   ag1 (data0, (IntKind.i64.wrap (v_9 + 1)), b2, limit3, (decide ((IntKind.i64.wrap (Int.tdiv length10 8)) ≤ (IntKind.i64.wrap (v_9 - a1)))), v_10) w_6) (
   CallF Try.prog 193 #[(Sl.v data0), (.int .i64 (IntKind.i64.wrap (v_9 + 1))), (.int .i64 b2), (.int .i64 limit3)] w_5 fun _ w_7 =>
   ag1 (data0, a1, v_9, limit3, (decide ((IntKind.i64.wrap (Int.tdiv length10 8)) ≤ (IntKind.i64.wrap (b2 - v_9)))), v_10) w_7))
def slices_pdqsortOrdered_string_k3 (R : Value → World → Prop) (ag1 : (Sl × Int × Int × Int × Bool × Bool) → World → Prop) (data0 : Sl) (a1 : Int) (b2 : Int) (limit3 : Int) (wasBalanced8 : Bool) (wasPartitioned9 : Bool) (length10 : Int) (pivot11 : Int) (w : World) : Prop :=
 IfB (decide (0 < a1)) (
  Ix data0 (IntKind.i64.wrap (a1 - 1)) fun p_13 =>
  Ld Value.string (some (p_13.add ((IntKind.i64.wrap (a1 - 1)).toNat * 1))) (World.drew w) fun v_14 =>
  Ix data0 pivot11 fun p_15 =>
  Ld Value.string (some (p_15.add (pivot11.toNat * 1))) (World.drew w) fun v_16 =>
  CallF Try.prog 214 #[(.string v_14), (.string v_16)] (World.drew w) fun u_17 w_9 => As Value.bool u_17 fun v_18 =>
  slices_pdqsortOrdered_string_k4 R ag1 data0 a1 b2 limit3 wasBalanced8 wasPartitioned9 length10 pivot11 (!v_18) w_9) (
  slices_pdqsortOrdered_string_k4 R ag1 data0 a1 b2 limit3 wasBalanced8 wasPartitioned9 length10 pivot11 false (World.drew w))
def slices_pdqsortOrdered_string_k5 (R : Value → World → Prop) (ag1 : (Sl × Int × Int × Int × Bool × Bool) → World → Prop) (data0 : Sl) (a1 : Int) (b2 : Int) (limit3 : Int) (wasBalanced8 : Bool) (wasPartitioned9 : Bool) (length10 : Int) (pivot11 : Int) (t68 : Bool) (w : World) : Prop :=
 IfB t68 (
  CallF Try.prog 213 #[(Sl.v data0), (.int .i64 a1), (.int .i64 b2)] w fun u_19 w_10 => As Value.bool u_19 fun v_20 =>
  IfB v_20 (
   R (.tuple #[]) w_10) (
   slices_pdqsortOrdered_string_k3 R ag1 data0 a1 b2 limit3 wasBalanced8 wasPartitioned9 length10 pivot11 w_10)) (
  slices_pdqsortOrdered_string_k3 R ag1 data0 a1 b2 limit3 wasBalanced8 wasPartitioned9 length10 pivot11 w)
def slices_pdqsortOrdered_string_k2 (R : Value → World → Prop) (ag1 : (Sl × Int × Int × Int × Bool × Bool) → World → Prop) (data0 : Sl) (a1 : Int) (b2 : Int) (limit3 : Int) (wasBalanced8 : Bool) (wasPartitioned9 : Bool) (length10 : Int) (pivot11 : Int) (hint12 : Int) (w : World) : Prop :=
 IfB wasBalanced8 (
  IfB wasPartitioned9 (
   slices_pdqsortOrdered_string_k5 R ag1 data0 a1 b2 limit3 wasBalanced8 wasPartitioned9 length10 pivot11 (decide (hint12 = 1)) w) (
   slices_pdqsortOrdered_string_k5 R ag1 data0 a1 b2 limit3 wasBalanced8 wasPartitioned9 length10 pivot11 false w)) (
  slices_pdqsortOrdered_string_k5 R ag1 data0 a1 b2 limit3 wasBalanced8 wasPartitioned9 length10 pivot11 false w)
def slices_pdqsortOrdered_string_k1 (R : Value → World → Prop) (ag1 : (Sl × Int × Int × Int × Bool × Bool) → World → Prop) (data0 : Sl) (a1 : Int) (b2 : Int) (limit3 : Int) (wasBalanced8 : Bool) (wasPartitioned9 : Bool) (length10 : Int) (w : World) : Prop :=
 CallF Try.prog 211 #[(Sl.v data0), (.int .i64 a1), (.int .i64 b2)] w fun u_3 w_3 => AsT2 (Value.int .i64) (Value.int .i64) u_3 fun v_4 v_5 =>
 IfB (decide (v_5 = 2)) (
  CallF Try.prog 212 #[(Sl.v data0), (.int .i64 a1), (.int .i64 b2)] w_3 fun _ w_11 =>
  slices_pdqsortOrdered_string_k2 R ag1 data0 a1 b2 limit3 wasBalanced8 wasPartitioned9 length10 (IntKind.i64.wrap ((IntKind.i64.wrap (b2 - 1)) - (IntKind.i64.wrap (v_4 - a1)))) 1 w_11) (
  slices_pdqsortOrdered_string_k2 R ag1 data0 a1 b2 limit3 wasBalanced8 wasPartitioned9 length10 v_4 v_5 w_3)
def slices_pdqsortOrdered_string_b0 (R : Value → World → Prop) (ag1 : (Sl × Int × Int × Int × Bool × Bool) → World → Prop) (data0 : Sl) (a1 : Int) (b2 : Int) (limit3 : Int) (wasBalanced8 : Bool) (wasPartitioned9 : Bool) (w : World) : Prop :=
 IfB (decide ((IntKind.i64.wrap (b2 - a1)) ≤ 12)) (
  CallF Try.prog 208 #[(Sl.v data0), (.int .i64 a1), (.int .i64 b2)] w fun _ w_1 =>
  R (.tuple #[]) w_1) (
  IfB (decide (limit3 = 0)) (
   CallF Try.prog 209 #[(Sl.v data0), (.int .i64 a1), (.int .i64 b2)] w fun _ w_2 =>
   R (.tuple #[]) w_2) (
   IfB (!wasBalanced8) (
    CallF Try.prog 210 #[(Sl.v data0), (.int .i64 a1), (.int .i64 b2)] w fun _ w_12 =>
    slices_pdqsortOrdered_string_k1 R ag1 data0 a1 b2 (IntKind.i64.wrap (limit3 - 1)) wasBalanced8 wasPartitioned9 (IntKind.i64.wrap (b2 - a1)) w_12) (
    slices_pdqsortOrdered_string_k1 R ag1 data0 a1 b2 limit3 wasBalanced8 wasPartitioned9 (IntKind.i64.wrap (b2 - a1)) w)))
def slices_pdqsortOrdered_string (R : Value → World → Prop) (data0 : Sl) (a1 : Int) (b2 : Int) (limit3 : Int) (w : World) : Prop :=
 Lp (fun ag (s : Sl × Int × Int × Int × Bool × Bool) w => slices_pdqsortOrdered_string_b0 R ag s.1 s.2.1 s.2.2.1 s.2.2.2.1 s.2.2.2.2.1 s.2.2.2.2.2 w) (data0, a1, b2, limit3, true, true) w
theorem slices_pdqsortOrdered_string_ok (R : Value → World → Prop) (data0 : Sl) (a1 : Int) (b2 : Int) (limit3 : Int) (w : World) (H : slices_pdqsortOrdered_string R data0 a1 b2 limit3 w) : CallF Try.prog 193 #[(Sl.v data0), (.int .i64 a1), (.int .i64 b2), (.int .i64 limit3)] w R := by
 refine calls_of_runs (fn := Try.f193) Try.func193 rfl (Nat.le_of_ble_eq_true rfl) ?_
 show Runs _ _ 134 _ _ _ _
 unfold slices_pdqsortOrdered_string at H
 refine ru 0 (Sl.v data0) rfl ?_
 refine ru 1 (.int .i64 a1) rfl ?_
 refine ru 2 (.int .i64 b2) rfl ?_
 refine ru 3 (.int .i64 limit3) rfl ?_
 refine r_seq ?_
 refine r_region ?_
 refine xs (.bool true) rfl rfl rfl rfl ?_
 refine xo_end ?_
 refine r_seq ?_
 refine r_region ?_
 refine xs (.bool true) rfl rfl rfl rfl ?_
 refine xo_end ?_
 refine r_block ?_
 refine ru 0 (Sl.v data0) rfl ?_
 refine ru 1 (.int .i64 a1) rfl ?_
 refine ru 2 (.int .i64 b2) rfl ?_
 refine ru 3 (.int .i64 limit3) rfl ?_
 refine ru 8 (.bool true) rfl ?_
 refine ru 9 (.bool true) rfl ?_
 refine r_loopJ (fun (s : Sl × Int × Int × Int × Bool × Bool) σ => upd 9 (.bool s.2.2.2.2.2) (upd 8 (.bool s.2.2.2.2.1) (upd 3 (.int .i64 s.2.2.2.1) (upd 2 (.int .i64 s.2.2.1) (upd 1 (.int .i64 s.2.1) (upd 0 (Sl.v s.1) (σ))))))) (s := (data0, a1, b2, limit3, true, true)) H ?_
 clear H
 rintro ag1 ⟨data0, a1, b2, limit3, wasBalanced8, wasPartitioned9⟩ σ w H hag1
 replace H : slices_pdqsortOrdered_string_b0 R ag1 data0 a1 b2 limit3 wasBalanced8 wasPartitioned9 w := H
 show Runs _ _ _ _ _ (upd 9 (.bool wasPartitioned9) (upd 8 (.bool wasBalanced8) (upd 3 (.int .i64 limit3) (upd 2 (.int .i64 b2) (upd 1 (.int .i64 a1) (upd 0 (Sl.v data0) (σ))))))) _
 unfold slices_pdqsortOrdered_string_b0 at H
 refine r_block ?_
 refine r_seq ?_
 refine r_region ?_
 refine xm (.int .i64 b2) rfl rfl rfl rfl ?_
 refine xm (.int .i64 a1) rfl rfl rfl rfl ?_
 refine xp _ rfl rfl (p_sub rfl rfl rfl) ?_
 refine xs (.int .i64 (IntKind.i64.wrap (b2 - a1))) rfl rfl rfl rfl ?_
 refine xo_end ?_
 refine r_seq ?_
 refine r_seq ?_
 refine r_region ?_
 refine xm (.int .i64 (IntKind.i64.wrap (b2 - a1))) rfl rfl rfl rfl ?_
 refine xp _ rfl rfl (p_le rfl rfl rfl) ?_
 refine xo_end ?_
 refine r_condB (b := (decide ((IntKind.i64.wrap (b2 - a1)) ≤ 12))) rfl H ?_ ?_
 ·clear H; intro hb2 H
  refine r_seq ?_
  refine r_region ?_
  refine xm (Sl.v data0) rfl rfl rfl rfl ?_
  refine xm (.int .i64 a1) rfl rfl rfl rfl ?_
  refine xm (.int .i64 b2) rfl rfl rfl rfl ?_
  refine xo_eff rfl (wo rfl) (e_call (fn := Try.f208) H rfl rfl Try.func208 rfl rfl rfl) ?_
  intro _ w_1 H
  refine xo_end ?_
  exact r_ret (fn := Try.f193) Try.func193 (res_0 rfl ) H
 ·clear H; intro hb2 H
  refine r_skip ?_
  refine r_seq ?_
  refine r_seq ?_
  refine r_region ?_
  refine xm (.int .i64 limit3) rfl rfl rfl rfl ?_
  refine xp _ rfl rfl (p_eq rfl rfl rfl) ?_
  refine xo_end ?_
  refine r_condB (b := (decide (limit3 = 0))) rfl H ?_ ?_
  ·clear H; intro hb3 H
   refine r_seq ?_
   refine r_region ?_
   refine xm (Sl.v data0) rfl rfl rfl rfl ?_
   refine xm (.int .i64 a1) rfl rfl rfl rfl ?_
   refine xm (.int .i64 b2) rfl rfl rfl rfl ?_
   refine xo_eff rfl (wo rfl) (e_call (fn := Try.f209) H rfl rfl Try.func209 rfl rfl rfl) ?_
   intro _ w_2 H
   refine xo_end ?_
   exact r_ret (fn := Try.f193) Try.func193 (res_0 rfl ) H
  ·clear H; intro hb3 H
   refine r_skip ?_
   refine r_seqJ (fun (s : Sl × Int × Int × Int × Bool × Bool × Int) σ => upd 10 (.int .i64 s.2.2.2.2.2.2) (upd 9 (.bool s.2.2.2.2.2.1) (upd 8 (.bool s.2.2.2.2.1) (upd 3 (.int .i64 s.2.2.2.1) (upd 2 (.int .i64 s.2.2.1) (upd 1 (.int .i64 s.2.1) (upd 0 (Sl.v s.1) (σ)))))))) (fun (s : Sl × Int × Int × Int × Bool × Bool × Int) w => slices_pdqsortOrdered_string_k1 R ag1 s.1 s.2.1 s.2.2.1 s.2.2.2.1 s.2.2.2.2.1 s.2.2.2.2.2.1 s.2.2.2.2.2.2 w) ?_ ?_
   ·rintro ⟨data0, a1, b2, limit3, wasBalanced8, wasPartitioned9, length10⟩ σ w H
    replace H : slices_pdqsortOrdered_string_k1 R ag1 data0 a1 b2 limit3 wasBalanced8 wasPartitioned9 length10 w := H
    show Runs _ _ _ _ _ (upd 10 (.int .i64 length10) (upd 9 (.bool wasPartitioned9) (upd 8 (.bool wasBalanced8) (upd 3 (.int .i64 limit3) (upd 2 (.int .i64 b2) (upd 1 (.int .i64 a1) (upd 0 (Sl.v data0) (σ)))))))) _
    unfold slices_pdqsortOrdered_string_k1 at H
    refine r_seq ?_
    refine r_region ?_
    refine xm (Sl.v data0) rfl rfl rfl rfl ?_
    refine xm (.int .i64 a1) rfl rfl rfl rfl ?_
    refine xm (.int .i64 b2) rfl rfl rfl rfl ?_
    refine xo_eff rfl (wo rfl) (e_call (fn := Try.f211) H rfl rfl Try.func211 rfl rfl rfl) ?_
    rintro _ w_3 ⟨v_4, v_5, rfl, H⟩
    refine xm (.tuple #[(.int .i64 v_4), (.int .i64 v_5)]) rfl rfl rfl rfl ?_
    refine xp (.int .i64 v_4) rfl rfl (p_extract (vs := #[(.int .i64 v_4), (.int .i64 v_5)]) rfl rfl rfl) ?_
    refine xp (.int .i64 v_5) rfl rfl (p_extract (vs := #[(.int .i64 v_4), (.int .i64 v_5)]) rfl rfl rfl) ?_
    refine xs (.int .i64 v_4) rfl rfl rfl rfl ?_
    refine xs (.int .i64 v_5) rfl rfl rfl rfl ?_
    refine xo_end ?_
    refine r_seqJ (fun (s : Sl × Int × Int × Int × Bool × Bool × Int × Int × Int) σ => upd 12 (.int .i64 s.2.2.2.2.2.2.2.2) (upd 11 (.int .i64 s.2.2.2.2.2.2.2.1) (upd 10 (.int .i64 s.2.2.2.2.2.2.1) (upd 9 (.bool s.2.2.2.2.2.1) (upd 8 (.bool s.2.2.2.2.1) (upd 3 (.int .i64 s.2.2.2.1) (upd 2 (.int .i64 s.2.2.1) (upd 1 (.int .i64 s.2.1) (upd 0 (Sl.v s.1) (σ)))))))))) (fun (s : Sl × Int × Int × Int × Bool × Bool × Int × Int × Int) w => slices_pdqsortOrdered_string_k2 R ag1 s.1 s.2.1 s.2.2.1 s.2.2.2.1 s.2.2.2.2.1 s.2.2.2.2.2.1 s.2.2.2.2.2.2.1 s.2.2.2.2.2.2.2.1 s.2.2.2.2.2.2.2.2 w) ?_ ?_
    ·rintro ⟨data0, a1, b2, limit3, wasBalanced8, wasPartitioned9, length10, pivot11, hint12⟩ σ w H
     replace H : slices_pdqsortOrdered_string_k2 R ag1 data0 a1 b2 limit3 wasBalanced8 wasPartitioned9 length10 pivot11 hint12 w := H
     show Runs _ _ _ _ _ (upd 12 (.int .i64 hint12) (upd 11 (.int .i64 pivot11) (upd 10 (.int .i64 length10) (upd 9 (.bool wasPartitioned9) (upd 8 (.bool wasBalanced8) (upd 3 (.int .i64 limit3) (upd 2 (.int .i64 b2) (upd 1 (.int .i64 a1) (upd 0 (Sl.v data0) (σ)))))))))) _
     unfold slices_pdqsortOrdered_string_k2 at H
     refine r_seqJ (fun (s : Sl × Int × Int × Int × Bool × Bool × Int × Int) σ => upd 11 (.int .i64 s.2.2.2.2.2.2.2) (upd 10 (.int .i64 s.2.2.2.2.2.2.1) (upd 9 (.bool s.2.2.2.2.2.1) (upd 8 (.bool s.2.2.2.2.1) (upd 3 (.int .i64 s.2.2.2.1) (upd 2 (.int .i64 s.2.2.1) (upd 1 (.int .i64 s.2.1) (upd 0 (Sl.v s.1) (σ))))))))) (fun (s : Sl × Int × Int × Int × Bool × Bool × Int × Int) w => slices_pdqsortOrdered_string_k3 R ag1 s.1 s.2.1 s.2.2.1 s.2.2.2.1 s.2.2.2.2.1 s.2.2.2.2.2.1 s.2.2.2.2.2.2.1 s.2.2.2.2.2.2.2 w) ?_ ?_
     ·rintro ⟨data0, a1, b2, limit3, wasBalanced8, wasPartitioned9, length10, pivot11⟩ σ w H
      replace H : slices_pdqsortOrdered_string_k3 R ag1 data0 a1 b2 limit3 wasBalanced8 wasPartitioned9 length10 pivot11 w := H
      show Runs _ _ _ _ _ (upd 11 (.int .i64 pivot11) (upd 10 (.int .i64 length10) (upd 9 (.bool wasPartitioned9) (upd 8 (.bool wasBalanced8) (upd 3 (.int .i64 limit3) (upd 2 (.int .i64 b2) (upd 1 (.int .i64 a1) (upd 0 (Sl.v data0) (σ))))))))) _
      unfold slices_pdqsortOrdered_string_k3 at H
      refine r_seq ?_
      refine r_seq ?_
      refine r_topJ (fun (s : Sl × Int × Int × Int × Bool × Bool × Int × Int × Bool) σ => upd 87 (.bool s.2.2.2.2.2.2.2.2) (upd 11 (.int .i64 s.2.2.2.2.2.2.2.1) (upd 10 (.int .i64 s.2.2.2.2.2.2.1) (upd 9 (.bool s.2.2.2.2.2.1) (upd 8 (.bool s.2.2.2.2.1) (upd 3 (.int .i64 s.2.2.2.1) (upd 2 (.int .i64 s.2.2.1) (upd 1 (.int .i64 s.2.1) (upd 0 (Sl.v s.1) (σ)))))))))) (fun (s : Sl × Int × Int × Int × Bool × Bool × Int × Int × Bool) w => slices_pdqsortOrdered_string_k4 R ag1 s.1 s.2.1 s.2.2.1 s.2.2.2.1 s.2.2.2.2.1 s.2.2.2.2.2.1 s.2.2.2.2.2.2.1 s.2.2.2.2.2.2.2.1 s.2.2.2.2.2.2.2.2 w) ?_ ?_
      ·rintro ⟨data0, a1, b2, limit3, wasBalanced8, wasPartitioned9, length10, pivot11, t87⟩ σ w H
       replace H : slices_pdqsortOrdered_string_k4 R ag1 data0 a1 b2 limit3 wasBalanced8 wasPartitioned9 length10 pivot11 t87 w := H
       show Runs _ _ _ _ _ (upd 87 (.bool t87) (upd 11 (.int .i64 pivot11) (upd 10 (.int .i64 length10) (upd 9 (.bool wasPartitioned9) (upd 8 (.bool wasBalanced8) (upd 3 (.int .i64 limit3) (upd 2 (.int .i64 b2) (upd 1 (.int .i64 a1) (upd 0 (Sl.v data0) (σ)))))))))) _
       unfold slices_pdqsortOrdered_string_k4 at H
       refine r_condB (b := t87) rfl H ?_ ?_
       ·clear H; intro hb8 H
        refine r_seq ?_
        refine r_region ?_
        refine xm (Sl.v data0) rfl rfl rfl rfl ?_
        refine xm (.int .i64 a1) rfl rfl rfl rfl ?_
        refine xm (.int .i64 b2) rfl rfl rfl rfl ?_
        refine xm (.int .i64 pivot11) rfl rfl rfl rfl ?_
        refine xo_eff rfl (wo rfl) (e_call (fn := Try.f215) H rfl rfl Try.func215 rfl rfl rfl) ?_
        rintro _ w_4 ⟨v_7, rfl, H⟩
        refine xs (.int .i64 v_7) rfl rfl rfl rfl ?_
        refine xo_end ?_
        refine r_seq ?_
        refine r_region ?_
        refine xm (.int .i64 v_7) rfl rfl rfl rfl ?_
        refine xs (.int .i64 v_7) rfl rfl rfl rfl ?_
        refine xo_end ?_
        refine r_exit rfl ?_
        refine ru 0 (Sl.v data0) rfl ?_
        refine ru 1 (.int .i64 v_7) rfl ?_
        refine ru 2 (.int .i64 b2) rfl ?_
        refine ru 3 (.int .i64 limit3) rfl ?_
        refine ru 8 (.bool wasBalanced8) rfl ?_
        refine ru 9 (.bool wasPartitioned9) rfl ?_
        exact hag1 (data0, v_7, b2, limit3, wasBalanced8, wasPartitioned9) _ _ H
       ·clear H; intro hb8 H
        refine r_skip ?_
        refine r_seq ?_
        refine r_region ?_
        refine xm (Sl.v data0) rfl rfl rfl rfl ?_
        refine xm (.int .i64 a1) rfl rfl rfl rfl ?_
        refine xm (.int .i64 b2) rfl rfl rfl rfl ?_
        refine xm (.int .i64 pivot11) rfl rfl rfl rfl ?_
        refine xo_eff rfl (wo rfl) (e_call (fn := Try.f216) H rfl rfl Try.func216 rfl rfl rfl) ?_
        rintro _ w_5 ⟨v_9, v_10, rfl, H⟩
        refine xm (.tuple #[(.int .i64 v_9), (.bool v_10)]) rfl rfl rfl rfl ?_
        refine xp (.int .i64 v_9) rfl rfl (p_extract (vs := #[(.int .i64 v_9), (.bool v_10)]) rfl rfl rfl) ?_
        refine xp (.bool v_10) rfl rfl (p_extract (vs := #[(.int .i64 v_9), (.bool v_10)]) rfl rfl rfl) ?_
        refine xs (.int .i64 v_9) rfl rfl rfl rfl ?_
        refine xs (.bool v_10) rfl rfl rfl rfl ?_
        refine xo_end ?_
        refine r_seq ?_
        refine r_region ?_
        refine xm (.bool v_10) rfl rfl rfl rfl ?_
        refine xs (.bool v_10) rfl rfl rfl rfl ?_
        refine xo_end ?_
        refine r_seq ?_
        refine r_region ?_
        refine xm (.int .i64 v_9) rfl rfl rfl rfl ?_
        refine xm (.int .i64 a1) rfl rfl rfl rfl ?_
        refine xp _ rfl rfl (p_sub rfl rfl rfl) ?_
        refine xm (.int .i64 b2) rfl rfl rfl rfl ?_
        refine xm (.int .i64 v_9) rfl rfl rfl rfl ?_
        refine xp _ rfl rfl (p_sub rfl rfl rfl) ?_
        refine xs (.int .i64 (IntKind.i64.wrap (v_9 - a1))) rfl rfl rfl rfl ?_
        refine xs (.int .i64 (IntKind.i64.wrap (b2 - v_9))) rfl rfl rfl rfl ?_
        refine xo_end ?_
        refine r_seq ?_
        refine r_region ?_
        refine xm (.int .i64 length10) rfl rfl rfl rfl ?_
        refine xp (.int .i64 (IntKind.i64.wrap (Int.tdiv length10 8))) rfl rfl (p_quo rfl rfl rfl (by decide)) ?_
        refine xs (.int .i64 (IntKind.i64.wrap (Int.tdiv length10 8))) rfl rfl rfl rfl ?_
        refine xo_end ?_
        refine r_seq ?_
        refine r_region ?_
        refine xm (.int .i64 (IntKind.i64.wrap (v_9 - a1))) rfl rfl rfl rfl ?_
        refine xm (.int .i64 (IntKind.i64.wrap (b2 - v_9))) rfl rfl rfl rfl ?_
        refine xp _ rfl rfl (p_lt rfl rfl rfl) ?_
        refine xo_end ?_
        refine r_condB (b := (decide ((IntKind.i64.wrap (v_9 - a1)) < (IntKind.i64.wrap (b2 - v_9))))) rfl H ?_ ?_
        ·clear H; intro hb9 H
         refine r_seq ?_
         refine r_region ?_
         refine xm (.int .i64 (IntKind.i64.wrap (v_9 - a1))) rfl rfl rfl rfl ?_
         refine xm (.int .i64 (IntKind.i64.wrap (Int.tdiv length10 8))) rfl rfl rfl rfl ?_
         refine xp _ rfl rfl (p_ge rfl rfl rfl) ?_
         refine xs (.bool (decide ((IntKind.i64.wrap (Int.tdiv length10 8)) ≤ (IntKind.i64.wrap (v_9 - a1))))) rfl rfl rfl rfl ?_
         refine xo_end ?_
         refine r_seq ?_
         refine r_region ?_
         refine xm (Sl.v data0) rfl rfl rfl rfl ?_
         refine xm (.int .i64 a1) rfl rfl rfl rfl ?_
         refine xm (.int .i64 v_9) rfl rfl rfl rfl ?_
         refine xm (.int .i64 limit3) rfl rfl rfl rfl ?_
         refine xo_eff rfl (wo rfl) (e_call (fn := Try.f193) H rfl rfl Try.func193 rfl rfl rfl) ?_
         intro _ w_6 H
         refine xo_end ?_
         refine r_region ?_
         refine xm (.int .i64 v_9) rfl rfl rfl rfl ?_
         refine xp _ rfl rfl (p_add rfl rfl rfl) ?_
         refine xs (.int .i64 (IntKind.i64.wrap (v_9 + 1))) rfl rfl rfl rfl ?_
         refine xo_end ?_
         refine r_inBlock ?_
         refine ru 0 (Sl.v data0) rfl ?_
         refine ru 1 (.int .i64 (IntKind.i64.wrap (v_9 + 1))) rfl ?_
         refine ru 2 (.int .i64 b2) rfl ?_
         refine ru 3 (.int .i64 limit3) rfl ?_
         refine ru 8 (.bool (decide ((IntKind.i64.wrap (Int.tdiv length10 8)) ≤ (IntKind.i64.wrap (v_9 - a1))))) rfl ?_
         refine ru 9 (.bool v_10) rfl ?_
         exact hag1 (data0, (IntKind.i64.wrap (v_9 + 1)), b2, limit3, (decide ((IntKind.i64.wrap (Int.tdiv length10 8)) ≤ (IntKind.i64.wrap (v_9 - a1)))), v_10) _ _ H
        ·clear H; intro hb9 H
         refine r_seq ?_
         refine r_region ?_
         refine xm (.int .i64 (IntKind.i64.wrap (b2 - v_9))) rfl rfl rfl rfl ?_
         refine xm (.int .i64 (IntKind.i64.wrap (Int.tdiv length10 8))) rfl rfl rfl rfl ?_
         refine xp _ rfl rfl (p_ge rfl rfl rfl) ?_
         refine xs (.bool (decide ((IntKind.i64.wrap (Int.tdiv length10 8)) ≤ (IntKind.i64.wrap (b2 - v_9))))) rfl rfl rfl rfl ?_
         refine xo_end ?_
         refine r_seq ?_
         refine r_region ?_
         refine xm (Sl.v data0) rfl rfl rfl rfl ?_
         refine xm (.int .i64 v_9) rfl rfl rfl rfl ?_
         refine xp _ rfl rfl (p_add rfl rfl rfl) ?_
         refine xm (.int .i64 b2) rfl rfl rfl rfl ?_
         refine xm (.int .i64 limit3) rfl rfl rfl rfl ?_
         refine xo_eff rfl (wo rfl) (e_call (fn := Try.f193) H rfl rfl Try.func193 rfl rfl rfl) ?_
         intro _ w_7 H
         refine xo_end ?_
         refine r_region ?_
         refine xm (.int .i64 v_9) rfl rfl rfl rfl ?_
         refine xs (.int .i64 v_9) rfl rfl rfl rfl ?_
         refine xo_end ?_
         refine r_inBlock ?_
         refine ru 0 (Sl.v data0) rfl ?_
         refine ru 1 (.int .i64 a1) rfl ?_
         refine ru 2 (.int .i64 v_9) rfl ?_
         refine ru 3 (.int .i64 limit3) rfl ?_
         refine ru 8 (.bool (decide ((IntKind.i64.wrap (Int.tdiv length10 8)) ≤ (IntKind.i64.wrap (b2 - v_9))))) rfl ?_
         refine ru 9 (.bool v_10) rfl ?_
         exact hag1 (data0, a1, v_9, limit3, (decide ((IntKind.i64.wrap (Int.tdiv length10 8)) ≤ (IntKind.i64.wrap (b2 - v_9)))), v_10) _ _ H
      ·intro J7
       refine r_draw #[[], [0], [0, 1], [0, 1, 2], [0, 1, 2], [0, 1, 2, 4], [0, 1, 2, 3, 4, 5], [0, 1, 2, 3, 4, 5, 6], [0, 1, 2], [0, 1, 2], [0, 1, 2, 8, 9], [0, 1, 2, 8, 9, 10], [0, 1, 2, 3, 4, 5, 6, 7, 8, 9, 10, 11], [0, 1, 2, 3, 4, 5, 6, 7, 8, 9, 10, 11, 12], [0, 1, 2, 3, 4, 5, 6, 7, 8, 9, 10, 11, 12, 13]] 15 rfl rfl ?_
       refine am 0 (.int .i64 a1) rfl rfl rfl rfl rfl ?_
       refine ap 1 _ rfl rfl rfl (p_gt rfl rfl rfl) ?_
       refine am 2 (.bool (decide (0 < a1))) rfl rfl rfl rfl rfl ?_
       refine ifB_cases H ?_ ?_
       ·clear H; intro hb10 H
        refine xa_pure (v := (Sl.v data0)) 3 (by decide +kernel) rfl rfl (wy 75 rfl rfl rfl hb10) (p_move rfl rfl) ?_
        refine xa_pure (v := (.int .i64 a1)) 4 (by decide +kernel) rfl rfl (wy 75 rfl rfl rfl hb10) (p_move rfl rfl) ?_
        refine xa_pure (v := (.int .i64 (IntKind.i64.wrap (a1 - 1)))) 5 (by decide +kernel) rfl rfl (wy 75 rfl rfl rfl hb10) (p_sub rfl rfl rfl) ?_
        obtain ⟨p_13, hap_13, hlp_13, hup_13, H⟩ := H
        refine xa_pure (v := (.pointer (some (p_13.add ((IntKind.i64.wrap (a1 - 1)).toNat * 1))))) 6 (by decide +kernel) rfl rfl (wy 75 rfl rfl rfl hb10) (p_indexAddr (s := data0) (ad := p_13) (size := 1) rfl Try.underlying71 Try.ti9 rfl rfl hap_13 hlp_13 hup_13) ?_
        obtain ⟨adv_14, v_14, hev_14, hcv_14, H⟩ := H
        refine ar 7 (.string v_14) rfl rfl (wy 75 rfl rfl rfl hb10) rfl Try.underlying9 rfl rfl hev_14 hcv_14 ?_
        refine xa_pure (v := (Sl.v data0)) 8 (by decide +kernel) rfl rfl (wy 75 rfl rfl rfl hb10) (p_move rfl rfl) ?_
        refine xa_pure (v := (.int .i64 pivot11)) 9 (by decide +kernel) rfl rfl (wy 75 rfl rfl rfl hb10) (p_move rfl rfl) ?_
        obtain ⟨p_15, hap_15, hlp_15, hup_15, H⟩ := H
        refine xa_pure (v := (.pointer (some (p_15.add (pivot11.toNat * 1))))) 10 (by decide +kernel) rfl rfl (wy 75 rfl rfl rfl hb10) (p_indexAddr (s := data0) (ad := p_15) (size := 1) rfl Try.underlying71 Try.ti9 rfl rfl hap_15 hlp_15 hup_15) ?_
        obtain ⟨adv_16, v_16, hev_16, hcv_16, H⟩ := H
        refine ar 11 (.string v_16) rfl rfl (wy 75 rfl rfl rfl hb10) rfl Try.underlying9 rfl rfl hev_16 hcv_16 ?_
        refine xa_eff 12 [] (by decide +kernel) rfl rfl rfl (wy 75 rfl rfl rfl hb10) (e_call (fn := Try.f214) H rfl rfl Try.func214 rfl rfl rfl) ?_
        rintro _ w_9 ⟨v_18, rfl, H⟩
        refine ⟨AllHeld.nil, ?_⟩
        refine xa_pure (v := (.bool (!v_18))) 13 (by decide +kernel) rfl rfl (wy 75 rfl rfl rfl hb10) (p_not rfl rfl) ?_
        refine ap 14 (.bool (!v_18)) rfl rfl rfl (p_pickT rfl rfl hb10 rfl) ?_
        refine ax ?_
        refine ru 0 (Sl.v data0) rfl ?_
        refine ru 1 (.int .i64 a1) rfl ?_
        refine ru 2 (.int .i64 b2) rfl ?_
        refine ru 3 (.int .i64 limit3) rfl ?_
        refine ru 8 (.bool wasBalanced8) rfl ?_
        refine ru 9 (.bool wasPartitioned9) rfl ?_
        refine ru 10 (.int .i64 length10) rfl ?_
        refine ru 11 (.int .i64 pivot11) rfl ?_
        refine ru 87 (.bool (!v_18)) rfl ?_
        exact J7 (data0, a1, b2, limit3, wasBalanced8, wasPartitioned9, length10, pivot11, (!v_18)) _ _ H
       ·clear H; intro hb10 H
        refine ak 3 rfl rfl (wn 75 rfl rfl rfl hb10) ?_
        refine ak 4 rfl rfl (wn 75 rfl rfl rfl hb10) ?_
        refine ak 5 rfl rfl (wn 75 rfl rfl rfl hb10) ?_
        refine ak 6 rfl rfl (wn 75 rfl rfl rfl hb10) ?_
        refine ak 7 rfl rfl (wn 75 rfl rfl rfl hb10) ?_
        refine ak 8 rfl rfl (wn 75 rfl rfl rfl hb10) ?_
        refine ak 9 rfl rfl (wn 75 rfl rfl rfl hb10) ?_
        refine ak 10 rfl rfl (wn 75 rfl rfl rfl hb10) ?_
        refine ak 11 rfl rfl (wn 75 rfl rfl rfl hb10) ?_
        refine ak 12 rfl rfl (wn 75 rfl rfl rfl hb10) ?_
        refine ak 13 rfl rfl (wn 75 rfl rfl rfl hb10) ?_
        refine ap 14 (.bool false) rfl rfl rfl (p_pickF rfl rfl hb10 rfl) ?_
        refine ax ?_
        refine ru 0 (Sl.v data0) rfl ?_
        refine ru 1 (.int .i64 a1) rfl ?_
        refine ru 2 (.int .i64 b2) rfl ?_
        refine ru 3 (.int .i64 limit3) rfl ?_
        refine ru 8 (.bool wasBalanced8) rfl ?_
        refine ru 9 (.bool wasPartitioned9) rfl ?_
        refine ru 10 (.int .i64 length10) rfl ?_
        refine ru 11 (.int .i64 pivot11) rfl ?_
        refine ru 87 (.bool false) rfl ?_
        exact J7 (data0, a1, b2, limit3, wasBalanced8, wasPartitioned9, length10, pivot11, false) _ _ H
     ·intro J6
      refine r_seq ?_
      refine r_topJ (fun (s : Sl × Int × Int × Int × Bool × Bool × Int × Int × Bool) σ => upd 68 (.bool s.2.2.2.2.2.2.2.2) (upd 11 (.int .i64 s.2.2.2.2.2.2.2.1) (upd 10 (.int .i64 s.2.2.2.2.2.2.1) (upd 9 (.bool s.2.2.2.2.2.1) (upd 8 (.bool s.2.2.2.2.1) (upd 3 (.int .i64 s.2.2.2.1) (upd 2 (.int .i64 s.2.2.1) (upd 1 (.int .i64 s.2.1) (upd 0 (Sl.v s.1) (σ)))))))))) (fun (s : Sl × Int × Int × Int × Bool × Bool × Int × Int × Bool) w => slices_pdqsortOrdered_string_k5 R ag1 s.1 s.2.1 s.2.2.1 s.2.2.2.1 s.2.2.2.2.1 s.2.2.2.2.2.1 s.2.2.2.2.2.2.1 s.2.2.2.2.2.2.2.1 s.2.2.2.2.2.2.2.2 w) ?_ ?_
      ·rintro ⟨data0, a1, b2, limit3, wasBalanced8, wasPartitioned9, length10, pivot11, t68⟩ σ w H
       replace H : slices_pdqsortOrdered_string_k5 R ag1 data0 a1 b2 limit3 wasBalanced8 wasPartitioned9 length10 pivot11 t68 w := H
       show Runs _ _ _ _ _ (upd 68 (.bool t68) (upd 11 (.int .i64 pivot11) (upd 10 (.int .i64 length10) (upd 9 (.bool wasPartitioned9) (upd 8 (.bool wasBalanced8) (upd 3 (.int .i64 limit3) (upd 2 (.int .i64 b2) (upd 1 (.int .i64 a1) (upd 0 (Sl.v data0) (σ)))))))))) _
       unfold slices_pdqsortOrdered_string_k5 at H
       refine r_condB (b := t68) rfl H ?_ ?_
       ·clear H; intro hb12 H
        refine r_seq ?_
        refine r_region ?_
        refine xm (Sl.v data0) rfl rfl rfl rfl ?_
        refine xm (.int .i64 a1) rfl rfl rfl rfl ?_
        refine xm (.int .i64 b2) rfl rfl rfl rfl ?_
        refine xo_eff rfl (wo rfl) (e_call (fn := Try.f213) H rfl rfl Try.func213 rfl rfl rfl) ?_
        rintro _ w_10 ⟨v_20, rfl, H⟩
        refine xo_end ?_
        refine r_condB (b := v_20) rfl H ?_ ?_
        ·clear H; intro hb13 H
         exact r_ret (fn := Try.f193) Try.func193 (res_0 rfl ) H
        ·clear H; intro hb13 H
         refine r_skip ?_
         refine ru 0 (Sl.v data0) rfl ?_
         refine ru 1 (.int .i64 a1) rfl ?_
         refine ru 2 (.int .i64 b2) rfl ?_
         refine ru 3 (.int .i64 limit3) rfl ?_
         refine ru 8 (.bool wasBalanced8) rfl ?_
         refine ru 9 (.bool wasPartitioned9) rfl ?_
         refine ru 10 (.int .i64 length10) rfl ?_
         refine ru 11 (.int .i64 pivot11) rfl ?_
         exact J6 (data0, a1, b2, limit3, wasBalanced8, wasPartitioned9, length10, pivot11) _ _ H
       ·clear H; intro hb12 H
        refine r_skip ?_
        refine ru 0 (Sl.v data0) rfl ?_
        refine ru 1 (.int .i64 a1) rfl ?_
        refine ru 2 (.int .i64 b2) rfl ?_
        refine ru 3 (.int .i64 limit3) rfl ?_
        refine ru 8 (.bool wasBalanced8) rfl ?_
        refine ru 9 (.bool wasPartitioned9) rfl ?_
        refine ru 10 (.int .i64 length10) rfl ?_
        refine ru 11 (.int .i64 pivot11) rfl ?_
        exact J6 (data0, a1, b2, limit3, wasBalanced8, wasPartitioned9, length10, pivot11) _ _ H
      ·intro J11
       refine r_region ?_
       refine xm (.bool wasBalanced8) rfl rfl rfl rfl ?_
       refine xm (.bool wasBalanced8) rfl rfl rfl rfl ?_
       refine ifB_cases H ?_ ?_
       ·clear H; intro hb14 H
        refine xo_pure (v := (.bool wasPartitioned9)) rfl (wy 62 rfl rfl rfl hb14) (p_move rfl rfl) ?_
        refine xp (.bool wasPartitioned9) rfl rfl (p_pickT rfl rfl hb14 rfl) ?_
        refine xm (.bool wasPartitioned9) rfl rfl rfl rfl ?_
        refine ifB_cases H ?_ ?_
        ·clear H; intro hb15 H
         refine xo_pure (v := (.int .i64 hint12)) rfl (wy 65 rfl rfl rfl hb15) (p_move rfl rfl) ?_
         refine xo_pure (v := (.bool (decide (hint12 = 1)))) rfl (wy 65 rfl rfl rfl hb15) (p_eq rfl rfl rfl) ?_
         refine xp (.bool (decide (hint12 = 1))) rfl rfl (p_pickT rfl rfl hb15 rfl) ?_
         refine xo_end ?_
         refine ru 0 (Sl.v data0) rfl ?_
         refine ru 1 (.int .i64 a1) rfl ?_
         refine ru 2 (.int .i64 b2) rfl ?_
         refine ru 3 (.int .i64 limit3) rfl ?_
         refine ru 8 (.bool wasBalanced8) rfl ?_
         refine ru 9 (.bool wasPartitioned9) rfl ?_
         refine ru 10 (.int .i64 length10) rfl ?_
         refine ru 11 (.int .i64 pivot11) rfl ?_
         refine ru 68 (.bool (decide (hint12 = 1))) rfl ?_
         exact J11 (data0, a1, b2, limit3, wasBalanced8, wasPartitioned9, length10, pivot11, (decide (hint12 = 1))) _ _ H
        ·clear H; intro hb15 H
         refine xo_skip rfl (wn 65 rfl rfl rfl hb15) ?_
         refine xo_skip rfl (wn 65 rfl rfl rfl hb15) ?_
         refine xp (.bool false) rfl rfl (p_pickF rfl rfl hb15 rfl) ?_
         refine xo_end ?_
         refine ru 0 (Sl.v data0) rfl ?_
         refine ru 1 (.int .i64 a1) rfl ?_
         refine ru 2 (.int .i64 b2) rfl ?_
         refine ru 3 (.int .i64 limit3) rfl ?_
         refine ru 8 (.bool wasBalanced8) rfl ?_
         refine ru 9 (.bool wasPartitioned9) rfl ?_
         refine ru 10 (.int .i64 length10) rfl ?_
         refine ru 11 (.int .i64 pivot11) rfl ?_
         refine ru 68 (.bool false) rfl ?_
         exact J11 (data0, a1, b2, limit3, wasBalanced8, wasPartitioned9, length10, pivot11, false) _ _ H
       ·clear H; intro hb14 H
        refine xo_skip rfl (wn 62 rfl rfl rfl hb14) ?_
        refine xp (.bool false) rfl rfl (p_pickF rfl rfl hb14 rfl) ?_
        refine xm (.bool false) rfl rfl rfl rfl ?_
        refine xo_skip rfl (wn 65 rfl rfl rfl rfl) ?_
        refine xo_skip rfl (wn 65 rfl rfl rfl rfl) ?_
        refine xp (.bool false) rfl rfl (p_pickF rfl rfl rfl rfl) ?_
        refine xo_end ?_
        refine ru 0 (Sl.v data0) rfl ?_
        refine ru 1 (.int .i64 a1) rfl ?_
        refine ru 2 (.int .i64 b2) rfl ?_
        refine ru 3 (.int .i64 limit3) rfl ?_
        refine ru 8 (.bool wasBalanced8) rfl ?_
        refine ru 9 (.bool wasPartitioned9) rfl ?_
        refine ru 10 (.int .i64 length10) rfl ?_
        refine ru 11 (.int .i64 pivot11) rfl ?_
        refine ru 68 (.bool false) rfl ?_
        exact J11 (data0, a1, b2, limit3, wasBalanced8, wasPartitioned9, length10, pivot11, false) _ _ H
    ·intro J5
     refine r_seq ?_
     refine r_region ?_
     refine xm (.int .i64 v_5) rfl rfl rfl rfl ?_
     refine xp _ rfl rfl (p_eq rfl rfl rfl) ?_
     refine xo_end ?_
     refine r_condB (b := (decide (v_5 = 2))) rfl H ?_ ?_
     ·clear H; intro hb16 H
      refine r_seq ?_
      refine r_region ?_
      refine xm (Sl.v data0) rfl rfl rfl rfl ?_
      refine xm (.int .i64 a1) rfl rfl rfl rfl ?_
      refine xm (.int .i64 b2) rfl rfl rfl rfl ?_
      refine xo_eff rfl (wo rfl) (e_call (fn := Try.f212) H rfl rfl Try.func212 rfl rfl rfl) ?_
      intro _ w_11 H
      refine xo_end ?_
      refine r_seq ?_
      refine r_region ?_
      refine xm (.int .i64 b2) rfl rfl rfl rfl ?_
      refine xp _ rfl rfl (p_sub rfl rfl rfl) ?_
      refine xm (.int .i64 v_4) rfl rfl rfl rfl ?_
      refine xm (.int .i64 a1) rfl rfl rfl rfl ?_
      refine xp _ rfl rfl (p_sub rfl rfl rfl) ?_
      refine xp _ rfl rfl (p_sub rfl rfl rfl) ?_
      refine xs (.int .i64 (IntKind.i64.wrap ((IntKind.i64.wrap (b2 - 1)) - (IntKind.i64.wrap (v_4 - a1))))) rfl rfl rfl rfl ?_
      refine xo_end ?_
      refine r_region ?_
      refine xs (.int .i64 1) rfl rfl rfl rfl ?_
      refine xo_end ?_
      refine ru 0 (Sl.v data0) rfl ?_
      refine ru 1 (.int .i64 a1) rfl ?_
      refine ru 2 (.int .i64 b2) rfl ?_
      refine ru 3 (.int .i64 limit3) rfl ?_
      refine ru 8 (.bool wasBalanced8) rfl ?_
      refine ru 9 (.bool wasPartitioned9) rfl ?_
      refine ru 10 (.int .i64 length10) rfl ?_
      refine ru 11 (.int .i64 (IntKind.i64.wrap ((IntKind.i64.wrap (b2 - 1)) - (IntKind.i64.wrap (v_4 - a1))))) rfl ?_
      refine ru 12 (.int .i64 1) rfl ?_
      exact J5 (data0, a1, b2, limit3, wasBalanced8, wasPartitioned9, length10, (IntKind.i64.wrap ((IntKind.i64.wrap (b2 - 1)) - (IntKind.i64.wrap (v_4 - a1)))), 1) _ _ H
     ·clear H; intro hb16 H
      refine r_skip ?_
      refine ru 0 (Sl.v data0) rfl ?_
      refine ru 1 (.int .i64 a1) rfl ?_
      refine ru 2 (.int .i64 b2) rfl ?_
      refine ru 3 (.int .i64 limit3) rfl ?_
      refine ru 8 (.bool wasBalanced8) rfl ?_
      refine ru 9 (.bool wasPartitioned9) rfl ?_
      refine ru 10 (.int .i64 length10) rfl ?_
      refine ru 11 (.int .i64 v_4) rfl ?_
      refine ru 12 (.int .i64 v_5) rfl ?_
      exact J5 (data0, a1, b2, limit3, wasBalanced8, wasPartitioned9, length10, v_4, v_5) _ _ H
   ·intro J4
    refine r_seq ?_
    refine r_region ?_
    refine xm (.bool wasBalanced8) rfl rfl rfl rfl ?_
    refine xp (.bool (!wasBalanced8)) rfl rfl (p_not rfl rfl) ?_
    refine xo_end ?_
    refine r_condB (b := (!wasBalanced8)) rfl H ?_ ?_
    ·clear H; intro hb17 H
     refine r_seq ?_
     refine r_region ?_
     refine xm (Sl.v data0) rfl rfl rfl rfl ?_
     refine xm (.int .i64 a1) rfl rfl rfl rfl ?_
     refine xm (.int .i64 b2) rfl rfl rfl rfl ?_
     refine xo_eff rfl (wo rfl) (e_call (fn := Try.f210) H rfl rfl Try.func210 rfl rfl rfl) ?_
     intro _ w_12 H
     refine xo_end ?_
     refine r_region ?_
     refine xm (.int .i64 limit3) rfl rfl rfl rfl ?_
     refine xp _ rfl rfl (p_sub rfl rfl rfl) ?_
     refine xs (.int .i64 (IntKind.i64.wrap (limit3 - 1))) rfl rfl rfl rfl ?_
     refine xo_end ?_
     refine ru 0 (Sl.v data0) rfl ?_
     refine ru 1 (.int .i64 a1) rfl ?_
     refine ru 2 (.int .i64 b2) rfl ?_
     refine ru 3 (.int .i64 (IntKind.i64.wrap (limit3 - 1))) rfl ?_
     refine ru 8 (.bool wasBalanced8) rfl ?_
     refine ru 9 (.bool wasPartitioned9) rfl ?_
     refine ru 10 (.int .i64 (IntKind.i64.wrap (b2 - a1))) rfl ?_
     exact J4 (data0, a1, b2, (IntKind.i64.wrap (limit3 - 1)), wasBalanced8, wasPartitioned9, (IntKind.i64.wrap (b2 - a1))) _ _ H
    ·clear H; intro hb17 H
     refine r_skip ?_
     refine ru 0 (Sl.v data0) rfl ?_
     refine ru 1 (.int .i64 a1) rfl ?_
     refine ru 2 (.int .i64 b2) rfl ?_
     refine ru 3 (.int .i64 limit3) rfl ?_
     refine ru 8 (.bool wasBalanced8) rfl ?_
     refine ru 9 (.bool wasPartitioned9) rfl ?_
     refine ru 10 (.int .i64 (IntKind.i64.wrap (b2 - a1))) rfl ?_
     exact J4 (data0, a1, b2, limit3, wasBalanced8, wasPartitioned9, (IntKind.i64.wrap (b2 - a1))) _ _ H

/-! 194 math/bits.Len -/
def math_bits_Len (R : Value → World → Prop) (x0 : Int) (w : World) : Prop :=
 CallF Try.prog 218 #[(.int .u64 x0)] w fun u_1 w_1 => As (Value.int .i64) u_1 fun v_2 =>
 R (.int .i64 v_2) w_1
theorem math_bits_Len_ok (R : Value → World → Prop) (x0 : Int) (w : World) (H : math_bits_Len R x0 w) : CallF Try.prog 194 #[(.int .u64 x0)] w R := by
 refine calls_of_runs (fn := Try.f194) Try.func194 rfl (Nat.le_of_ble_eq_true rfl) ?_
 show Runs _ _ 8 _ _ _ _
 unfold math_bits_Len at H
 refine ru 0 (.int .u64 x0) rfl ?_
 refine r_seq ?_
 refine r_region ?_
 refine xs (.int .i64 0) rfl rfl rfl rfl ?_
 refine xo_end ?_
 refine r_seq ?_
 refine r_false rfl ?_
 refine r_skip ?_
 refine r_seq ?_
 refine r_region ?_
 refine xm (.int .u64 x0) rfl rfl rfl rfl ?_
 refine xo_eff rfl (wo rfl) (e_call (fn := Try.f218) H rfl rfl Try.func218 rfl rfl rfl) ?_
 rintro _ w_1 ⟨v_2, rfl, H⟩
 refine xs (.int .i64 v_2) rfl rfl rfl rfl ?_
 refine xo_end ?_
 exact r_ret (fn := Try.f194) Try.func194 (res_1 rfl ⟨by decide, rfl⟩) H

/-! 195 slices.AppendSeq[[]int,int] -/
def slices_AppendSeq_int_int_r0 (R : Value → World → Prop)  (l : Nat) (lr : Loop) (s2 : Option Addr) (y7 : Int) (w : World) : Prop :=
 BegR l lr w fun w_2 =>
 Ld Sl.v s2 w_2 fun v_2 =>
 New #[(.int .i64 y7)] 3 w_2 fun a_3 w_3 =>
 Ef Try.prog (Builtin.append_ #[184, 184] 184 #[(Sl.v v_2), (Sl.v ⟨some a_3, 1, 1⟩)]) Sl.v w_3 fun v_4 w_4 =>
 St s2 (Sl.v v_4) w_4 fun w_5 =>
 EndR l lr none w_5 R
def slices_AppendSeq_int_int (R : Value → World → Prop) (s0 : Sl) (seq1 : Value) (w : World) : Prop :=
 New #[(Sl.v s0)] 184 w fun a_1 w_1 =>
 RF Try.prog seq1 (fun l lr args w K => ∃ (y7 : Int), args = #[(.int .i64 y7)] ∧ slices_AppendSeq_int_int_r0 K  l lr (some a_1) y7 w) w_1 fun r_5 c_6 w_6 =>
  (c_6 = none ∧ (
   Ld Sl.v (some a_1) w_6 fun v_7 =>
   Und r_5 w_6 fun w_7 =>
   R (Sl.v v_7) w_7))
theorem slices_AppendSeq_int_int_ok (R : Value → World → Prop) (s0 : Sl) (seq1 : Value) (w : World) (H : slices_AppendSeq_int_int R s0 seq1 w) : CallF Try.prog 195 #[(Sl.v s0), seq1] w R := by
 refine calls_of_runs (fn := Try.f195) Try.func195 rfl (Nat.le_of_ble_eq_true rfl) ?_
 show Runs _ _ 13 _ _ _ _
 unfold slices_AppendSeq_int_int at H
 refine ru 0 (Sl.v s0) rfl ?_
 refine ru 1 seq1 rfl ?_
 refine r_seq ?_
 refine r_region ?_
 refine xo_eff rfl (wo rfl) (e_box (v := (Sl.v s0)) rfl rfl H) ?_
 rintro _ w_1 ⟨a_1, rfl, H⟩
 refine xs (Sl.v Sl.nil) rfl rfl rfl rfl ?_
 refine xo_end ?_
 refine r_seq ?_
 refine r_seq ?_
 refine r_region ?_
 refine xm seq1 rfl rfl rfl rfl ?_
 refine xo_end ?_
 refine r_block ?_
 refine r_rangeJ (fun (s : Option Addr × Int) σ => upd 7 (.int .i64 s.2) (upd 2 (.pointer s.1) (σ))) (fun K l lr (s : Option Addr × Int) w => slices_AppendSeq_int_int_r0 K  l lr s.1 s.2 w) ?_ ?_
 ·rintro R l lr ⟨s2, y7⟩ σ w H
  replace H : slices_AppendSeq_int_int_r0 R  l lr s2 y7 w := H
  show Runs _ _ _ _ _ (upd 7 (.int .i64 y7) (upd 2 (.pointer s2) (σ))) _
  unfold slices_AppendSeq_int_int_r0 at H
  refine r_region ?_
  refine xs (.int .i64 y7) rfl rfl rfl rfl ?_
  refine xo_end ?_
  obtain ⟨hbeg, H⟩ := H
  refine r_beg (l := l) rfl hbeg ?_
  generalize hww_2 : World.putObj _ _ _ = w_2 at H ⊢
  clear hww_2 hbeg
  refine r_block ?_
  refine r_region ?_
  obtain ⟨adv_2, v_2, hev_2, hcv_2, H⟩ := H
  refine xr (Sl.v v_2) rfl (wo rfl) rfl Try.underlying184 rfl rfl hev_2 hcv_2 ?_
  refine xm (.int .i64 y7) rfl rfl rfl rfl ?_
  refine xo_eff rfl (wo rfl) (e_buildRow H rfl Try.underlying184 Try.ti3 (by decide) (by decide) rfl rfl (by simp [Value.oneCell', Sl.v])) ?_
  rintro _ w_3 ⟨a_3, rfl, H⟩
  refine xo_eff rfl (wo rfl) (e_app H rfl rfl rfl) ?_
  rintro _ w_4 ⟨v_4, rfl, H⟩
  refine xo_effN rfl (wo rfl) (e_store rfl Try.ti184 rfl rfl rfl H) ?_
  intro _ w_5 H
  refine xo_end ?_
  refine r_inBlock ?_
  exact r_rEnd (l := l) (lr := lr) rfl H
 ·intro J1
  refine r_range rfl rfl H ?_ ?_
  ·clear H; rintro l lr args w K ⟨y7, rfl, H⟩
   refine ⟨[(.int .i64 y7)], rfl, rfl, ?_⟩
   refine ru 2 (.pointer (some a_1)) rfl ?_
   refine ru 7 (.int .i64 y7) rfl ?_
   exact J1 _ _ _ ((some a_1), y7) _ _ H
  ·clear H; rintro r_5 c_6 w_6 H
   obtain ⟨rfl, H⟩ := H
   refine rj_none ?_
   refine r_inBlock ?_
   refine r_seq ?_
   refine r_region ?_
   obtain ⟨adv_7, v_7, hev_7, hcv_7, H⟩ := H
   refine xr (Sl.v v_7) rfl (wo rfl) rfl Try.underlying184 rfl rfl hev_7 hcv_7 ?_
   refine xs (Sl.v v_7) rfl rfl rfl rfl ?_
   refine xo_end ?_
   obtain ⟨hund, H⟩ := H
   generalize hwund : World.putObj _ _ _ = w_7 at H
   exact r_ret1 (fn := Try.f195) Try.func195 (res_1 rfl ⟨by decide, rfl⟩) H hund hwund.symm
end Go.Proofs
