/- Laid by program. -/
import Derived.Test.YtnjilbgcflbghaaXFT
set_option linter.all false
set_option linter.unusedVariables false
set_option linter.unusedSimpArgs false
set_option maxRecDepth 20000
set_option maxHeartbeats 4000000
namespace Go.Proofs
open Go Go.X
/-! 50 (*sporran/model.Model).Images -/
def model_Model_Images_b1 (R : Value → World → Prop) (ag1 : (Option Addr × Sl × Sl × Int × Int) → World → Prop) (ag3 : (Option Addr × Sl × Option Addr × Option Addr × Sl × Int × Int × Sl × Int × Int) → World → Prop) (m0 : Option Addr) (out2 : Sl) (v5 : Option Addr) (x6 : Option Addr) (t14 : Sl) (t15 : Int) (t16 : Int) (t41 : Sl) (t42 : Int) (t43 : Int) (w : World) : Prop :=
 IfB (decide (t43 < t42)) (
  Ix t41 t43 fun p_24 =>
  Ld (Value.int .i64) (some (p_24.add (t43.toNat * 1))) w fun v_25 =>
  NotNil x6 fun p_26 =>
  LdH Sl.v (some (p_26.add 3)) (World.drew w) fun adv_27 v_27 =>
  NotNil v5 fun p_28 =>
  Ld Value.map (some (p_28.add 2)) (World.drew w) fun v_29 =>
  Ef Try.prog (Instr.lookup 168 (.map v_29) (.int .i64 v_25) false) Value.agg (World.drew w) fun v_30 w_10 =>
  ((w_10).cell? adv_27 = some (Sl.v v_27)) ∧
  Built #[(0, 1), (1, 48)] Try.z199 [(0, (.int .i64 v_25)), (1, (.agg v_30))] fun c_31 =>
  c_31.size = 49 ∧ (
  New c_31 199 w_10 fun a_32 w_11 =>
  ((w_11).cell? adv_27 = some (Sl.v v_27)) ∧
  Ef Try.prog (Builtin.append_ #[102, 102] 102 #[(Sl.v v_27), (Sl.v ⟨some a_32, 1, 1⟩)]) Sl.v w_11 fun v_34 w_12 =>
  NotNil x6 fun p_35 =>
  St (some (p_35.add 3)) (Sl.v v_34) w_12 fun w_13 =>
  ag3 (m0, out2, v5, x6, t14, t15, t16, t41, t42, (IntKind.i64.wrap (t43 + 1))) w_13)) (
  LdN 4 x6 w fun v_36 =>
  v_36.size = 4 ∧ (
  New v_36 104 w fun a_37 w_14 =>
  Ef Try.prog (Builtin.append_ #[100, 100] 100 #[(Sl.v out2), (Sl.v ⟨some a_37, 1, 1⟩)]) Sl.v w_14 fun v_39 w_15 =>
  ag1 (m0, v_39, t14, t15, (IntKind.i64.wrap (t16 + 1))) w_15))
def model_Model_Images_b0 (R : Value → World → Prop) (ag1 : (Option Addr × Sl × Sl × Int × Int) → World → Prop) (m0 : Option Addr) (out2 : Sl) (t14 : Sl) (t15 : Int) (t16 : Int) (w : World) : Prop :=
 IfB (decide (t16 < t15)) (
  Ix t14 t16 fun p_7 =>
  Ld Value.string (some (p_7.add (t16.toNat * 1))) w fun v_8 =>
  NotNil m0 fun p_9 =>
  Ld Value.map (some (p_9.add 0)) w fun v_10 =>
  Ef Try.prog (Instr.lookup 163 (.map v_10) (.string v_8) false) Value.pointer w fun v_11 w_3 =>
  NotNil v_11 fun p_12 =>
  LdH (Value.int .i64) (some (p_12.add 0)) (World.drew w_3) fun adv_13 v_13 =>
  NotNil v_11 fun p_14 =>
  LdH Value.bool (some (p_14.add 1)) (World.drew w_3) fun adv_15 v_15 =>
  Built #[(0, 1), (1, 1), (2, 1), (3, 1)] #[(.string (ByteArray.mk #[])), (.int .i64 0), (.bool false), (Sl.v Sl.nil)] [(0, (.string v_8)), (1, (.int .i64 v_13)), (2, (.bool v_15))] fun c_16 =>
  New #[(.string (ByteArray.mk #[])), (.int .i64 0), (.bool false), (Sl.v Sl.nil)] 104 (World.drew w_3) fun a_17 w_5 =>
  ((w_5).cell? adv_15 = some (.bool v_15)) ∧
  ((w_5).cell? adv_13 = some (.int .i64 v_13)) ∧
  StN 4 (some a_17) c_16 w_5 fun w_6 =>
  NotNil v_11 fun p_18 =>
  Ld Value.map (some (p_18.add 2)) w_6 fun v_19 =>
  CallF Try.prog 108 #[(.map v_19)] w_6 fun v_21 w_7 =>
  CallF Try.prog 98 #[v_21] w_7 fun u_22 w_8 => As Sl.v u_22 fun v_23 =>
  Lp (fun ag (s : Option Addr × Sl × Option Addr × Option Addr × Sl × Int × Int × Sl × Int × Int) w => model_Model_Images_b1 R ag1 ag s.1 s.2.1 s.2.2.1 s.2.2.2.1 s.2.2.2.2.1 s.2.2.2.2.2.1 s.2.2.2.2.2.2.1 s.2.2.2.2.2.2.2.1 s.2.2.2.2.2.2.2.2.1 s.2.2.2.2.2.2.2.2.2 w) (m0, out2, v_11, (some a_17), t14, t15, t16, v_23, (v_23.len : Int), 0) w_8) (
  R (Sl.v out2) w)
def model_Model_Images (R : Value → World → Prop) (m0 : Option Addr) (w : World) : Prop :=
 NotNil m0 fun p_1 =>
 Ld Value.map (some (p_1.add 0)) w fun v_2 =>
 CallF Try.prog 96 #[(.map v_2)] w fun v_4 w_1 =>
 CallF Try.prog 95 #[v_4] w_1 fun u_5 w_2 => As Sl.v u_5 fun v_6 =>
 Lp (fun ag (s : Option Addr × Sl × Sl × Int × Int) w => model_Model_Images_b0 R ag s.1 s.2.1 s.2.2.1 s.2.2.2.1 s.2.2.2.2 w) (m0, Sl.nil, v_6, (v_6.len : Int), 0) w_2
theorem model_Model_Images_ok (R : Value → World → Prop) (m0 : Option Addr) (w : World) (H : model_Model_Images R m0 w) : CallF Try.prog 50 #[(.pointer m0)] w R := by
 refine calls_of_runs (fn := Try.f50) Try.func50 rfl (Nat.le_of_ble_eq_true rfl) ?_
 show Runs _ _ 67 _ _ _ _
 unfold model_Model_Images at H
 refine ru 0 (.pointer m0) rfl ?_
 refine r_seq ?_
 refine r_region ?_
 refine xs (Sl.v Sl.nil) rfl rfl rfl rfl ?_
 refine xo_end ?_
 refine r_seq ?_
 refine r_seq ?_
 refine r_region ?_
 refine xm (.pointer m0) rfl rfl rfl rfl ?_
 obtain ⟨p_1, hpp_1, H⟩ := H
 refine xp (.pointer (some p_1)) rfl rfl (p_nilCheck rfl rfl hpp_1) ?_
 refine xp _ rfl rfl (p_fieldAddr (off := 0) (ft := 163) (size := 1) rfl Try.underlying165 rfl Try.ti163 (by decide) rfl rfl) ?_
 obtain ⟨adv_2, v_2, hev_2, hcv_2, H⟩ := H
 refine xr (.map v_2) rfl (wo rfl) rfl Try.underlying163 rfl rfl hev_2 hcv_2 ?_
 refine xo_eff rfl (wo rfl) (e_call (fn := Try.f96) H rfl rfl Try.func96 rfl rfl rfl) ?_
 intro v_4 w_1 H
 refine xo_eff rfl (wo rfl) (e_call (fn := Try.f95) H rfl rfl Try.func95 rfl rfl rfl) ?_
 rintro _ w_2 ⟨v_6, rfl, H⟩
 refine xp (.int .i64 (v_6.len : Int)) rfl rfl (p_len rfl Try.underlying71 rfl) ?_
 refine xm (.int .i64 0) rfl rfl rfl rfl ?_
 refine xo_end ?_
 refine r_block ?_
 refine ru 0 (.pointer m0) rfl ?_
 refine ru 2 (Sl.v Sl.nil) rfl ?_
 refine ru 14 (Sl.v v_6) rfl ?_
 refine ru 15 (.int .i64 (v_6.len : Int)) rfl ?_
 refine ru 16 (.int .i64 0) rfl ?_
 refine r_loopJ (fun (s : Option Addr × Sl × Sl × Int × Int) σ => upd 16 (.int .i64 s.2.2.2.2) (upd 15 (.int .i64 s.2.2.2.1) (upd 14 (Sl.v s.2.2.1) (upd 2 (Sl.v s.2.1) (upd 0 (.pointer s.1) (σ)))))) (s := (m0, Sl.nil, v_6, (v_6.len : Int), 0)) H ?_
 clear H
 rintro ag1 ⟨m0, out2, t14, t15, t16⟩ σ w H hag1
 replace H : model_Model_Images_b0 R ag1 m0 out2 t14 t15 t16 w := H
 show Runs _ _ _ _ _ (upd 16 (.int .i64 t16) (upd 15 (.int .i64 t15) (upd 14 (Sl.v t14) (upd 2 (Sl.v out2) (upd 0 (.pointer m0) (σ)))))) _
 unfold model_Model_Images_b0 at H
 refine r_seq ?_
 refine r_region ?_
 refine xp _ rfl rfl (p_lt rfl rfl rfl) ?_
 refine xo_end ?_
 refine r_seq ?_
 refine r_condB (b := (decide (t16 < t15))) rfl H ?_ ?_
 ·clear H; intro hb2 H
  refine r_skip ?_
  refine r_seq ?_
  refine r_block ?_
  refine r_seq ?_
  refine r_region ?_
  obtain ⟨p_7, hap_7, hlp_7, hup_7, H⟩ := H
  refine xp _ rfl rfl (p_indexAddr (s := t14) (ad := p_7) (size := 1) rfl Try.underlying71 Try.ti9 rfl rfl hap_7 hlp_7 hup_7) ?_
  obtain ⟨adv_8, v_8, hev_8, hcv_8, H⟩ := H
  refine xr (.string v_8) rfl (wo rfl) rfl Try.underlying9 rfl rfl hev_8 hcv_8 ?_
  refine xs (.string v_8) rfl rfl rfl rfl ?_
  refine xo_end ?_
  refine r_seq ?_
  refine r_region ?_
  refine xm (.pointer m0) rfl rfl rfl rfl ?_
  obtain ⟨p_9, hpp_9, H⟩ := H
  refine xp (.pointer (some p_9)) rfl rfl (p_nilCheck rfl rfl hpp_9) ?_
  refine xp _ rfl rfl (p_fieldAddr (off := 0) (ft := 163) (size := 1) rfl Try.underlying165 rfl Try.ti163 (by decide) rfl rfl) ?_
  obtain ⟨adv_10, v_10, hev_10, hcv_10, H⟩ := H
  refine xr (.map v_10) rfl (wo rfl) rfl Try.underlying163 rfl rfl hev_10 hcv_10 ?_
  refine xm (.string v_8) rfl rfl rfl rfl ?_
  refine xo_eff rfl (wo rfl) (e_gen (s := Instr.lookup 163 (.map v_10) (.string v_8) false) (enc := Value.pointer) rfl H) ?_
  rintro _ w_3 ⟨v_11, rfl, H⟩
  refine xs (.pointer v_11) rfl rfl rfl rfl ?_
  refine xo_end ?_
  refine r_seq ?_
  refine r_draw #[[], [], [1], [1, 2], [1, 2, 3], [], [5], [5, 6], [5, 6, 7], [0, 1, 2, 3, 4, 5, 6, 7, 8], [], [0, 1, 2, 3, 4, 5, 6, 7, 8, 9, 10]] 12 rfl rfl ?_
  refine am 0 (.string v_8) rfl rfl rfl rfl rfl ?_
  refine am 1 (.pointer v_11) rfl rfl rfl rfl rfl ?_
  obtain ⟨p_12, hpp_12, H⟩ := H
  refine ap 2 (.pointer (some p_12)) rfl rfl rfl (p_nilCheck rfl rfl hpp_12) ?_
  refine ap 3 _ rfl rfl rfl (p_fieldAddr (off := 0) (ft := 3) (size := 1) rfl Try.underlying170 rfl Try.ti3 (by decide) rfl rfl) ?_
  obtain ⟨adv_13, v_13, hev_13, hcv_13, H⟩ := H
  refine ar 4 (.int .i64 v_13) rfl rfl (wo rfl) rfl Try.underlying3 rfl rfl hev_13 hcv_13 ?_
  refine am 5 (.pointer v_11) rfl rfl rfl rfl rfl ?_
  obtain ⟨p_14, hpp_14, H⟩ := H
  refine ap 6 (.pointer (some p_14)) rfl rfl rfl (p_nilCheck rfl rfl hpp_14) ?_
  refine ap 7 _ rfl rfl rfl (p_fieldAddr (off := 1) (ft := 4) (size := 1) rfl Try.underlying170 rfl Try.ti4 (by decide) rfl rfl) ?_
  obtain ⟨adv_15, v_15, hev_15, hcv_15, H⟩ := H
  refine ar 8 (.bool v_15) rfl rfl (wo rfl) rfl Try.underlying4 rfl rfl hev_15 hcv_15 ?_
  obtain ⟨c_16, hflc_16, H⟩ := H
  refine ap 9 (.agg c_16) rfl rfl rfl (p_buildS (places := #[(0, 1), (1, 1), (2, 1), (3, 1)]) rfl Try.pl104 Try.ti104 hflc_16 rfl) ?_
  refine xa_eff 10 [(8, (fun w => w.cell? adv_15 = some (.bool v_15))), (4, (fun w => w.cell? adv_13 = some (.int .i64 v_13)))] (by decide +kernel) rfl rfl rfl (wo rfl) (e_alloc rfl Try.ti104 H) ?_
  rintro _ w_5 ⟨a_17, rfl, H⟩
  obtain ⟨hk10_8, hk10_4, H⟩ := H
  refine ⟨(.cons hk10_8 (.cons hk10_4 AllHeld.nil)), ?_⟩
  refine an 11 rfl rfl rfl (wo rfl) (e_storeN rfl Try.ti104 rfl rfl H) fun _ w_6 H => ?_
  refine ax ?_
  refine r_seq ?_
  refine r_seq ?_
  refine r_region ?_
  refine xm (.pointer v_11) rfl rfl rfl rfl ?_
  obtain ⟨p_18, hpp_18, H⟩ := H
  refine xp (.pointer (some p_18)) rfl rfl (p_nilCheck rfl rfl hpp_18) ?_
  refine xp _ rfl rfl (p_fieldAddr (off := 2) (ft := 168) (size := 1) rfl Try.underlying170 rfl Try.ti168 (by decide) rfl rfl) ?_
  obtain ⟨adv_19, v_19, hev_19, hcv_19, H⟩ := H
  refine xr (.map v_19) rfl (wo rfl) rfl Try.underlying168 rfl rfl hev_19 hcv_19 ?_
  refine xo_eff rfl (wo rfl) (e_call (fn := Try.f108) H rfl rfl Try.func108 rfl rfl rfl) ?_
  intro v_21 w_7 H
  refine xo_eff rfl (wo rfl) (e_call (fn := Try.f98) H rfl rfl Try.func98 rfl rfl rfl) ?_
  rintro _ w_8 ⟨v_23, rfl, H⟩
  refine xp (.int .i64 (v_23.len : Int)) rfl rfl (p_len rfl Try.underlying184 rfl) ?_
  refine xm (.int .i64 0) rfl rfl rfl rfl ?_
  refine xo_end ?_
  refine r_block ?_
  refine ru 0 (.pointer m0) rfl ?_
  refine ru 2 (Sl.v out2) rfl ?_
  refine ru 5 (.pointer v_11) rfl ?_
  refine ru 6 (.pointer (some a_17)) rfl ?_
  refine ru 14 (Sl.v t14) rfl ?_
  refine ru 15 (.int .i64 t15) rfl ?_
  refine ru 16 (.int .i64 t16) rfl ?_
  refine ru 41 (Sl.v v_23) rfl ?_
  refine ru 42 (.int .i64 (v_23.len : Int)) rfl ?_
  refine ru 43 (.int .i64 0) rfl ?_
  refine r_loopJ (fun (s : Option Addr × Sl × Option Addr × Option Addr × Sl × Int × Int × Sl × Int × Int) σ => upd 43 (.int .i64 s.2.2.2.2.2.2.2.2.2) (upd 42 (.int .i64 s.2.2.2.2.2.2.2.2.1) (upd 41 (Sl.v s.2.2.2.2.2.2.2.1) (upd 16 (.int .i64 s.2.2.2.2.2.2.1) (upd 15 (.int .i64 s.2.2.2.2.2.1) (upd 14 (Sl.v s.2.2.2.2.1) (upd 6 (.pointer s.2.2.2.1) (upd 5 (.pointer s.2.2.1) (upd 2 (Sl.v s.2.1) (upd 0 (.pointer s.1) (σ))))))))))) (s := (m0, out2, v_11, (some a_17), t14, t15, t16, v_23, (v_23.len : Int), 0)) H ?_
  clear H
  rintro ag3 ⟨m0, out2, v5, x6, t14, t15, t16, t41, t42, t43⟩ σ w H hag3
  replace H : model_Model_Images_b1 R ag1 ag3 m0 out2 v5 x6 t14 t15 t16 t41 t42 t43 w := H
  show Runs _ _ _ _ _ (upd 43 (.int .i64 t43) (upd 42 (.int .i64 t42) (upd 41 (Sl.v t41) (upd 16 (.int .i64 t16) (upd 15 (.int .i64 t15) (upd 14 (Sl.v t14) (upd 6 (.pointer x6) (upd 5 (.pointer v5) (upd 2 (Sl.v out2) (upd 0 (.pointer m0) (σ))))))))))) _
  unfold model_Model_Images_b1 at H
  refine r_seq ?_
  refine r_region ?_
  refine xp _ rfl rfl (p_lt rfl rfl rfl) ?_
  refine xo_end ?_
  refine r_seq ?_
  refine r_condB (b := (decide (t43 < t42))) rfl H ?_ ?_
  ·clear H; intro hb4 H
   refine r_skip ?_
   refine r_seq ?_
   refine r_block ?_
   refine r_seq ?_
   refine r_region ?_
   obtain ⟨p_24, hap_24, hlp_24, hup_24, H⟩ := H
   refine xp _ rfl rfl (p_indexAddr (s := t41) (ad := p_24) (size := 1) rfl Try.underlying184 Try.ti3 rfl rfl hap_24 hlp_24 hup_24) ?_
   obtain ⟨adv_25, v_25, hev_25, hcv_25, H⟩ := H
   refine xr (.int .i64 v_25) rfl (wo rfl) rfl Try.underlying3 rfl rfl hev_25 hcv_25 ?_
   refine xs (.int .i64 v_25) rfl rfl rfl rfl ?_
   refine xo_end ?_
   refine r_draw #[[], [0], [], [], [3], [3, 4], [3, 4, 5], [], [3, 4, 5, 6, 7], [2, 3, 4, 5, 6, 7, 8], [2, 3, 4, 5, 6, 7, 8, 9], [0, 1, 2, 3, 4, 5, 6, 7, 8, 9, 10], [0, 1, 2, 3, 4, 5, 6, 7, 8, 9, 10, 11], [0, 1, 2, 3, 4, 5, 6, 7, 8, 9, 10, 11, 12]] 14 rfl rfl ?_
   obtain ⟨p_26, hpp_26, H⟩ := H
   refine ap 0 _ rfl rfl rfl (p_fieldAddr (off := 3) (ft := 102) (size := 1) rfl Try.underlying104 rfl Try.ti102 (by decide) rfl hpp_26) ?_
   obtain ⟨adv_27, v_27, hev_27, hcv_27, H⟩ := H
   refine ar 1 (Sl.v v_27) rfl rfl (wo rfl) rfl Try.underlying102 rfl rfl hev_27 hcv_27 ?_
   refine am 2 (.int .i64 v_25) rfl rfl rfl rfl rfl ?_
   refine am 3 (.pointer v5) rfl rfl rfl rfl rfl ?_
   obtain ⟨p_28, hpp_28, H⟩ := H
   refine ap 4 (.pointer (some p_28)) rfl rfl rfl (p_nilCheck rfl rfl hpp_28) ?_
   refine ap 5 _ rfl rfl rfl (p_fieldAddr (off := 2) (ft := 168) (size := 1) rfl Try.underlying170 rfl Try.ti168 (by decide) rfl rfl) ?_
   obtain ⟨adv_29, v_29, hev_29, hcv_29, H⟩ := H
   refine ar 6 (.map v_29) rfl rfl (wo rfl) rfl Try.underlying168 rfl rfl hev_29 hcv_29 ?_
   refine am 7 (.int .i64 v_25) rfl rfl rfl rfl rfl ?_
   refine xa_eff 8 [(1, (fun w => w.cell? adv_27 = some (Sl.v v_27)))] (by decide +kernel) rfl rfl rfl (wo rfl) (e_gen (s := Instr.lookup 168 (.map v_29) (.int .i64 v_25) false) (enc := Value.agg) rfl H) ?_
   rintro _ w_10 ⟨v_30, rfl, H⟩
   obtain ⟨hk8_1, H⟩ := H
   refine ⟨(.cons hk8_1 AllHeld.nil), ?_⟩
   obtain ⟨c_31, hflc_31, H⟩ := H
   refine ap 9 (.agg c_31) rfl rfl rfl (p_buildS (places := #[(0, 1), (1, 48)]) rfl Try.pl199 Try.ti199 hflc_31 rfl) ?_
   obtain ⟨hzq_33, H⟩ := H
   refine xa_eff 10 [(1, (fun w => w.cell? adv_27 = some (Sl.v v_27)))] (by decide +kernel) rfl rfl rfl (wo rfl) (e_buildAgg (size := 49) H rfl Try.underlying102 Try.ti199 (by decide) (by decide) rfl hzq_33) ?_
   rintro _ w_11 ⟨a_32, rfl, H⟩
   obtain ⟨hk10_1, H⟩ := H
   refine ⟨(.cons hk10_1 AllHeld.nil), ?_⟩
   refine xa_eff 11 [] (by decide +kernel) rfl rfl rfl (wo rfl) (e_app H rfl rfl rfl) ?_
   rintro _ w_12 ⟨v_34, rfl, H⟩
   refine ⟨AllHeld.nil, ?_⟩
   obtain ⟨p_35, hpp_35, H⟩ := H
   refine ap 12 _ rfl rfl rfl (p_fieldAddr (off := 3) (ft := 102) (size := 1) rfl Try.underlying104 rfl Try.ti102 (by decide) rfl hpp_35) ?_
   refine an 13 rfl rfl rfl (wo rfl) (e_store rfl Try.ti102 rfl rfl rfl H) fun _ w_13 H => ?_
   refine ax ?_
   refine r_inBlock ?_
   refine r_region ?_
   refine xp _ rfl rfl (p_add rfl rfl rfl) ?_
   refine xm (.int .i64 (IntKind.i64.wrap (t43 + 1))) rfl rfl rfl rfl ?_
   refine xo_end ?_
   refine ru 0 (.pointer m0) rfl ?_
   refine ru 2 (Sl.v out2) rfl ?_
   refine ru 5 (.pointer v5) rfl ?_
   refine ru 6 (.pointer x6) rfl ?_
   refine ru 14 (Sl.v t14) rfl ?_
   refine ru 15 (.int .i64 t15) rfl ?_
   refine ru 16 (.int .i64 t16) rfl ?_
   refine ru 41 (Sl.v t41) rfl ?_
   refine ru 42 (.int .i64 t42) rfl ?_
   refine ru 43 (.int .i64 (IntKind.i64.wrap (t43 + 1))) rfl ?_
   exact hag3 (m0, out2, v5, x6, t14, t15, t16, t41, t42, (IntKind.i64.wrap (t43 + 1))) _ _ H
  ·clear H; intro hb4 H
   refine r_exit rfl ?_
   refine r_region ?_
   refine xm (Sl.v out2) rfl rfl rfl rfl ?_
   obtain ⟨adv_36, v_36, hev_36, hnv_36, hcv_36, H⟩ := H
   refine xo_read (v := (.agg v_36)) rfl (wo rfl) (rd_loadN (ad := adv_36) rfl Try.underlying104 rfl Try.ti104 (by show Value.pointer _ = _; rw [hev_36]) hnv_36 hcv_36) ?_
   obtain ⟨hzq_38, H⟩ := H
   refine xo_eff rfl (wo rfl) (e_buildAgg (size := 4) H rfl Try.underlying100 Try.ti104 (by decide) (by decide) rfl hzq_38) ?_
   rintro _ w_14 ⟨a_37, rfl, H⟩
   refine xo_eff rfl (wo rfl) (e_app H rfl rfl rfl) ?_
   rintro _ w_15 ⟨v_39, rfl, H⟩
   refine xs (Sl.v v_39) rfl rfl rfl rfl ?_
   refine xo_end ?_
   refine r_inBlock ?_
   refine r_region ?_
   refine xp _ rfl rfl (p_add rfl rfl rfl) ?_
   refine xm (.int .i64 (IntKind.i64.wrap (t16 + 1))) rfl rfl rfl rfl ?_
   refine xo_end ?_
   refine ru 0 (.pointer m0) rfl ?_
   refine ru 2 (Sl.v v_39) rfl ?_
   refine ru 14 (Sl.v t14) rfl ?_
   refine ru 15 (.int .i64 t15) rfl ?_
   refine ru 16 (.int .i64 (IntKind.i64.wrap (t16 + 1))) rfl ?_
   exact hag1 (m0, v_39, t14, t15, (IntKind.i64.wrap (t16 + 1))) _ _ H
 ·clear H; intro hb2 H
  refine r_exit rfl ?_
  refine r_seq ?_
  refine r_region ?_
  refine xm (Sl.v out2) rfl rfl rfl rfl ?_
  refine xs (Sl.v out2) rfl rfl rfl rfl ?_
  refine xo_end ?_
  exact r_ret (fn := Try.f50) Try.func50 (res_1 rfl ⟨by decide, rfl⟩) H

/-! 51 sporran/sporranref15.Find -/
def sporranref15_Find_b0 (R : Value → World → Prop) (ag1 : (Sl × ByteArray × Int) → World → Prop) (l0 : Sl) (name1 : ByteArray) (i5 : Int) (w : World) : Prop :=
 IfB (decide (i5 < (l0.len : Int))) (
  Ix l0 i5 fun p_1 =>
  Ld Value.string (some ((p_1.add (i5.toNat * 4)).add 0)) w fun v_2 =>
  IfB (seq v_2 name1) (
   R (.int .i64 i5) w) (
   ag1 (l0, name1, (IntKind.i64.wrap (i5 + 1))) w)) (
  R (.int .i64 (-1)) w)
def sporranref15_Find (R : Value → World → Prop) (l0 : Sl) (name1 : ByteArray) (w : World) : Prop :=
 Lp (fun ag (s : Sl × ByteArray × Int) w => sporranref15_Find_b0 R ag s.1 s.2.1 s.2.2 w) (l0, name1, 0) w
theorem sporranref15_Find_ok (R : Value → World → Prop) (l0 : Sl) (name1 : ByteArray) (w : World) (H : sporranref15_Find R l0 name1 w) : CallF Try.prog 51 #[(Sl.v l0), (.string name1)] w R := by
 refine calls_of_runs (fn := Try.f51) Try.func51 rfl (Nat.le_of_ble_eq_true rfl) ?_
 show Runs _ _ 20 _ _ _ _
 unfold sporranref15_Find at H
 refine ru 0 (Sl.v l0) rfl ?_
 refine ru 1 (.string name1) rfl ?_
 refine r_seq ?_
 refine r_region ?_
 refine xs (.int .i64 0) rfl rfl rfl rfl ?_
 refine xo_end ?_
 refine r_seq ?_
 refine r_seq ?_
 refine r_region ?_
 refine xs (.int .i64 0) rfl rfl rfl rfl ?_
 refine xo_end ?_
 refine r_block ?_
 refine ru 0 (Sl.v l0) rfl ?_
 refine ru 1 (.string name1) rfl ?_
 refine ru 5 (.int .i64 0) rfl ?_
 refine r_loopJ (fun (s : Sl × ByteArray × Int) σ => upd 5 (.int .i64 s.2.2) (upd 1 (.string s.2.1) (upd 0 (Sl.v s.1) (σ)))) (s := (l0, name1, 0)) H ?_
 clear H
 rintro ag1 ⟨l0, name1, i5⟩ σ w H hag1
 replace H : sporranref15_Find_b0 R ag1 l0 name1 i5 w := H
 show Runs _ _ _ _ _ (upd 5 (.int .i64 i5) (upd 1 (.string name1) (upd 0 (Sl.v l0) (σ)))) _
 unfold sporranref15_Find_b0 at H
 refine r_seq ?_
 refine r_seq ?_
 refine r_region ?_
 refine xm (.int .i64 i5) rfl rfl rfl rfl ?_
 refine xm (Sl.v l0) rfl rfl rfl rfl ?_
 refine xp (.int .i64 (l0.len : Int)) rfl rfl (p_len rfl Try.underlying100 rfl) ?_
 refine xp _ rfl rfl (p_lt rfl rfl rfl) ?_
 refine xo_end ?_
 refine r_condB (b := (decide (i5 < (l0.len : Int)))) rfl H ?_ ?_
 ·clear H; intro hb2 H
  refine r_skip ?_
  refine r_seq ?_
  refine r_block ?_
  refine r_seq ?_
  refine r_region ?_
  refine xm (Sl.v l0) rfl rfl rfl rfl ?_
  refine xm (.int .i64 i5) rfl rfl rfl rfl ?_
  obtain ⟨p_1, hap_1, hlp_1, hup_1, H⟩ := H
  refine xp _ rfl rfl (p_indexAddr (s := l0) (ad := p_1) (size := 4) rfl Try.underlying100 Try.ti104 rfl rfl hap_1 hlp_1 hup_1) ?_
  refine xp _ rfl rfl (p_fieldAddr (off := 0) (ft := 9) (size := 1) rfl Try.underlying104 rfl Try.ti9 (by decide) rfl rfl) ?_
  obtain ⟨adv_2, v_2, hev_2, hcv_2, H⟩ := H
  refine xr (.string v_2) rfl (wo rfl) rfl Try.underlying9 rfl rfl hev_2 hcv_2 ?_
  refine xm (.string name1) rfl rfl rfl rfl ?_
  refine xp (.bool (seq v_2 name1)) rfl rfl (p_seq rfl rfl rfl) ?_
  refine xo_end ?_
  refine r_condB (b := (seq v_2 name1)) rfl H ?_ ?_
  ·clear H; intro hb3 H
   refine r_seq ?_
   refine r_region ?_
   refine xm (.int .i64 i5) rfl rfl rfl rfl ?_
   refine xs (.int .i64 i5) rfl rfl rfl rfl ?_
   refine xo_end ?_
   exact r_ret (fn := Try.f51) Try.func51 (res_1 rfl ⟨by decide, rfl⟩) H
  ·clear H; intro hb3 H
   refine r_skip ?_
   refine r_inBlock ?_
   refine r_region ?_
   refine xm (.int .i64 i5) rfl rfl rfl rfl ?_
   refine xp _ rfl rfl (p_add rfl rfl rfl) ?_
   refine xs (.int .i64 (IntKind.i64.wrap (i5 + 1))) rfl rfl rfl rfl ?_
   refine xo_end ?_
   refine ru 0 (Sl.v l0) rfl ?_
   refine ru 1 (.string name1) rfl ?_
   refine ru 5 (.int .i64 (IntKind.i64.wrap (i5 + 1))) rfl ?_
   exact hag1 (l0, name1, (IntKind.i64.wrap (i5 + 1))) _ _ H
 ·clear H; intro hb2 H
  refine r_exit rfl ?_
  refine r_seq ?_
  refine r_region ?_
  refine xs (.int .i64 (-1)) rfl rfl rfl rfl ?_
  refine xo_end ?_
  exact r_ret (fn := Try.f51) Try.func51 (res_1 rfl ⟨by decide, rfl⟩) H

/-! 52 sporran/sporranref15.Same -/
def sporranref15_Same_b2 (R : Value → World → Prop) (ag2 : (Sl × Sl × Int) → World → Prop) (ag6 : (Sl × Sl × Int × Int) → World → Prop) (a0 : Sl) (b1 : Sl) (i5 : Int) (k6 : Int) (w : World) : Prop :=
 Ix a0 i5 fun p_1 =>
 Ld Sl.v (some ((p_1.add (i5.toNat * 4)).add 3)) w fun v_2 =>
 IfB (decide (k6 < (v_2.len : Int))) (
  Ix a0 i5 fun p_3 =>
  Ld Sl.v (some ((p_3.add (i5.toNat * 4)).add 3)) (World.drew w) fun v_4 =>
  Ix v_4 k6 fun p_5 =>
  LdN 49 (some (p_5.add (k6.toNat * 49))) (World.drew w) fun v_6 =>
  Ix b1 i5 fun p_7 =>
  Ld Sl.v (some ((p_7.add (i5.toNat * 4)).add 3)) (World.drew w) fun v_8 =>
  Ix v_8 k6 fun p_9 =>
  LdN 49 (some (p_9.add (k6.toNat * 49))) (World.drew w) fun v_10 =>
  AggEq Try.prog 199 v_6 v_10 fun b_11 =>
  IfB (!b_11) (
   R (.bool false) (World.drew w)) (
   ag6 (a0, b1, i5, (IntKind.i64.wrap (k6 + 1))) (World.drew w))) (
  ag2 (a0, b1, (IntKind.i64.wrap (i5 + 1))) w)
def sporranref15_Same_k1 (R : Value → World → Prop) (ag2 : (Sl × Sl × Int) → World → Prop) (a0 : Sl) (b1 : Sl) (i5 : Int) (t69 : Bool) (w : World) : Prop :=
 IfB t69 (
  R (.bool false) w) (
  Lp (fun ag (s : Sl × Sl × Int × Int) w => sporranref15_Same_b2 R ag2 ag s.1 s.2.1 s.2.2.1 s.2.2.2 w) (a0, b1, i5, 0) w)
def sporranref15_Same_b0 (R : Value → World → Prop) (ag2 : (Sl × Sl × Int) → World → Prop) (a0 : Sl) (b1 : Sl) (i5 : Int) (w : World) : Prop :=
 IfB (decide (i5 < (a0.len : Int))) (
  Ix a0 i5 fun p_12 =>
  Ld Value.string (some ((p_12.add (i5.toNat * 4)).add 0)) (World.drew w) fun v_13 =>
  Ix b1 i5 fun p_14 =>
  Ld Value.string (some ((p_14.add (i5.toNat * 4)).add 0)) (World.drew w) fun v_15 =>
  IfB (!seq v_13 v_15) (
   sporranref15_Same_k1 R ag2 a0 b1 i5 true (World.drew w)) (
   Ix a0 i5 fun p_16 =>
   Ld (Value.int .i64) (some ((p_16.add (i5.toNat * 4)).add 1)) (World.drew w) fun v_17 =>
   Ix b1 i5 fun p_18 =>
   Ld (Value.int .i64) (some ((p_18.add (i5.toNat * 4)).add 1)) (World.drew w) fun v_19 =>
   IfB (!decide (v_17 = v_19)) (
    sporranref15_Same_k1 R ag2 a0 b1 i5 true (World.drew w)) (
    Ix a0 i5 fun p_20 =>
    Ld Value.bool (some ((p_20.add (i5.toNat * 4)).add 2)) (World.drew w) fun v_21 =>
    Ix b1 i5 fun p_22 =>
    Ld Value.bool (some ((p_22.add (i5.toNat * 4)).add 2)) (World.drew w) fun v_23 =>
    IfB (!(v_21 == v_23)) (
     sporranref15_Same_k1 R ag2 a0 b1 i5 true (World.drew w)) (
     Ix a0 i5 fun p_24 =>
     Ld Sl.v (some ((p_24.add (i5.toNat * 4)).add 3)) (World.drew w) fun v_25 =>
     Ix b1 i5 fun p_26 =>
     Ld Sl.v (some ((p_26.add (i5.toNat * 4)).add 3)) (World.drew w) fun v_27 =>
     sporranref15_Same_k1 R ag2 a0 b1 i5 (!decide ((v_25.len : Int) = (v_27.len : Int))) (World.drew w))))) (
  R (.bool true) w)
def sporranref15_Same (R : Value → World → Prop) (a0 : Sl) (b1 : Sl) (w : World) : Prop :=
 IfB (!decide ((a0.len : Int) = (b1.len : Int))) (
  R (.bool false) w) (
  Lp (fun ag (s : Sl × Sl × Int) w => sporranref15_Same_b0 R ag s.1 s.2.1 s.2.2 w) (a0, b1, 0) w)
theorem sporranref15_Same_ok (R : Value → World → Prop) (a0 : Sl) (b1 : Sl) (w : World) (H : sporranref15_Same R a0 b1 w) : CallF Try.prog 52 #[(Sl.v a0), (Sl.v b1)] w R := by
 refine calls_of_runs (fn := Try.f52) Try.func52 rfl (Nat.le_of_ble_eq_true rfl) ?_
 show Runs _ _ 97 _ _ _ _
 unfold sporranref15_Same at H
 refine ru 0 (Sl.v a0) rfl ?_
 refine ru 1 (Sl.v b1) rfl ?_
 refine r_seq ?_
 refine r_region ?_
 refine xs (.bool false) rfl rfl rfl rfl ?_
 refine xo_end ?_
 refine r_seq ?_
 refine r_seq ?_
 refine r_region ?_
 refine xm (Sl.v a0) rfl rfl rfl rfl ?_
 refine xp (.int .i64 (a0.len : Int)) rfl rfl (p_len rfl Try.underlying100 rfl) ?_
 refine xm (Sl.v b1) rfl rfl rfl rfl ?_
 refine xp (.int .i64 (b1.len : Int)) rfl rfl (p_len rfl Try.underlying100 rfl) ?_
 refine xp _ rfl rfl (p_ne rfl rfl rfl) ?_
 refine xo_end ?_
 refine r_condB (b := (!decide ((a0.len : Int) = (b1.len : Int)))) rfl H ?_ ?_
 ·clear H; intro hb1 H
  refine r_seq ?_
  refine r_region ?_
  refine xs (.bool false) rfl rfl rfl rfl ?_
  refine xo_end ?_
  exact r_ret (fn := Try.f52) Try.func52 (res_1 rfl ⟨by decide, rfl⟩) H
 ·clear H; intro hb1 H
  refine r_skip ?_
  refine r_seq ?_
  refine r_seq ?_
  refine r_region ?_
  refine xs (.int .i64 0) rfl rfl rfl rfl ?_
  refine xo_end ?_
  refine r_block ?_
  refine ru 0 (Sl.v a0) rfl ?_
  refine ru 1 (Sl.v b1) rfl ?_
  refine ru 5 (.int .i64 0) rfl ?_
  refine r_loopJ (fun (s : Sl × Sl × Int) σ => upd 5 (.int .i64 s.2.2) (upd 1 (Sl.v s.2.1) (upd 0 (Sl.v s.1) (σ)))) (s := (a0, b1, 0)) H ?_
  clear H
  rintro ag2 ⟨a0, b1, i5⟩ σ w H hag2
  replace H : sporranref15_Same_b0 R ag2 a0 b1 i5 w := H
  show Runs _ _ _ _ _ (upd 5 (.int .i64 i5) (upd 1 (Sl.v b1) (upd 0 (Sl.v a0) (σ)))) _
  unfold sporranref15_Same_b0 at H
  refine r_seq ?_
  refine r_seq ?_
  refine r_region ?_
  refine xm (.int .i64 i5) rfl rfl rfl rfl ?_
  refine xm (Sl.v a0) rfl rfl rfl rfl ?_
  refine xp (.int .i64 (a0.len : Int)) rfl rfl (p_len rfl Try.underlying100 rfl) ?_
  refine xp _ rfl rfl (p_lt rfl rfl rfl) ?_
  refine xo_end ?_
  refine r_condB (b := (decide (i5 < (a0.len : Int)))) rfl H ?_ ?_
  ·clear H; intro hb3 H
   refine r_skip ?_
   refine r_seq ?_
   refine r_block ?_
   refine r_seq ?_
   refine r_seq ?_
   refine r_topJ (fun (s : Sl × Sl × Int × Bool) σ => upd 69 (.bool s.2.2.2) (upd 5 (.int .i64 s.2.2.1) (upd 1 (Sl.v s.2.1) (upd 0 (Sl.v s.1) (σ))))) (fun (s : Sl × Sl × Int × Bool) w => sporranref15_Same_k1 R ag2 s.1 s.2.1 s.2.2.1 s.2.2.2 w) ?_ ?_
   ·rintro ⟨a0, b1, i5, t69⟩ σ w H
    replace H : sporranref15_Same_k1 R ag2 a0 b1 i5 t69 w := H
    show Runs _ _ _ _ _ (upd 69 (.bool t69) (upd 5 (.int .i64 i5) (upd 1 (Sl.v b1) (upd 0 (Sl.v a0) (σ))))) _
    unfold sporranref15_Same_k1 at H
    refine r_condB (b := t69) rfl H ?_ ?_
    ·clear H; intro hb5 H
     refine r_seq ?_
     refine r_region ?_
     refine xs (.bool false) rfl rfl rfl rfl ?_
     refine xo_end ?_
     exact r_ret (fn := Try.f52) Try.func52 (res_1 rfl ⟨by decide, rfl⟩) H
    ·clear H; intro hb5 H
     refine r_skip ?_
     refine r_seq ?_
     refine r_region ?_
     refine xs (.int .i64 0) rfl rfl rfl rfl ?_
     refine xo_end ?_
     refine r_block ?_
     refine ru 0 (Sl.v a0) rfl ?_
     refine ru 1 (Sl.v b1) rfl ?_
     refine ru 5 (.int .i64 i5) rfl ?_
     refine ru 6 (.int .i64 0) rfl ?_
     refine r_loopJ (fun (s : Sl × Sl × Int × Int) σ => upd 6 (.int .i64 s.2.2.2) (upd 5 (.int .i64 s.2.2.1) (upd 1 (Sl.v s.2.1) (upd 0 (Sl.v s.1) (σ))))) (s := (a0, b1, i5, 0)) H ?_
     clear H
     rintro ag6 ⟨a0, b1, i5, k6⟩ σ w H hag6
     replace H : sporranref15_Same_b2 R ag2 ag6 a0 b1 i5 k6 w := H
     show Runs _ _ _ _ _ (upd 6 (.int .i64 k6) (upd 5 (.int .i64 i5) (upd 1 (Sl.v b1) (upd 0 (Sl.v a0) (σ))))) _
     unfold sporranref15_Same_b2 at H
     refine r_seq ?_
     refine r_seq ?_
     refine r_region ?_
     refine xm (.int .i64 k6) rfl rfl rfl rfl ?_
     refine xm (Sl.v a0) rfl rfl rfl rfl ?_
     refine xm (.int .i64 i5) rfl rfl rfl rfl ?_
     obtain ⟨p_1, hap_1, hlp_1, hup_1, H⟩ := H
     refine xp _ rfl rfl (p_indexAddr (s := a0) (ad := p_1) (size := 4) rfl Try.underlying100 Try.ti104 rfl rfl hap_1 hlp_1 hup_1) ?_
     refine xp _ rfl rfl (p_fieldAddr (off := 3) (ft := 102) (size := 1) rfl Try.underlying104 rfl Try.ti102 (by decide) rfl rfl) ?_
     obtain ⟨adv_2, v_2, hev_2, hcv_2, H⟩ := H
     refine xr (Sl.v v_2) rfl (wo rfl) rfl Try.underlying102 rfl rfl hev_2 hcv_2 ?_
     refine xp (.int .i64 (v_2.len : Int)) rfl rfl (p_len rfl Try.underlying102 rfl) ?_
     refine xp _ rfl rfl (p_lt rfl rfl rfl) ?_
     refine xo_end ?_
     refine r_condB (b := (decide (k6 < (v_2.len : Int)))) rfl H ?_ ?_
     ·clear H; intro hb7 H
      refine r_skip ?_
      refine r_seq ?_
      refine r_block ?_
      refine r_seq ?_
      refine r_draw #[[], [], [0, 1], [0, 1, 2], [0, 1, 2, 3], [], [0, 1, 2, 3, 4, 5], [0, 1, 2, 3, 4, 5, 6], [], [], [8, 9], [8, 9, 10], [8, 9, 10, 11], [], [8, 9, 10, 11, 12, 13], [8, 9, 10, 11, 12, 13, 14], [0, 1, 2, 3, 4, 5, 6, 7, 8, 9, 10, 11, 12, 13, 14, 15]] 17 rfl rfl ?_
      refine am 0 (Sl.v a0) rfl rfl rfl rfl rfl ?_
      refine am 1 (.int .i64 i5) rfl rfl rfl rfl rfl ?_
      obtain ⟨p_3, hap_3, hlp_3, hup_3, H⟩ := H
      refine ap 2 _ rfl rfl rfl (p_indexAddr (s := a0) (ad := p_3) (size := 4) rfl Try.underlying100 Try.ti104 rfl rfl hap_3 hlp_3 hup_3) ?_
      refine ap 3 _ rfl rfl rfl (p_fieldAddr (off := 3) (ft := 102) (size := 1) rfl Try.underlying104 rfl Try.ti102 (by decide) rfl rfl) ?_
      obtain ⟨adv_4, v_4, hev_4, hcv_4, H⟩ := H
      refine ar 4 (Sl.v v_4) rfl rfl (wo rfl) rfl Try.underlying102 rfl rfl hev_4 hcv_4 ?_
      refine am 5 (.int .i64 k6) rfl rfl rfl rfl rfl ?_
      obtain ⟨p_5, hap_5, hlp_5, hup_5, H⟩ := H
      refine ap 6 _ rfl rfl rfl (p_indexAddr (s := v_4) (ad := p_5) (size := 49) rfl Try.underlying102 Try.ti199 rfl rfl hap_5 hlp_5 hup_5) ?_
      obtain ⟨adv_6, v_6, hev_6, hnv_6, hcv_6, H⟩ := H
      refine xa_read (v := (.agg v_6)) (S := (fun w => Row w adv_6 v_6)) 7 (by decide +kernel) rfl rfl (wo rfl) (fun w hc => rd_loadN (ad := adv_6) rfl Try.underlying199 rfl Try.ti199 (by show Value.pointer _ = _; rw [hev_6]) hnv_6 hc) hcv_6 ?_
      refine am 8 (Sl.v b1) rfl rfl rfl rfl rfl ?_
      refine am 9 (.int .i64 i5) rfl rfl rfl rfl rfl ?_
      obtain ⟨p_7, hap_7, hlp_7, hup_7, H⟩ := H
      refine ap 10 _ rfl rfl rfl (p_indexAddr (s := b1) (ad := p_7) (size := 4) rfl Try.underlying100 Try.ti104 rfl rfl hap_7 hlp_7 hup_7) ?_
      refine ap 11 _ rfl rfl rfl (p_fieldAddr (off := 3) (ft := 102) (size := 1) rfl Try.underlying104 rfl Try.ti102 (by decide) rfl rfl) ?_
      obtain ⟨adv_8, v_8, hev_8, hcv_8, H⟩ := H
      refine ar 12 (Sl.v v_8) rfl rfl (wo rfl) rfl Try.underlying102 rfl rfl hev_8 hcv_8 ?_
      refine am 13 (.int .i64 k6) rfl rfl rfl rfl rfl ?_
      obtain ⟨p_9, hap_9, hlp_9, hup_9, H⟩ := H
      refine ap 14 _ rfl rfl rfl (p_indexAddr (s := v_8) (ad := p_9) (size := 49) rfl Try.underlying102 Try.ti199 rfl rfl hap_9 hlp_9 hup_9) ?_
      obtain ⟨adv_10, v_10, hev_10, hnv_10, hcv_10, H⟩ := H
      refine xa_read (v := (.agg v_10)) (S := (fun w => Row w adv_10 v_10)) 15 (by decide +kernel) rfl rfl (wo rfl) (fun w hc => rd_loadN (ad := adv_10) rfl Try.underlying199 rfl Try.ti199 (by show Value.pointer _ = _; rw [hev_10]) hnv_10 hc) hcv_10 ?_
      obtain ⟨b_11, hqb_11, H⟩ := H
      refine ap 16 (.bool (!b_11)) rfl rfl rfl (p_aggNe rfl hqb_11 rfl rfl) ?_
      refine ax ?_
      refine r_condB (b := (!b_11)) rfl H ?_ ?_
      ·clear H; intro hb8 H
       refine r_seq ?_
       refine r_region ?_
       refine xs (.bool false) rfl rfl rfl rfl ?_
       refine xo_end ?_
       exact r_ret (fn := Try.f52) Try.func52 (res_1 rfl ⟨by decide, rfl⟩) H
      ·clear H; intro hb8 H
       refine r_skip ?_
       refine r_inBlock ?_
       refine r_region ?_
       refine xm (.int .i64 k6) rfl rfl rfl rfl ?_
       refine xp _ rfl rfl (p_add rfl rfl rfl) ?_
       refine xs (.int .i64 (IntKind.i64.wrap (k6 + 1))) rfl rfl rfl rfl ?_
       refine xo_end ?_
       refine ru 0 (Sl.v a0) rfl ?_
       refine ru 1 (Sl.v b1) rfl ?_
       refine ru 5 (.int .i64 i5) rfl ?_
       refine ru 6 (.int .i64 (IntKind.i64.wrap (k6 + 1))) rfl ?_
       exact hag6 (a0, b1, i5, (IntKind.i64.wrap (k6 + 1))) _ _ H
     ·clear H; intro hb7 H
      refine r_exit rfl ?_
      refine r_inBlock ?_
      refine r_region ?_
      refine xm (.int .i64 i5) rfl rfl rfl rfl ?_
      refine xp _ rfl rfl (p_add rfl rfl rfl) ?_
      refine xs (.int .i64 (IntKind.i64.wrap (i5 + 1))) rfl rfl rfl rfl ?_
      refine xo_end ?_
      refine ru 0 (Sl.v a0) rfl ?_
      refine ru 1 (Sl.v b1) rfl ?_
      refine ru 5 (.int .i64 (IntKind.i64.wrap (i5 + 1))) rfl ?_
      exact hag2 (a0, b1, (IntKind.i64.wrap (i5 + 1))) _ _ H
   ·intro J4
    refine r_draw #[[], [], [0, 1], [0, 1, 2], [0, 1, 2, 3], [], [], [5, 6], [5, 6, 7], [5, 6, 7, 8], [0, 1, 2, 3, 4, 5, 6, 7, 8, 9], [0, 1, 2, 3, 4, 5, 6, 7, 8, 9, 10], [0, 1, 2, 3, 4, 5, 6, 7, 8, 9, 10, 11], [0, 1, 2, 3, 4, 5, 6, 7, 8, 9, 10, 11], [0, 1, 2, 3, 4, 5, 6, 7, 8, 9, 10, 11, 12, 13], [0, 1, 2, 3, 4, 5, 6, 7, 8, 9, 10, 11, 12, 13, 14], [0, 1, 2, 3, 4, 5, 6, 7, 8, 9, 10, 11, 12, 13, 14, 15], [0, 1, 2, 3, 4, 5, 6, 7, 8, 9, 10, 11], [0, 1, 2, 3, 4, 5, 6, 7, 8, 9, 10, 11], [0, 1, 2, 3, 4, 5, 6, 7, 8, 9, 10, 11, 17, 18], [0, 1, 2, 3, 4, 5, 6, 7, 8, 9, 10, 11, 17, 18, 19], [0, 1, 2, 3, 4, 5, 6, 7, 8, 9, 10, 11, 17, 18, 19, 20], [0, 1, 2, 3, 4, 5, 6, 7, 8, 9, 10, 11, 12, 13, 14, 15, 16, 17, 18, 19, 20, 21], [0, 1, 2, 3, 4, 5, 6, 7, 8, 9, 10, 11, 12, 13, 14, 15, 16, 17, 18, 19, 20, 21, 22], [0, 1, 2, 3, 4, 5, 6, 7, 8, 9, 10, 11, 12, 13, 14, 15, 16, 17, 18, 19, 20, 21, 22, 23], [0, 1, 2, 3, 4, 5, 6, 7, 8, 9, 10, 11, 12, 13, 14, 15, 16, 17, 18, 19, 20, 21, 22, 23, 24], [0, 1, 2, 3, 4, 5, 6, 7, 8, 9, 10, 11, 12, 13, 14, 15, 16, 17, 18, 19, 20, 21, 22, 23, 24], [0, 1, 2, 3, 4, 5, 6, 7, 8, 9, 10, 11, 12, 13, 14, 15, 16, 17, 18, 19, 20, 21, 22, 23, 24, 25, 26], [0, 1, 2, 3, 4, 5, 6, 7, 8, 9, 10, 11, 12, 13, 14, 15, 16, 17, 18, 19, 20, 21, 22, 23, 24, 25, 26, 27], [0, 1, 2, 3, 4, 5, 6, 7, 8, 9, 10, 11, 12, 13, 14, 15, 16, 17, 18, 19, 20, 21, 22, 23, 24, 25, 26, 27, 28], [0, 1, 2, 3, 4, 5, 6, 7, 8, 9, 10, 11, 12, 13, 14, 15, 16, 17, 18, 19, 20, 21, 22, 23, 24], [0, 1, 2, 3, 4, 5, 6, 7, 8, 9, 10, 11, 12, 13, 14, 15, 16, 17, 18, 19, 20, 21, 22, 23, 24], [0, 1, 2, 3, 4, 5, 6, 7, 8, 9, 10, 11, 12, 13, 14, 15, 16, 17, 18, 19, 20, 21, 22, 23, 24, 30, 31], [0, 1, 2, 3, 4, 5, 6, 7, 8, 9, 10, 11, 12, 13, 14, 15, 16, 17, 18, 19, 20, 21, 22, 23, 24, 30, 31, 32], [0, 1, 2, 3, 4, 5, 6, 7, 8, 9, 10, 11, 12, 13, 14, 15, 16, 17, 18, 19, 20, 21, 22, 23, 24, 30, 31, 32, 33], [0, 1, 2, 3, 4, 5, 6, 7, 8, 9, 10, 11, 12, 13, 14, 15, 16, 17, 18, 19, 20, 21, 22, 23, 24, 25, 26, 27, 28, 29, 30, 31, 32, 33, 34], [0, 1, 2, 3, 4, 5, 6, 7, 8, 9, 10, 11, 12, 13, 14, 15, 16, 17, 18, 19, 20, 21, 22, 23, 24, 25, 26, 27, 28, 29, 30, 31, 32, 33, 34, 35], [0, 1, 2, 3, 4, 5, 6, 7, 8, 9, 10, 11, 12, 13, 14, 15, 16, 17, 18, 19, 20, 21, 22, 23, 24, 25, 26, 27, 28, 29, 30, 31, 32, 33, 34, 35, 36], [0, 1, 2, 3, 4, 5, 6, 7, 8, 9, 10, 11, 12, 13, 14, 15, 16, 17, 18, 19, 20, 21, 22, 23, 24, 25, 26, 27, 28, 29, 30, 31, 32, 33, 34, 35, 36, 37], [0, 1, 2, 3, 4, 5, 6, 7, 8, 9, 10, 11, 12, 13, 14, 15, 16, 17, 18, 19, 20, 21, 22, 23, 24, 25, 26, 27, 28, 29, 30, 31, 32, 33, 34, 35, 36, 37], [0, 1, 2, 3, 4, 5, 6, 7, 8, 9, 10, 11, 12, 13, 14, 15, 16, 17, 18, 19, 20, 21, 22, 23, 24, 25, 26, 27, 28, 29, 30, 31, 32, 33, 34, 35, 36, 37, 38, 39], [0, 1, 2, 3, 4, 5, 6, 7, 8, 9, 10, 11, 12, 13, 14, 15, 16, 17, 18, 19, 20, 21, 22, 23, 24, 25, 26, 27, 28, 29, 30, 31, 32, 33, 34, 35, 36, 37, 38, 39, 40], [0, 1, 2, 3, 4, 5, 6, 7, 8, 9, 10, 11, 12, 13, 14, 15, 16, 17, 18, 19, 20, 21, 22, 23, 24, 25, 26, 27, 28, 29, 30, 31, 32, 33, 34, 35, 36, 37, 38, 39, 40, 41], [0, 1, 2, 3, 4, 5, 6, 7, 8, 9, 10, 11, 12, 13, 14, 15, 16, 17, 18, 19, 20, 21, 22, 23, 24, 25, 26, 27, 28, 29, 30, 31, 32, 33, 34, 35, 36, 37, 38, 39, 40, 41, 42], [0, 1, 2, 3, 4, 5, 6, 7, 8, 9, 10, 11, 12, 13, 14, 15, 16, 17, 18, 19, 20, 21, 22, 23, 24, 25, 26, 27, 28, 29, 30, 31, 32, 33, 34, 35, 36, 37], [0, 1, 2, 3, 4, 5, 6, 7, 8, 9, 10, 11, 12, 13, 14, 15, 16, 17, 18, 19, 20, 21, 22, 23, 24, 25, 26, 27, 28, 29, 30, 31, 32, 33, 34, 35, 36, 37], [0, 1, 2, 3, 4, 5, 6, 7, 8, 9, 10, 11, 12, 13, 14, 15, 16, 17, 18, 19, 20, 21, 22, 23, 24, 25, 26, 27, 28, 29, 30, 31, 32, 33, 34, 35, 36, 37, 44, 45], [0, 1, 2, 3, 4, 5, 6, 7, 8, 9, 10, 11, 12, 13, 14, 15, 16, 17, 18, 19, 20, 21, 22, 23, 24, 25, 26, 27, 28, 29, 30, 31, 32, 33, 34, 35, 36, 37, 44, 45, 46], [0, 1, 2, 3, 4, 5, 6, 7, 8, 9, 10, 11, 12, 13, 14, 15, 16, 17, 18, 19, 20, 21, 22, 23, 24, 25, 26, 27, 28, 29, 30, 31, 32, 33, 34, 35, 36, 37, 44, 45, 46, 47], [0, 1, 2, 3, 4, 5, 6, 7, 8, 9, 10, 11, 12, 13, 14, 15, 16, 17, 18, 19, 20, 21, 22, 23, 24, 25, 26, 27, 28, 29, 30, 31, 32, 33, 34, 35, 36, 37, 44, 45, 46, 47, 48], [0, 1, 2, 3, 4, 5, 6, 7, 8, 9, 10, 11, 12, 13, 14, 15, 16, 17, 18, 19, 20, 21, 22, 23, 24, 25, 26, 27, 28, 29, 30, 31, 32, 33, 34, 35, 36, 37, 38, 39, 40, 41, 42, 43, 44, 45, 46, 47, 48, 49], [0, 1, 2, 3, 4, 5, 6, 7, 8, 9, 10, 11, 12, 13, 14, 15, 16, 17, 18, 19, 20, 21, 22, 23, 24, 25, 26, 27, 28, 29, 30, 31, 32, 33, 34, 35, 36, 37, 38, 39, 40, 41, 42, 43, 44, 45, 46, 47, 48, 49, 50]] 52 rfl rfl ?_
    refine am 0 (Sl.v a0) rfl rfl rfl rfl rfl ?_
    refine am 1 (.int .i64 i5) rfl rfl rfl rfl rfl ?_
    obtain ⟨p_12, hap_12, hlp_12, hup_12, H⟩ := H
    refine ap 2 _ rfl rfl rfl (p_indexAddr (s := a0) (ad := p_12) (size := 4) rfl Try.underlying100 Try.ti104 rfl rfl hap_12 hlp_12 hup_12) ?_
    refine ap 3 _ rfl rfl rfl (p_fieldAddr (off := 0) (ft := 9) (size := 1) rfl Try.underlying104 rfl Try.ti9 (by decide) rfl rfl) ?_
    obtain ⟨adv_13, v_13, hev_13, hcv_13, H⟩ := H
    refine ar 4 (.string v_13) rfl rfl (wo rfl) rfl Try.underlying9 rfl rfl hev_13 hcv_13 ?_
    refine am 5 (Sl.v b1) rfl rfl rfl rfl rfl ?_
    refine am 6 (.int .i64 i5) rfl rfl rfl rfl rfl ?_
    obtain ⟨p_14, hap_14, hlp_14, hup_14, H⟩ := H
    refine ap 7 _ rfl rfl rfl (p_indexAddr (s := b1) (ad := p_14) (size := 4) rfl Try.underlying100 Try.ti104 rfl rfl hap_14 hlp_14 hup_14) ?_
    refine ap 8 _ rfl rfl rfl (p_fieldAddr (off := 0) (ft := 9) (size := 1) rfl Try.underlying104 rfl Try.ti9 (by decide) rfl rfl) ?_
    obtain ⟨adv_15, v_15, hev_15, hcv_15, H⟩ := H
    refine ar 9 (.string v_15) rfl rfl (wo rfl) rfl Try.underlying9 rfl rfl hev_15 hcv_15 ?_
    refine ap 10 (.bool (!seq v_13 v_15)) rfl rfl rfl (p_sne rfl rfl rfl) ?_
    refine am 11 (.bool (!seq v_13 v_15)) rfl rfl rfl rfl rfl ?_
    refine ifB_cases H ?_ ?_
    ·clear H; intro hb9 H
     refine ak 12 rfl rfl (wn 29 rfl rfl rfl hb9) ?_
     refine ak 13 rfl rfl (wn 29 rfl rfl rfl hb9) ?_
     refine ak 14 rfl rfl (wn 29 rfl rfl rfl hb9) ?_
     refine ak 15 rfl rfl (wn 29 rfl rfl rfl hb9) ?_
     refine ak 16 rfl rfl (wn 29 rfl rfl rfl hb9) ?_
     refine ak 17 rfl rfl (wn 29 rfl rfl rfl hb9) ?_
     refine ak 18 rfl rfl (wn 29 rfl rfl rfl hb9) ?_
     refine ak 19 rfl rfl (wn 29 rfl rfl rfl hb9) ?_
     refine ak 20 rfl rfl (wn 29 rfl rfl rfl hb9) ?_
     refine ak 21 rfl rfl (wn 29 rfl rfl rfl hb9) ?_
     refine ak 22 rfl rfl (wn 29 rfl rfl rfl hb9) ?_
     refine ap 23 (.bool true) rfl rfl rfl (p_pickT rfl rfl hb9 rfl) ?_
     refine am 24 (.bool true) rfl rfl rfl rfl rfl ?_
     refine ak 25 rfl rfl (wn 42 rfl rfl rfl rfl) ?_
     refine ak 26 rfl rfl (wn 42 rfl rfl rfl rfl) ?_
     refine ak 27 rfl rfl (wn 42 rfl rfl rfl rfl) ?_
     refine ak 28 rfl rfl (wn 42 rfl rfl rfl rfl) ?_
     refine ak 29 rfl rfl (wn 42 rfl rfl rfl rfl) ?_
     refine ak 30 rfl rfl (wn 42 rfl rfl rfl rfl) ?_
     refine ak 31 rfl rfl (wn 42 rfl rfl rfl rfl) ?_
     refine ak 32 rfl rfl (wn 42 rfl rfl rfl rfl) ?_
     refine ak 33 rfl rfl (wn 42 rfl rfl rfl rfl) ?_
     refine ak 34 rfl rfl (wn 42 rfl rfl rfl rfl) ?_
     refine ak 35 rfl rfl (wn 42 rfl rfl rfl rfl) ?_
     refine ap 36 (.bool true) rfl rfl rfl (p_pickT rfl rfl rfl rfl) ?_
     refine am 37 (.bool true) rfl rfl rfl rfl rfl ?_
     refine ak 38 rfl rfl (wn 55 rfl rfl rfl rfl) ?_
     refine ak 39 rfl rfl (wn 55 rfl rfl rfl rfl) ?_
     refine ak 40 rfl rfl (wn 55 rfl rfl rfl rfl) ?_
     refine ak 41 rfl rfl (wn 55 rfl rfl rfl rfl) ?_
     refine ak 42 rfl rfl (wn 55 rfl rfl rfl rfl) ?_
     refine ak 43 rfl rfl (wn 55 rfl rfl rfl rfl) ?_
     refine ak 44 rfl rfl (wn 55 rfl rfl rfl rfl) ?_
     refine ak 45 rfl rfl (wn 55 rfl rfl rfl rfl) ?_
     refine ak 46 rfl rfl (wn 55 rfl rfl rfl rfl) ?_
     refine ak 47 rfl rfl (wn 55 rfl rfl rfl rfl) ?_
     refine ak 48 rfl rfl (wn 55 rfl rfl rfl rfl) ?_
     refine ak 49 rfl rfl (wn 55 rfl rfl rfl rfl) ?_
     refine ak 50 rfl rfl (wn 55 rfl rfl rfl rfl) ?_
     refine ap 51 (.bool true) rfl rfl rfl (p_pickT rfl rfl rfl rfl) ?_
     refine ax ?_
     refine ru 0 (Sl.v a0) rfl ?_
     refine ru 1 (Sl.v b1) rfl ?_
     refine ru 5 (.int .i64 i5) rfl ?_
     refine ru 69 (.bool true) rfl ?_
     exact J4 (a0, b1, i5, true) _ _ H
    ·clear H; intro hb9 H
     refine xa_pure (v := (Sl.v a0)) 12 (by decide +kernel) rfl rfl (wy 29 rfl rfl rfl hb9) (p_move rfl rfl) ?_
     refine xa_pure (v := (.int .i64 i5)) 13 (by decide +kernel) rfl rfl (wy 29 rfl rfl rfl hb9) (p_move rfl rfl) ?_
     obtain ⟨p_16, hap_16, hlp_16, hup_16, H⟩ := H
     refine xa_pure (v := (.pointer (some (p_16.add (i5.toNat * 4))))) 14 (by decide +kernel) rfl rfl (wy 29 rfl rfl rfl hb9) (p_indexAddr (s := a0) (ad := p_16) (size := 4) rfl Try.underlying100 Try.ti104 rfl rfl hap_16 hlp_16 hup_16) ?_
     refine xa_pure (v := (.pointer (some ((p_16.add (i5.toNat * 4)).add 1)))) 15 (by decide +kernel) rfl rfl (wy 29 rfl rfl rfl hb9) (p_fieldAddr (off := 1) (ft := 3) (size := 1) rfl Try.underlying104 rfl Try.ti3 (by decide) rfl rfl) ?_
     obtain ⟨adv_17, v_17, hev_17, hcv_17, H⟩ := H
     refine ar 16 (.int .i64 v_17) rfl rfl (wy 29 rfl rfl rfl hb9) rfl Try.underlying3 rfl rfl hev_17 hcv_17 ?_
     refine xa_pure (v := (Sl.v b1)) 17 (by decide +kernel) rfl rfl (wy 29 rfl rfl rfl hb9) (p_move rfl rfl) ?_
     refine xa_pure (v := (.int .i64 i5)) 18 (by decide +kernel) rfl rfl (wy 29 rfl rfl rfl hb9) (p_move rfl rfl) ?_
     obtain ⟨p_18, hap_18, hlp_18, hup_18, H⟩ := H
     refine xa_pure (v := (.pointer (some (p_18.add (i5.toNat * 4))))) 19 (by decide +kernel) rfl rfl (wy 29 rfl rfl rfl hb9) (p_indexAddr (s := b1) (ad := p_18) (size := 4) rfl Try.underlying100 Try.ti104 rfl rfl hap_18 hlp_18 hup_18) ?_
     refine xa_pure (v := (.pointer (some ((p_18.add (i5.toNat * 4)).add 1)))) 20 (by decide +kernel) rfl rfl (wy 29 rfl rfl rfl hb9) (p_fieldAddr (off := 1) (ft := 3) (size := 1) rfl Try.underlying104 rfl Try.ti3 (by decide) rfl rfl) ?_
     obtain ⟨adv_19, v_19, hev_19, hcv_19, H⟩ := H
     refine ar 21 (.int .i64 v_19) rfl rfl (wy 29 rfl rfl rfl hb9) rfl Try.underlying3 rfl rfl hev_19 hcv_19 ?_
     refine xa_pure (v := (.bool (!decide (v_17 = v_19)))) 22 (by decide +kernel) rfl rfl (wy 29 rfl rfl rfl hb9) (p_ne rfl rfl rfl) ?_
     refine ap 23 (.bool (!decide (v_17 = v_19))) rfl rfl rfl (p_pickF rfl rfl hb9 rfl) ?_
     refine am 24 (.bool (!decide (v_17 = v_19))) rfl rfl rfl rfl rfl ?_
     refine ifB_cases H ?_ ?_
     ·clear H; intro hb10 H
      refine ak 25 rfl rfl (wn 42 rfl rfl rfl hb10) ?_
      refine ak 26 rfl rfl (wn 42 rfl rfl rfl hb10) ?_
      refine ak 27 rfl rfl (wn 42 rfl rfl rfl hb10) ?_
      refine ak 28 rfl rfl (wn 42 rfl rfl rfl hb10) ?_
      refine ak 29 rfl rfl (wn 42 rfl rfl rfl hb10) ?_
      refine ak 30 rfl rfl (wn 42 rfl rfl rfl hb10) ?_
      refine ak 31 rfl rfl (wn 42 rfl rfl rfl hb10) ?_
      refine ak 32 rfl rfl (wn 42 rfl rfl rfl hb10) ?_
      refine ak 33 rfl rfl (wn 42 rfl rfl rfl hb10) ?_
      refine ak 34 rfl rfl (wn 42 rfl rfl rfl hb10) ?_
      refine ak 35 rfl rfl (wn 42 rfl rfl rfl hb10) ?_
      refine ap 36 (.bool true) rfl rfl rfl (p_pickT rfl rfl hb10 rfl) ?_
      refine am 37 (.bool true) rfl rfl rfl rfl rfl ?_
      refine ak 38 rfl rfl (wn 55 rfl rfl rfl rfl) ?_
      refine ak 39 rfl rfl (wn 55 rfl rfl rfl rfl) ?_
      refine ak 40 rfl rfl (wn 55 rfl rfl rfl rfl) ?_
      refine ak 41 rfl rfl (wn 55 rfl rfl rfl rfl) ?_
      refine ak 42 rfl rfl (wn 55 rfl rfl rfl rfl) ?_
      refine ak 43 rfl rfl (wn 55 rfl rfl rfl rfl) ?_
      refine ak 44 rfl rfl (wn 55 rfl rfl rfl rfl) ?_
      refine ak 45 rfl rfl (wn 55 rfl rfl rfl rfl) ?_
      refine ak 46 rfl rfl (wn 55 rfl rfl rfl rfl) ?_
      refine ak 47 rfl rfl (wn 55 rfl rfl rfl rfl) ?_
      refine ak 48 rfl rfl (wn 55 rfl rfl rfl rfl) ?_
      refine ak 49 rfl rfl (wn 55 rfl rfl rfl rfl) ?_
      refine ak 50 rfl rfl (wn 55 rfl rfl rfl rfl) ?_
      refine ap 51 (.bool true) rfl rfl rfl (p_pickT rfl rfl rfl rfl) ?_
      refine ax ?_
      refine ru 0 (Sl.v a0) rfl ?_
      refine ru 1 (Sl.v b1) rfl ?_
      refine ru 5 (.int .i64 i5) rfl ?_
      refine ru 69 (.bool true) rfl ?_
      exact J4 (a0, b1, i5, true) _ _ H
     ·clear H; intro hb10 H
      refine xa_pure (v := (Sl.v a0)) 25 (by decide +kernel) rfl rfl (wy 42 rfl rfl rfl hb10) (p_move rfl rfl) ?_
      refine xa_pure (v := (.int .i64 i5)) 26 (by decide +kernel) rfl rfl (wy 42 rfl rfl rfl hb10) (p_move rfl rfl) ?_
      obtain ⟨p_20, hap_20, hlp_20, hup_20, H⟩ := H
      refine xa_pure (v := (.pointer (some (p_20.add (i5.toNat * 4))))) 27 (by decide +kernel) rfl rfl (wy 42 rfl rfl rfl hb10) (p_indexAddr (s := a0) (ad := p_20) (size := 4) rfl Try.underlying100 Try.ti104 rfl rfl hap_20 hlp_20 hup_20) ?_
      refine xa_pure (v := (.pointer (some ((p_20.add (i5.toNat * 4)).add 2)))) 28 (by decide +kernel) rfl rfl (wy 42 rfl rfl rfl hb10) (p_fieldAddr (off := 2) (ft := 4) (size := 1) rfl Try.underlying104 rfl Try.ti4 (by decide) rfl rfl) ?_
      obtain ⟨adv_21, v_21, hev_21, hcv_21, H⟩ := H
      refine ar 29 (.bool v_21) rfl rfl (wy 42 rfl rfl rfl hb10) rfl Try.underlying4 rfl rfl hev_21 hcv_21 ?_
      refine xa_pure (v := (Sl.v b1)) 30 (by decide +kernel) rfl rfl (wy 42 rfl rfl rfl hb10) (p_move rfl rfl) ?_
      refine xa_pure (v := (.int .i64 i5)) 31 (by decide +kernel) rfl rfl (wy 42 rfl rfl rfl hb10) (p_move rfl rfl) ?_
      obtain ⟨p_22, hap_22, hlp_22, hup_22, H⟩ := H
      refine xa_pure (v := (.pointer (some (p_22.add (i5.toNat * 4))))) 32 (by decide +kernel) rfl rfl (wy 42 rfl rfl rfl hb10) (p_indexAddr (s := b1) (ad := p_22) (size := 4) rfl Try.underlying100 Try.ti104 rfl rfl hap_22 hlp_22 hup_22) ?_
      refine xa_pure (v := (.pointer (some ((p_22.add (i5.toNat * 4)).add 2)))) 33 (by decide +kernel) rfl rfl (wy 42 rfl rfl rfl hb10) (p_fieldAddr (off := 2) (ft := 4) (size := 1) rfl Try.underlying104 rfl Try.ti4 (by decide) rfl rfl) ?_
      obtain ⟨adv_23, v_23, hev_23, hcv_23, H⟩ := H
      refine ar 34 (.bool v_23) rfl rfl (wy 42 rfl rfl rfl hb10) rfl Try.underlying4 rfl rfl hev_23 hcv_23 ?_
      refine xa_pure (v := (.bool (!(v_21 == v_23)))) 35 (by decide +kernel) rfl rfl (wy 42 rfl rfl rfl hb10) (p_bne rfl Try.underlying4 rfl rfl) ?_
      refine ap 36 (.bool (!(v_21 == v_23))) rfl rfl rfl (p_pickF rfl rfl hb10 rfl) ?_
      refine am 37 (.bool (!(v_21 == v_23))) rfl rfl rfl rfl rfl ?_
      refine ifB_cases H ?_ ?_
      ·clear H; intro hb11 H
       refine ak 38 rfl rfl (wn 55 rfl rfl rfl hb11) ?_
       refine ak 39 rfl rfl (wn 55 rfl rfl rfl hb11) ?_
       refine ak 40 rfl rfl (wn 55 rfl rfl rfl hb11) ?_
       refine ak 41 rfl rfl (wn 55 rfl rfl rfl hb11) ?_
       refine ak 42 rfl rfl (wn 55 rfl rfl rfl hb11) ?_
       refine ak 43 rfl rfl (wn 55 rfl rfl rfl hb11) ?_
       refine ak 44 rfl rfl (wn 55 rfl rfl rfl hb11) ?_
       refine ak 45 rfl rfl (wn 55 rfl rfl rfl hb11) ?_
       refine ak 46 rfl rfl (wn 55 rfl rfl rfl hb11) ?_
       refine ak 47 rfl rfl (wn 55 rfl rfl rfl hb11) ?_
       refine ak 48 rfl rfl (wn 55 rfl rfl rfl hb11) ?_
       refine ak 49 rfl rfl (wn 55 rfl rfl rfl hb11) ?_
       refine ak 50 rfl rfl (wn 55 rfl rfl rfl hb11) ?_
       refine ap 51 (.bool true) rfl rfl rfl (p_pickT rfl rfl hb11 rfl) ?_
       refine ax ?_
       refine ru 0 (Sl.v a0) rfl ?_
       refine ru 1 (Sl.v b1) rfl ?_
       refine ru 5 (.int .i64 i5) rfl ?_
       refine ru 69 (.bool true) rfl ?_
       exact J4 (a0, b1, i5, true) _ _ H
      ·clear H; intro hb11 H
       refine xa_pure (v := (Sl.v a0)) 38 (by decide +kernel) rfl rfl (wy 55 rfl rfl rfl hb11) (p_move rfl rfl) ?_
       refine xa_pure (v := (.int .i64 i5)) 39 (by decide +kernel) rfl rfl (wy 55 rfl rfl rfl hb11) (p_move rfl rfl) ?_
       obtain ⟨p_24, hap_24, hlp_24, hup_24, H⟩ := H
       refine xa_pure (v := (.pointer (some (p_24.add (i5.toNat * 4))))) 40 (by decide +kernel) rfl rfl (wy 55 rfl rfl rfl hb11) (p_indexAddr (s := a0) (ad := p_24) (size := 4) rfl Try.underlying100 Try.ti104 rfl rfl hap_24 hlp_24 hup_24) ?_
       refine xa_pure (v := (.pointer (some ((p_24.add (i5.toNat * 4)).add 3)))) 41 (by decide +kernel) rfl rfl (wy 55 rfl rfl rfl hb11) (p_fieldAddr (off := 3) (ft := 102) (size := 1) rfl Try.underlying104 rfl Try.ti102 (by decide) rfl rfl) ?_
       obtain ⟨adv_25, v_25, hev_25, hcv_25, H⟩ := H
       refine ar 42 (Sl.v v_25) rfl rfl (wy 55 rfl rfl rfl hb11) rfl Try.underlying102 rfl rfl hev_25 hcv_25 ?_
       refine xa_pure (v := (.int .i64 (v_25.len : Int))) 43 (by decide +kernel) rfl rfl (wy 55 rfl rfl rfl hb11) (p_len rfl Try.underlying102 rfl) ?_
       refine xa_pure (v := (Sl.v b1)) 44 (by decide +kernel) rfl rfl (wy 55 rfl rfl rfl hb11) (p_move rfl rfl) ?_
       refine xa_pure (v := (.int .i64 i5)) 45 (by decide +kernel) rfl rfl (wy 55 rfl rfl rfl hb11) (p_move rfl rfl) ?_
       obtain ⟨p_26, hap_26, hlp_26, hup_26, H⟩ := H
       refine xa_pure (v := (.pointer (some (p_26.add (i5.toNat * 4))))) 46 (by decide +kernel) rfl rfl (wy 55 rfl rfl rfl hb11) (p_indexAddr (s := b1) (ad := p_26) (size := 4) rfl Try.underlying100 Try.ti104 rfl rfl hap_26 hlp_26 hup_26) ?_
       refine xa_pure (v := (.pointer (some ((p_26.add (i5.toNat * 4)).add 3)))) 47 (by decide +kernel) rfl rfl (wy 55 rfl rfl rfl hb11) (p_fieldAddr (off := 3) (ft := 102) (size := 1) rfl Try.underlying104 rfl Try.ti102 (by decide) rfl rfl) ?_
       obtain ⟨adv_27, v_27, hev_27, hcv_27, H⟩ := H
       refine ar 48 (Sl.v v_27) rfl rfl (wy 55 rfl rfl rfl hb11) rfl Try.underlying102 rfl rfl hev_27 hcv_27 ?_
       refine xa_pure (v := (.int .i64 (v_27.len : Int))) 49 (by decide +kernel) rfl rfl (wy 55 rfl rfl rfl hb11) (p_len rfl Try.underlying102 rfl) ?_
       refine xa_pure (v := (.bool (!decide ((v_25.len : Int) = (v_27.len : Int))))) 50 (by decide +kernel) rfl rfl (wy 55 rfl rfl rfl hb11) (p_ne rfl rfl rfl) ?_
       refine ap 51 (.bool (!decide ((v_25.len : Int) = (v_27.len : Int)))) rfl rfl rfl (p_pickF rfl rfl hb11 rfl) ?_
       refine ax ?_
       refine ru 0 (Sl.v a0) rfl ?_
       refine ru 1 (Sl.v b1) rfl ?_
       refine ru 5 (.int .i64 i5) rfl ?_
       refine ru 69 (.bool (!decide ((v_25.len : Int) = (v_27.len : Int)))) rfl ?_
       exact J4 (a0, b1, i5, (!decide ((v_25.len : Int) = (v_27.len : Int)))) _ _ H
  ·clear H; intro hb3 H
   refine r_exit rfl ?_
   refine r_seq ?_
   refine r_region ?_
   refine xs (.bool true) rfl rfl rfl rfl ?_
   refine xo_end ?_
   exact r_ret (fn := Try.f52) Try.func52 (res_1 rfl ⟨by decide, rfl⟩) H

/-! 53 sporran/model.Changes -/
def model_Changes (R : Value → World → Prop) (kind0 : Int) (w : World) : Prop :=
 IfB (decide (1 ≤ kind0)) (
  IfB (decide (kind0 ≤ 7)) (
   R (.bool (!decide (kind0 = 5))) w) (
   R (.bool false) w)) (
  R (.bool false) w)
theorem model_Changes_ok (R : Value → World → Prop) (kind0 : Int) (w : World) (H : model_Changes R kind0 w) : CallF Try.prog 53 #[(.int .i64 kind0)] w R := by
 refine calls_of_runs (fn := Try.f53) Try.func53 rfl (Nat.le_of_ble_eq_true rfl) ?_
 show Runs _ _ 13 _ _ _ _
 unfold model_Changes at H
 refine ru 0 (.int .i64 kind0) rfl ?_
 refine r_seq ?_
 refine r_region ?_
 refine xs (.bool false) rfl rfl rfl rfl ?_
 refine xo_end ?_
 refine r_seq ?_
 refine r_region ?_
 refine xm (.int .i64 kind0) rfl rfl rfl rfl ?_
 refine xp _ rfl rfl (p_ge rfl rfl rfl) ?_
 refine xm (.bool (decide (1 ≤ kind0))) rfl rfl rfl rfl ?_
 refine ifB_cases H ?_ ?_
 ·clear H; intro hb1 H
  refine xo_pure (v := (.int .i64 kind0)) rfl (wy 5 rfl rfl rfl hb1) (p_move rfl rfl) ?_
  refine xo_pure (v := (.bool (decide (kind0 ≤ 7)))) rfl (wy 5 rfl rfl rfl hb1) (p_le rfl rfl rfl) ?_
  refine xp (.bool (decide (kind0 ≤ 7))) rfl rfl (p_pickT rfl rfl hb1 rfl) ?_
  refine xm (.bool (decide (kind0 ≤ 7))) rfl rfl rfl rfl ?_
  refine ifB_cases H ?_ ?_
  ·clear H; intro hb2 H
   refine xo_pure (v := (.int .i64 kind0)) rfl (wy 9 rfl rfl rfl hb2) (p_move rfl rfl) ?_
   refine xo_pure (v := (.bool (!decide (kind0 = 5)))) rfl (wy 9 rfl rfl rfl hb2) (p_ne rfl rfl rfl) ?_
   refine xp (.bool (!decide (kind0 = 5))) rfl rfl (p_pickT rfl rfl hb2 rfl) ?_
   refine xs (.bool (!decide (kind0 = 5))) rfl rfl rfl rfl ?_
   refine xo_end ?_
   exact r_ret (fn := Try.f53) Try.func53 (res_1 rfl ⟨by decide, rfl⟩) H
  ·clear H; intro hb2 H
   refine xo_skip rfl (wn 9 rfl rfl rfl hb2) ?_
   refine xo_skip rfl (wn 9 rfl rfl rfl hb2) ?_
   refine xp (.bool false) rfl rfl (p_pickF rfl rfl hb2 rfl) ?_
   refine xs (.bool false) rfl rfl rfl rfl ?_
   refine xo_end ?_
   exact r_ret (fn := Try.f53) Try.func53 (res_1 rfl ⟨by decide, rfl⟩) H
 ·clear H; intro hb1 H
  refine xo_skip rfl (wn 5 rfl rfl rfl hb1) ?_
  refine xo_skip rfl (wn 5 rfl rfl rfl hb1) ?_
  refine xp (.bool false) rfl rfl (p_pickF rfl rfl hb1 rfl) ?_
  refine xm (.bool false) rfl rfl rfl rfl ?_
  refine xo_skip rfl (wn 9 rfl rfl rfl rfl) ?_
  refine xo_skip rfl (wn 9 rfl rfl rfl rfl) ?_
  refine xp (.bool false) rfl rfl (p_pickF rfl rfl rfl rfl) ?_
  refine xs (.bool false) rfl rfl rfl rfl ?_
  refine xo_end ?_
  exact r_ret (fn := Try.f53) Try.func53 (res_1 rfl ⟨by decide, rfl⟩) H

/-! 54 sporran/sporranref15.SameAnswer -/
def sporranref15_SameAnswer_b1 (R : Value → World → Prop) (ag3 : (Option Addr × Option Addr × Int) → World → Prop) (a2 : Option Addr) (b3 : Option Addr) (i5 : Int) (w : World) : Prop :=
 NotNil a2 fun p_3 =>
 Ld Sl.v (some (p_3.add 50)) w fun v_4 =>
 IfB (decide (i5 < (v_4.len : Int))) (
  NotNil a2 fun p_5 =>
  Ld Sl.v (some (p_5.add 50)) (World.drew w) fun v_6 =>
  Ix v_6 i5 fun p_7 =>
  Ld Value.string (some (p_7.add (i5.toNat * 1))) (World.drew w) fun v_8 =>
  NotNil b3 fun p_9 =>
  Ld Sl.v (some (p_9.add 50)) (World.drew w) fun v_10 =>
  Ix v_10 i5 fun p_11 =>
  Ld Value.string (some (p_11.add (i5.toNat * 1))) (World.drew w) fun v_12 =>
  IfB (!seq v_8 v_12) (
   R (.bool false) (World.drew w)) (
   ag3 (a2, b3, (IntKind.i64.wrap (i5 + 1))) (World.drew w))) (
  R (.bool true) w)
def sporranref15_SameAnswer_k0 (R : Value → World → Prop) (a2 : Option Addr) (b3 : Option Addr) (t33 : Bool) (w : World) : Prop :=
 IfB t33 (
  R (.bool false) w) (
  Lp (fun ag (s : Option Addr × Option Addr × Int) w => sporranref15_SameAnswer_b1 R ag s.1 s.2.1 s.2.2 w) (a2, b3, 0) w)
def sporranref15_SameAnswer (R : Value → World → Prop) (a0 : Array Value) (b1 : Array Value) (w : World) : Prop :=
 New a0 73 w fun a_1 w_1 =>
 New b1 73 w_1 fun a_2 w_2 =>
 Ld (Value.int .i64) (some (a_1.add 0)) w_2 fun v_13 =>
 Ld (Value.int .i64) (some (a_2.add 0)) w_2 fun v_14 =>
 IfB (!decide (v_13 = v_14)) (
  sporranref15_SameAnswer_k0 R (some a_1) (some a_2) true w_2) (
  Ld Value.bool (some (a_1.add 1)) w_2 fun v_15 =>
  Ld Value.bool (some (a_2.add 1)) w_2 fun v_16 =>
  IfB (!(v_15 == v_16)) (
   sporranref15_SameAnswer_k0 R (some a_1) (some a_2) true w_2) (
   LdN 48 (some (a_1.add 2)) w_2 fun v_17 =>
   LdN 48 (some (a_2.add 2)) w_2 fun v_18 =>
   AggEq Try.prog 65 v_17 v_18 fun b_19 =>
   IfB (!b_19) (
    sporranref15_SameAnswer_k0 R (some a_1) (some a_2) true w_2) (
    Ld Sl.v (some (a_1.add 50)) w_2 fun v_20 =>
    Ld Sl.v (some (a_2.add 50)) w_2 fun v_21 =>
    sporranref15_SameAnswer_k0 R (some a_1) (some a_2) (!decide ((v_20.len : Int) = (v_21.len : Int))) w_2)))
theorem sporranref15_SameAnswer_ok (R : Value → World → Prop) (a0 : Array Value) (b1 : Array Value) (w : World) (H : sporranref15_SameAnswer R a0 b1 w) : CallF Try.prog 54 #[(.agg a0), (.agg b1)] w R := by
 refine calls_of_runs (fn := Try.f54) Try.func54 rfl (Nat.le_of_ble_eq_true rfl) ?_
 show Runs _ _ 52 _ _ _ _
 unfold sporranref15_SameAnswer at H
 refine ru 0 (.agg a0) rfl ?_
 refine ru 1 (.agg b1) rfl ?_
 refine r_seq ?_
 refine r_region ?_
 refine xo_eff rfl (wo rfl) (e_box (v := (.agg a0)) rfl rfl H) ?_
 rintro _ w_1 ⟨a_1, rfl, H⟩
 refine xo_eff rfl (wo rfl) (e_box (v := (.agg b1)) rfl rfl H) ?_
 rintro _ w_2 ⟨a_2, rfl, H⟩
 refine xs (.bool false) rfl rfl rfl rfl ?_
 refine xo_end ?_
 refine r_seq ?_
 refine r_seq ?_
 refine r_topJ (fun (s : Option Addr × Option Addr × Bool) σ => upd 33 (.bool s.2.2) (upd 3 (.pointer s.2.1) (upd 2 (.pointer s.1) (σ)))) (fun (s : Option Addr × Option Addr × Bool) w => sporranref15_SameAnswer_k0 R s.1 s.2.1 s.2.2 w) ?_ ?_
 ·rintro ⟨a2, b3, t33⟩ σ w H
  replace H : sporranref15_SameAnswer_k0 R a2 b3 t33 w := H
  show Runs _ _ _ _ _ (upd 33 (.bool t33) (upd 3 (.pointer b3) (upd 2 (.pointer a2) (σ)))) _
  unfold sporranref15_SameAnswer_k0 at H
  refine r_condB (b := t33) rfl H ?_ ?_
  ·clear H; intro hb2 H
   refine r_seq ?_
   refine r_region ?_
   refine xs (.bool false) rfl rfl rfl rfl ?_
   refine xo_end ?_
   exact r_ret (fn := Try.f54) Try.func54 (res_1 rfl ⟨by decide, rfl⟩) H
  ·clear H; intro hb2 H
   refine r_skip ?_
   refine r_seq ?_
   refine r_seq ?_
   refine r_region ?_
   refine xs (.int .i64 0) rfl rfl rfl rfl ?_
   refine xo_end ?_
   refine r_block ?_
   refine ru 2 (.pointer a2) rfl ?_
   refine ru 3 (.pointer b3) rfl ?_
   refine ru 5 (.int .i64 0) rfl ?_
   refine r_loopJ (fun (s : Option Addr × Option Addr × Int) σ => upd 5 (.int .i64 s.2.2) (upd 3 (.pointer s.2.1) (upd 2 (.pointer s.1) (σ)))) (s := (a2, b3, 0)) H ?_
   clear H
   rintro ag3 ⟨a2, b3, i5⟩ σ w H hag3
   replace H : sporranref15_SameAnswer_b1 R ag3 a2 b3 i5 w := H
   show Runs _ _ _ _ _ (upd 5 (.int .i64 i5) (upd 3 (.pointer b3) (upd 2 (.pointer a2) (σ)))) _
   unfold sporranref15_SameAnswer_b1 at H
   refine r_seq ?_
   refine r_seq ?_
   refine r_region ?_
   refine xm (.int .i64 i5) rfl rfl rfl rfl ?_
   obtain ⟨p_3, hpp_3, H⟩ := H
   refine xp _ rfl rfl (p_fieldAddr (off := 50) (ft := 71) (size := 1) rfl Try.underlying73 rfl Try.ti71 (by decide) rfl hpp_3) ?_
   obtain ⟨adv_4, v_4, hev_4, hcv_4, H⟩ := H
   refine xr (Sl.v v_4) rfl (wo rfl) rfl Try.underlying71 rfl rfl hev_4 hcv_4 ?_
   refine xp (.int .i64 (v_4.len : Int)) rfl rfl (p_len rfl Try.underlying71 rfl) ?_
   refine xp _ rfl rfl (p_lt rfl rfl rfl) ?_
   refine xo_end ?_
   refine r_condB (b := (decide (i5 < (v_4.len : Int)))) rfl H ?_ ?_
   ·clear H; intro hb4 H
    refine r_skip ?_
    refine r_seq ?_
    refine r_block ?_
    refine r_seq ?_
    refine r_draw #[[], [0], [], [0, 1, 2], [0, 1, 2, 3], [], [5], [], [5, 6, 7], [5, 6, 7, 8], [0, 1, 2, 3, 4, 5, 6, 7, 8, 9]] 11 rfl rfl ?_
    obtain ⟨p_5, hpp_5, H⟩ := H
    refine ap 0 _ rfl rfl rfl (p_fieldAddr (off := 50) (ft := 71) (size := 1) rfl Try.underlying73 rfl Try.ti71 (by decide) rfl hpp_5) ?_
    obtain ⟨adv_6, v_6, hev_6, hcv_6, H⟩ := H
    refine ar 1 (Sl.v v_6) rfl rfl (wo rfl) rfl Try.underlying71 rfl rfl hev_6 hcv_6 ?_
    refine am 2 (.int .i64 i5) rfl rfl rfl rfl rfl ?_
    obtain ⟨p_7, hap_7, hlp_7, hup_7, H⟩ := H
    refine ap 3 _ rfl rfl rfl (p_indexAddr (s := v_6) (ad := p_7) (size := 1) rfl Try.underlying71 Try.ti9 rfl rfl hap_7 hlp_7 hup_7) ?_
    obtain ⟨adv_8, v_8, hev_8, hcv_8, H⟩ := H
    refine ar 4 (.string v_8) rfl rfl (wo rfl) rfl Try.underlying9 rfl rfl hev_8 hcv_8 ?_
    obtain ⟨p_9, hpp_9, H⟩ := H
    refine ap 5 _ rfl rfl rfl (p_fieldAddr (off := 50) (ft := 71) (size := 1) rfl Try.underlying73 rfl Try.ti71 (by decide) rfl hpp_9) ?_
    obtain ⟨adv_10, v_10, hev_10, hcv_10, H⟩ := H
    refine ar 6 (Sl.v v_10) rfl rfl (wo rfl) rfl Try.underlying71 rfl rfl hev_10 hcv_10 ?_
    refine am 7 (.int .i64 i5) rfl rfl rfl rfl rfl ?_
    obtain ⟨p_11, hap_11, hlp_11, hup_11, H⟩ := H
    refine ap 8 _ rfl rfl rfl (p_indexAddr (s := v_10) (ad := p_11) (size := 1) rfl Try.underlying71 Try.ti9 rfl rfl hap_11 hlp_11 hup_11) ?_
    obtain ⟨adv_12, v_12, hev_12, hcv_12, H⟩ := H
    refine ar 9 (.string v_12) rfl rfl (wo rfl) rfl Try.underlying9 rfl rfl hev_12 hcv_12 ?_
    refine ap 10 (.bool (!seq v_8 v_12)) rfl rfl rfl (p_sne rfl rfl rfl) ?_
    refine ax ?_
    refine r_condB (b := (!seq v_8 v_12)) rfl H ?_ ?_
    ·clear H; intro hb5 H
     refine r_seq ?_
     refine r_region ?_
     refine xs (.bool false) rfl rfl rfl rfl ?_
     refine xo_end ?_
     exact r_ret (fn := Try.f54) Try.func54 (res_1 rfl ⟨by decide, rfl⟩) H
    ·clear H; intro hb5 H
     refine r_skip ?_
     refine r_inBlock ?_
     refine r_region ?_
     refine xm (.int .i64 i5) rfl rfl rfl rfl ?_
     refine xp _ rfl rfl (p_add rfl rfl rfl) ?_
     refine xs (.int .i64 (IntKind.i64.wrap (i5 + 1))) rfl rfl rfl rfl ?_
     refine xo_end ?_
     refine ru 2 (.pointer a2) rfl ?_
     refine ru 3 (.pointer b3) rfl ?_
     refine ru 5 (.int .i64 (IntKind.i64.wrap (i5 + 1))) rfl ?_
     exact hag3 (a2, b3, (IntKind.i64.wrap (i5 + 1))) _ _ H
   ·clear H; intro hb4 H
    refine r_exit rfl ?_
    refine r_seq ?_
    refine r_region ?_
    refine xs (.bool true) rfl rfl rfl rfl ?_
    refine xo_end ?_
    exact r_ret (fn := Try.f54) Try.func54 (res_1 rfl ⟨by decide, rfl⟩) H
 ·intro J1
  refine r_region ?_
  refine xp _ rfl rfl (p_fieldAddr (off := 0) (ft := 31) (size := 1) rfl Try.underlying73 rfl Try.ti31 (by decide) rfl rfl) ?_
  obtain ⟨adv_13, v_13, hev_13, hcv_13, H⟩ := H
  refine xr (.int .i64 v_13) rfl (wo rfl) rfl Try.underlying31 rfl rfl hev_13 hcv_13 ?_
  refine xp _ rfl rfl (p_fieldAddr (off := 0) (ft := 31) (size := 1) rfl Try.underlying73 rfl Try.ti31 (by decide) rfl rfl) ?_
  obtain ⟨adv_14, v_14, hev_14, hcv_14, H⟩ := H
  refine xr (.int .i64 v_14) rfl (wo rfl) rfl Try.underlying31 rfl rfl hev_14 hcv_14 ?_
  refine xp _ rfl rfl (p_ne rfl rfl rfl) ?_
  refine xm (.bool (!decide (v_13 = v_14))) rfl rfl rfl rfl ?_
  refine ifB_cases H ?_ ?_
  ·clear H; intro hb6 H
   refine xo_skip rfl (wn 11 rfl rfl rfl hb6) ?_
   refine xo_skip rfl (wn 11 rfl rfl rfl hb6) ?_
   refine xo_skip rfl (wn 11 rfl rfl rfl hb6) ?_
   refine xo_skip rfl (wn 11 rfl rfl rfl hb6) ?_
   refine xo_skip rfl (wn 11 rfl rfl rfl hb6) ?_
   refine xp (.bool true) rfl rfl (p_pickT rfl rfl hb6 rfl) ?_
   refine xm (.bool true) rfl rfl rfl rfl ?_
   refine xo_skip rfl (wn 18 rfl rfl rfl rfl) ?_
   refine xo_skip rfl (wn 18 rfl rfl rfl rfl) ?_
   refine xo_skip rfl (wn 18 rfl rfl rfl rfl) ?_
   refine xo_skip rfl (wn 18 rfl rfl rfl rfl) ?_
   refine xo_skip rfl (wn 18 rfl rfl rfl rfl) ?_
   refine xp (.bool true) rfl rfl (p_pickT rfl rfl rfl rfl) ?_
   refine xm (.bool true) rfl rfl rfl rfl ?_
   refine xo_skip rfl (wn 25 rfl rfl rfl rfl) ?_
   refine xo_skip rfl (wn 25 rfl rfl rfl rfl) ?_
   refine xo_skip rfl (wn 25 rfl rfl rfl rfl) ?_
   refine xo_skip rfl (wn 25 rfl rfl rfl rfl) ?_
   refine xo_skip rfl (wn 25 rfl rfl rfl rfl) ?_
   refine xo_skip rfl (wn 25 rfl rfl rfl rfl) ?_
   refine xo_skip rfl (wn 25 rfl rfl rfl rfl) ?_
   refine xp (.bool true) rfl rfl (p_pickT rfl rfl rfl rfl) ?_
   refine xo_end ?_
   refine ru 2 (.pointer (some a_1)) rfl ?_
   refine ru 3 (.pointer (some a_2)) rfl ?_
   refine ru 33 (.bool true) rfl ?_
   exact J1 ((some a_1), (some a_2), true) _ _ H
  ·clear H; intro hb6 H
   refine xo_pure (v := (.pointer (some (a_1.add 1)))) rfl (wy 11 rfl rfl rfl hb6) (p_fieldAddr (off := 1) (ft := 4) (size := 1) rfl Try.underlying73 rfl Try.ti4 (by decide) rfl rfl) ?_
   obtain ⟨adv_15, v_15, hev_15, hcv_15, H⟩ := H
   refine xr (.bool v_15) rfl (wy 11 rfl rfl rfl hb6) rfl Try.underlying4 rfl rfl hev_15 hcv_15 ?_
   refine xo_pure (v := (.pointer (some (a_2.add 1)))) rfl (wy 11 rfl rfl rfl hb6) (p_fieldAddr (off := 1) (ft := 4) (size := 1) rfl Try.underlying73 rfl Try.ti4 (by decide) rfl rfl) ?_
   obtain ⟨adv_16, v_16, hev_16, hcv_16, H⟩ := H
   refine xr (.bool v_16) rfl (wy 11 rfl rfl rfl hb6) rfl Try.underlying4 rfl rfl hev_16 hcv_16 ?_
   refine xo_pure (v := (.bool (!(v_15 == v_16)))) rfl (wy 11 rfl rfl rfl hb6) (p_bne rfl Try.underlying4 rfl rfl) ?_
   refine xp (.bool (!(v_15 == v_16))) rfl rfl (p_pickF rfl rfl hb6 rfl) ?_
   refine xm (.bool (!(v_15 == v_16))) rfl rfl rfl rfl ?_
   refine ifB_cases H ?_ ?_
   ·clear H; intro hb7 H
    refine xo_skip rfl (wn 18 rfl rfl rfl hb7) ?_
    refine xo_skip rfl (wn 18 rfl rfl rfl hb7) ?_
    refine xo_skip rfl (wn 18 rfl rfl rfl hb7) ?_
    refine xo_skip rfl (wn 18 rfl rfl rfl hb7) ?_
    refine xo_skip rfl (wn 18 rfl rfl rfl hb7) ?_
    refine xp (.bool true) rfl rfl (p_pickT rfl rfl hb7 rfl) ?_
    refine xm (.bool true) rfl rfl rfl rfl ?_
    refine xo_skip rfl (wn 25 rfl rfl rfl rfl) ?_
    refine xo_skip rfl (wn 25 rfl rfl rfl rfl) ?_
    refine xo_skip rfl (wn 25 rfl rfl rfl rfl) ?_
    refine xo_skip rfl (wn 25 rfl rfl rfl rfl) ?_
    refine xo_skip rfl (wn 25 rfl rfl rfl rfl) ?_
    refine xo_skip rfl (wn 25 rfl rfl rfl rfl) ?_
    refine xo_skip rfl (wn 25 rfl rfl rfl rfl) ?_
    refine xp (.bool true) rfl rfl (p_pickT rfl rfl rfl rfl) ?_
    refine xo_end ?_
    refine ru 2 (.pointer (some a_1)) rfl ?_
    refine ru 3 (.pointer (some a_2)) rfl ?_
    refine ru 33 (.bool true) rfl ?_
    exact J1 ((some a_1), (some a_2), true) _ _ H
   ·clear H; intro hb7 H
    refine xo_pure (v := (.pointer (some (a_1.add 2)))) rfl (wy 18 rfl rfl rfl hb7) (p_fieldAddr (off := 2) (ft := 65) (size := 48) rfl Try.underlying73 rfl Try.ti65 (by decide) rfl rfl) ?_
    obtain ⟨adv_17, v_17, hev_17, hnv_17, hcv_17, H⟩ := H
    refine xo_read (v := (.agg v_17)) rfl (wy 18 rfl rfl rfl hb7) (rd_loadN (ad := adv_17) rfl Try.underlying65 rfl Try.ti65 (by show Value.pointer _ = _; rw [hev_17]) hnv_17 hcv_17) ?_
    refine xo_pure (v := (.pointer (some (a_2.add 2)))) rfl (wy 18 rfl rfl rfl hb7) (p_fieldAddr (off := 2) (ft := 65) (size := 48) rfl Try.underlying73 rfl Try.ti65 (by decide) rfl rfl) ?_
    obtain ⟨adv_18, v_18, hev_18, hnv_18, hcv_18, H⟩ := H
    refine xo_read (v := (.agg v_18)) rfl (wy 18 rfl rfl rfl hb7) (rd_loadN (ad := adv_18) rfl Try.underlying65 rfl Try.ti65 (by show Value.pointer _ = _; rw [hev_18]) hnv_18 hcv_18) ?_
    obtain ⟨b_19, hqb_19, H⟩ := H
    refine xo_pure (v := (.bool (!b_19))) rfl (wy 18 rfl rfl rfl hb7) (p_aggNe rfl hqb_19 rfl rfl) ?_
    refine xp (.bool (!b_19)) rfl rfl (p_pickF rfl rfl hb7 rfl) ?_
    refine xm (.bool (!b_19)) rfl rfl rfl rfl ?_
    refine ifB_cases H ?_ ?_
    ·clear H; intro hb8 H
     refine xo_skip rfl (wn 25 rfl rfl rfl hb8) ?_
     refine xo_skip rfl (wn 25 rfl rfl rfl hb8) ?_
     refine xo_skip rfl (wn 25 rfl rfl rfl hb8) ?_
     refine xo_skip rfl (wn 25 rfl rfl rfl hb8) ?_
     refine xo_skip rfl (wn 25 rfl rfl rfl hb8) ?_
     refine xo_skip rfl (wn 25 rfl rfl rfl hb8) ?_
     refine xo_skip rfl (wn 25 rfl rfl rfl hb8) ?_
     refine xp (.bool true) rfl rfl (p_pickT rfl rfl hb8 rfl) ?_
     refine xo_end ?_
     refine ru 2 (.pointer (some a_1)) rfl ?_
     refine ru 3 (.pointer (some a_2)) rfl ?_
     refine ru 33 (.bool true) rfl ?_
     exact J1 ((some a_1), (some a_2), true) _ _ H
    ·clear H; intro hb8 H
     refine xo_pure (v := (.pointer (some (a_1.add 50)))) rfl (wy 25 rfl rfl rfl hb8) (p_fieldAddr (off := 50) (ft := 71) (size := 1) rfl Try.underlying73 rfl Try.ti71 (by decide) rfl rfl) ?_
     obtain ⟨adv_20, v_20, hev_20, hcv_20, H⟩ := H
     refine xr (Sl.v v_20) rfl (wy 25 rfl rfl rfl hb8) rfl Try.underlying71 rfl rfl hev_20 hcv_20 ?_
     refine xo_pure (v := (.int .i64 (v_20.len : Int))) rfl (wy 25 rfl rfl rfl hb8) (p_len rfl Try.underlying71 rfl) ?_
     refine xo_pure (v := (.pointer (some (a_2.add 50)))) rfl (wy 25 rfl rfl rfl hb8) (p_fieldAddr (off := 50) (ft := 71) (size := 1) rfl Try.underlying73 rfl Try.ti71 (by decide) rfl rfl) ?_
     obtain ⟨adv_21, v_21, hev_21, hcv_21, H⟩ := H
     refine xr (Sl.v v_21) rfl (wy 25 rfl rfl rfl hb8) rfl Try.underlying71 rfl rfl hev_21 hcv_21 ?_
     refine xo_pure (v := (.int .i64 (v_21.len : Int))) rfl (wy 25 rfl rfl rfl hb8) (p_len rfl Try.underlying71 rfl) ?_
     refine xo_pure (v := (.bool (!decide ((v_20.len : Int) = (v_21.len : Int))))) rfl (wy 25 rfl rfl rfl hb8) (p_ne rfl rfl rfl) ?_
     refine xp (.bool (!decide ((v_20.len : Int) = (v_21.len : Int)))) rfl rfl (p_pickF rfl rfl hb8 rfl) ?_
     refine xo_end ?_
     refine ru 2 (.pointer (some a_1)) rfl ?_
     refine ru 3 (.pointer (some a_2)) rfl ?_
     refine ru 33 (.bool (!decide ((v_20.len : Int) = (v_21.len : Int)))) rfl ?_
     exact J1 ((some a_1), (some a_2), (!decide ((v_20.len : Int) = (v_21.len : Int)))) _ _ H

/-! 62 sporran/model.Event -/
def model_Event_k2 (R : Value → World → Prop) (ag1 : (Option Addr × Sl × Array Value × Int) → World → Prop) (out3 : Sl) (w : World) : Prop :=
 R (Sl.v out3) w
def model_Event_k1 (R : Value → World → Prop) (ag1 : (Option Addr × Sl × Array Value × Int) → World → Prop) (o1 : Option Addr) (out3 : Sl) (w : World) : Prop :=
 NotNil o1 fun p_10 =>
 Ld (Value.int .i64) (some (p_10.add 0)) w fun v_11 =>
 IfB (decide (v_11 = 3)) (
  NotNil o1 fun p_12 =>
  Cut ⟨some (p_12.add 5), 48, 48⟩ 1 none none none fun s_13 =>
  Ef Try.prog (Builtin.append_ #[39, 39] 39 #[(Sl.v out3), (Sl.v s_13)]) Sl.v w fun v_14 w_3 =>
  model_Event_k2 R ag1 v_14 w_3) (
  model_Event_k2 R ag1 out3 w)
def model_Event_b0 (R : Value → World → Prop) (ag1 : (Option Addr × Sl × Array Value × Int) → World → Prop) (o1 : Option Addr) (out3 : Sl) (t12 : Array Value) (t13 : Int) (w : World) : Prop :=
 IfB (decide (t13 < 3)) (
  IxA 3 t13 (
  At (Value.int .i64) t12 t13.toNat fun f_7 =>
  CallF Try.prog 125 #[(Sl.v out3), (.int .u64 (IntKind.u64.wrap f_7))] w fun u_8 w_2 => As Sl.v u_8 fun v_9 =>
  ag1 (o1, v_9, t12, (IntKind.i64.wrap (t13 + 1))) w_2)) (
  NotNil o1 fun p_15 =>
  LdH Value.string (some (p_15.add 1)) (World.drew w) fun adv_16 v_16 =>
  NotNil o1 fun p_17 =>
  LdH Value.string (some (p_17.add 2)) (World.drew w) fun adv_18 v_18 =>
  (
   Ef Try.prog (convert 9 39 (.string v_16)) Sl.v (World.drew w) fun v_19 w_5 =>
   ((w_5).cell? adv_18 = some (.string v_18)) ∧
   (
    CallF Try.prog 126 #[(Sl.v out3), (Sl.v v_19)] w_5 fun u_20 w_6 => As Sl.v u_20 fun v_21 =>
    ((w_6).cell? adv_18 = some (.string v_18)) ∧
    Ef Try.prog (convert 9 39 (.string v_18)) Sl.v w_6 fun v_22 w_7 =>
    CallF Try.prog 126 #[(Sl.v v_21), (Sl.v v_22)] w_7 fun u_23 w_8 => As Sl.v u_23 fun v_24 =>
    model_Event_k1 R ag1 o1 v_24 w_8) ∧ (
    Ef Try.prog (convert 9 39 (.string v_18)) Sl.v w_5 fun v_25 w_9 =>
    CallF Try.prog 126 #[(Sl.v out3), (Sl.v v_19)] w_9 fun u_26 w_10 => As Sl.v u_26 fun v_27 =>
    CallF Try.prog 126 #[(Sl.v v_27), (Sl.v v_25)] w_10 fun u_28 w_11 => As Sl.v u_28 fun v_29 =>
    model_Event_k1 R ag1 o1 v_29 w_11)) ∧ (
   Ef Try.prog (convert 9 39 (.string v_18)) Sl.v (World.drew w) fun v_30 w_12 =>
   ((w_12).cell? adv_16 = some (.string v_16)) ∧
   Ef Try.prog (convert 9 39 (.string v_16)) Sl.v w_12 fun v_31 w_13 =>
   CallF Try.prog 126 #[(Sl.v out3), (Sl.v v_31)] w_13 fun u_32 w_14 => As Sl.v u_32 fun v_33 =>
   CallF Try.prog 126 #[(Sl.v v_33), (Sl.v v_30)] w_14 fun u_34 w_15 => As Sl.v u_34 fun v_35 =>
   model_Event_k1 R ag1 o1 v_35 w_15))
def model_Event (R : Value → World → Prop) (o0 : Array Value) (w : World) : Prop :=
 New o0 67 w fun a_1 w_1 =>
 Ld (Value.int .i64) (some (a_1.add 0)) w_1 fun v_2 =>
 Ld (Value.int .i64) (some (a_1.add 3)) w_1 fun v_3 =>
 Ld (Value.int .i64) (some (a_1.add 4)) w_1 fun v_4 =>
 BuiltA 1 #[(.int .i64 0), (.int .i64 0), (.int .i64 0)] [(0, (.int .i64 v_2)), (1, (.int .i64 v_3)), (2, (.int .i64 v_4))] fun c_5 =>
 Lp (fun ag (s : Option Addr × Sl × Array Value × Int) w => model_Event_b0 R ag s.1 s.2.1 s.2.2.1 s.2.2.2 w) ((some a_1), Sl.nil, c_5, 0) w_1
theorem model_Event_ok (R : Value → World → Prop) (o0 : Array Value) (w : World) (H : model_Event R o0 w) : CallF Try.prog 62 #[(.agg o0)] w R := by
 refine calls_of_runs (fn := Try.f62) Try.func62 rfl (Nat.le_of_ble_eq_true rfl) ?_
 show Runs _ _ 38 _ _ _ _
 unfold model_Event at H
 refine ru 0 (.agg o0) rfl ?_
 refine r_seq ?_
 refine r_region ?_
 refine xo_eff rfl (wo rfl) (e_box (v := (.agg o0)) rfl rfl H) ?_
 rintro _ w_1 ⟨a_1, rfl, H⟩
 refine xs (Sl.v Sl.nil) rfl rfl rfl rfl ?_
 refine xo_end ?_
 refine r_seq ?_
 refine r_region ?_
 refine xs (Sl.v Sl.nil) rfl rfl rfl rfl ?_
 refine xo_end ?_
 refine r_seq ?_
 refine r_seq ?_
 refine r_region ?_
 refine xp _ rfl rfl (p_fieldAddr (off := 0) (ft := 3) (size := 1) rfl Try.underlying67 rfl Try.ti3 (by decide) rfl rfl) ?_
 obtain ⟨adv_2, v_2, hev_2, hcv_2, H⟩ := H
 refine xr (.int .i64 v_2) rfl (wo rfl) rfl Try.underlying3 rfl rfl hev_2 hcv_2 ?_
 refine xp _ rfl rfl (p_fieldAddr (off := 3) (ft := 3) (size := 1) rfl Try.underlying67 rfl Try.ti3 (by decide) rfl rfl) ?_
 obtain ⟨adv_3, v_3, hev_3, hcv_3, H⟩ := H
 refine xr (.int .i64 v_3) rfl (wo rfl) rfl Try.underlying3 rfl rfl hev_3 hcv_3 ?_
 refine xp _ rfl rfl (p_fieldAddr (off := 4) (ft := 3) (size := 1) rfl Try.underlying67 rfl Try.ti3 (by decide) rfl rfl) ?_
 obtain ⟨adv_4, v_4, hev_4, hcv_4, H⟩ := H
 refine xr (.int .i64 v_4) rfl (wo rfl) rfl Try.underlying3 rfl rfl hev_4 hcv_4 ?_
 obtain ⟨c_5, hflc_5, H⟩ := H
 refine xp (.agg c_5) rfl rfl (p_buildA (size := 1) rfl Try.underlying227 Try.ti227 Try.ti3 hflc_5 rfl) ?_
 refine xm (.int .i64 0) rfl rfl rfl rfl ?_
 refine xo_end ?_
 refine r_block ?_
 refine ru 1 (.pointer (some a_1)) rfl ?_
 refine ru 3 (Sl.v Sl.nil) rfl ?_
 refine ru 12 (.agg c_5) rfl ?_
 refine ru 13 (.int .i64 0) rfl ?_
 refine r_loopJ (fun (s : Option Addr × Sl × Array Value × Int) σ => upd 13 (.int .i64 s.2.2.2) (upd 12 (.agg s.2.2.1) (upd 3 (Sl.v s.2.1) (upd 1 (.pointer s.1) (σ))))) (s := ((some a_1), Sl.nil, c_5, 0)) H ?_
 clear H
 rintro ag1 ⟨o1, out3, t12, t13⟩ σ w H hag1
 replace H : model_Event_b0 R ag1 o1 out3 t12 t13 w := H
 show Runs _ _ _ _ _ (upd 13 (.int .i64 t13) (upd 12 (.agg t12) (upd 3 (Sl.v out3) (upd 1 (.pointer o1) (σ))))) _
 unfold model_Event_b0 at H
 refine r_seq ?_
 refine r_region ?_
 refine xp _ rfl rfl (p_lt rfl rfl rfl) ?_
 refine xo_end ?_
 refine r_seq ?_
 refine r_condB (b := (decide (t13 < 3))) rfl H ?_ ?_
 ·clear H; intro hb2 H
  refine r_skip ?_
  refine r_seq ?_
  refine r_block ?_
  refine r_seq ?_
  refine r_region ?_
  obtain ⟨hlq_6, huq_6, f_7, hff_7, H⟩ := H
  refine xp (.int .i64 f_7) rfl rfl (p_indexA1 rfl Try.underlying227 Try.ti3 Try.underlying3 rfl rfl rfl hlq_6 huq_6 hff_7) ?_
  refine xs (.int .i64 f_7) rfl rfl rfl rfl ?_
  refine xo_end ?_
  refine r_region ?_
  refine xm (Sl.v out3) rfl rfl rfl rfl ?_
  refine xm (.int .i64 f_7) rfl rfl rfl rfl ?_
  refine xp (.int .u64 (IntKind.u64.wrap f_7)) rfl rfl (p_conv rfl Try.underlying3 Try.underlying22 rfl) ?_
  refine xo_eff rfl (wo rfl) (e_call (fn := Try.f125) H rfl rfl Try.func125 rfl rfl rfl) ?_
  rintro _ w_2 ⟨v_9, rfl, H⟩
  refine xs (Sl.v v_9) rfl rfl rfl rfl ?_
  refine xo_end ?_
  refine r_inBlock ?_
  refine r_region ?_
  refine xp _ rfl rfl (p_add rfl rfl rfl) ?_
  refine xm (.int .i64 (IntKind.i64.wrap (t13 + 1))) rfl rfl rfl rfl ?_
  refine xo_end ?_
  refine ru 1 (.pointer o1) rfl ?_
  refine ru 3 (Sl.v v_9) rfl ?_
  refine ru 12 (.agg t12) rfl ?_
  refine ru 13 (.int .i64 (IntKind.i64.wrap (t13 + 1))) rfl ?_
  exact hag1 (o1, v_9, t12, (IntKind.i64.wrap (t13 + 1))) _ _ H
 ·clear H; intro hb2 H
  refine r_exit rfl ?_
  refine r_seq ?_
  refine r_topJ (fun (s : Option Addr × Sl) σ => upd 3 (Sl.v s.2) (upd 1 (.pointer s.1) (σ))) (fun (s : Option Addr × Sl) w => model_Event_k1 R ag1 s.1 s.2 w) ?_ ?_
  ·rintro ⟨o1, out3⟩ σ w H
   replace H : model_Event_k1 R ag1 o1 out3 w := H
   show Runs _ _ _ _ _ (upd 3 (Sl.v out3) (upd 1 (.pointer o1) (σ))) _
   unfold model_Event_k1 at H
   refine r_seqJ (fun (s : Sl) σ => upd 3 (Sl.v s) (σ)) (fun (s : Sl) w => model_Event_k2 R ag1 s w) ?_ ?_
   ·rintro out3 σ w H
    replace H : model_Event_k2 R ag1 out3 w := H
    show Runs _ _ _ _ _ (upd 3 (Sl.v out3) (σ)) _
    unfold model_Event_k2 at H
    refine r_seq ?_
    refine r_region ?_
    refine xm (Sl.v out3) rfl rfl rfl rfl ?_
    refine xs (Sl.v out3) rfl rfl rfl rfl ?_
    refine xo_end ?_
    exact r_ret (fn := Try.f62) Try.func62 (res_1 rfl ⟨by decide, rfl⟩) H
   ·intro J4
    refine r_seq ?_
    refine r_region ?_
    obtain ⟨p_10, hpp_10, H⟩ := H
    refine xp _ rfl rfl (p_fieldAddr (off := 0) (ft := 3) (size := 1) rfl Try.underlying67 rfl Try.ti3 (by decide) rfl hpp_10) ?_
    obtain ⟨adv_11, v_11, hev_11, hcv_11, H⟩ := H
    refine xr (.int .i64 v_11) rfl (wo rfl) rfl Try.underlying3 rfl rfl hev_11 hcv_11 ?_
    refine xp _ rfl rfl (p_eq rfl rfl rfl) ?_
    refine xo_end ?_
    refine r_condB (b := (decide (v_11 = 3))) rfl H ?_ ?_
    ·clear H; intro hb5 H
     refine r_region ?_
     refine xm (Sl.v out3) rfl rfl rfl rfl ?_
     obtain ⟨p_12, hpp_12, H⟩ := H
     refine xp _ rfl rfl (p_fieldAddr (off := 5) (ft := 65) (size := 48) rfl Try.underlying67 rfl Try.ti65 (by decide) rfl hpp_12) ?_
     obtain ⟨ls_13, hs_13, ms_13, c3s_13, c4s_13, c5s_13, c6s_13, c7s_13, H⟩ := H
     obtain ⟨s_13, hds_13⟩ : ∃ q : Sl, q = ⟨if ms_13 = ls_13 then some (p_12.add 5) else (some (p_12.add 5)).map (·.add (ls_13 * 1)), hs_13 - ls_13, ms_13 - ls_13⟩ := ⟨_, rfl⟩
     rw [← hds_13] at H
     refine xp (Sl.v s_13) rfl rfl (by rw [hds_13]; exact p_sliceA (ad := (p_12.add 5)) (n := 48) (size := 1) (vl := none) (vh := none) (vm := none) rfl Try.underlying65 Try.ti5 rfl OptI.none OptI.none OptI.none c3s_13 c4s_13 c5s_13 c6s_13 c7s_13) ?_
     refine xo_eff rfl (wo rfl) (e_app H rfl rfl rfl) ?_
     rintro _ w_3 ⟨v_14, rfl, H⟩
     refine xs (Sl.v v_14) rfl rfl rfl rfl ?_
     refine xo_end ?_
     refine ru 3 (Sl.v v_14) rfl ?_
     exact J4 v_14 _ _ H
    ·clear H; intro hb5 H
     refine r_skip ?_
     refine ru 3 (Sl.v out3) rfl ?_
     exact J4 out3 _ _ H
  ·intro J3
   refine r_draw #[[], [], [1], [1, 2], [0, 1, 2, 3], [], [5], [5, 6], [0, 1, 2, 3, 4, 5, 6, 7], [0, 1, 2, 3, 4, 5, 6, 7, 8]] 10 rfl rfl ?_
   refine am 0 (Sl.v out3) rfl rfl rfl rfl rfl ?_
   obtain ⟨p_15, hpp_15, H⟩ := H
   refine ap 1 _ rfl rfl rfl (p_fieldAddr (off := 1) (ft := 9) (size := 1) rfl Try.underlying67 rfl Try.ti9 (by decide) rfl hpp_15) ?_
   obtain ⟨adv_16, v_16, hev_16, hcv_16, H⟩ := H
   refine ar 2 (.string v_16) rfl rfl (wo rfl) rfl Try.underlying9 rfl rfl hev_16 hcv_16 ?_
   obtain ⟨p_17, hpp_17, H⟩ := H
   refine ap 5 _ rfl rfl rfl (p_fieldAddr (off := 2) (ft := 9) (size := 1) rfl Try.underlying67 rfl Try.ti9 (by decide) rfl hpp_17) ?_
   obtain ⟨adv_18, v_18, hev_18, hcv_18, H⟩ := H
   refine ar 6 (.string v_18) rfl rfl (wo rfl) rfl Try.underlying9 rfl rfl hev_18 hcv_18 ?_
   refine xa_two (i := 3) (j := 7) (by decide +kernel) ?_ ?_
   ·replace H := H.1
    refine xone_eff 3 [(6, (fun w => w.cell? adv_18 = some (.string v_18)))] rfl rfl rfl (wo rfl) (e_gen (s := convert 9 39 (.string v_16)) (enc := Sl.v) rfl H) ?_
    rintro _ w_5 ⟨v_19, rfl, H⟩
    obtain ⟨hk3_6, H⟩ := H
    refine ⟨(.cons hk3_6 AllHeld.nil), ?_⟩
    refine xa_two (i := 4) (j := 7) (by decide +kernel) ?_ ?_
    ·replace H := H.1
     refine xone_eff 4 [(6, (fun w => w.cell? adv_18 = some (.string v_18)))] rfl rfl rfl (wo rfl) (e_call (fn := Try.f126) H rfl rfl Try.func126 rfl rfl rfl) ?_
     rintro _ w_6 ⟨v_21, rfl, H⟩
     obtain ⟨hk4_6, H⟩ := H
     refine ⟨(.cons hk4_6 AllHeld.nil), ?_⟩
     refine xa_eff 7 [] (by decide +kernel) rfl rfl rfl (wo rfl) (e_gen (s := convert 9 39 (.string v_18)) (enc := Sl.v) rfl H) ?_
     rintro _ w_7 ⟨v_22, rfl, H⟩
     refine ⟨AllHeld.nil, ?_⟩
     refine xa_eff 8 [] (by decide +kernel) rfl rfl rfl (wo rfl) (e_call (fn := Try.f126) H rfl rfl Try.func126 rfl rfl rfl) ?_
     rintro _ w_8 ⟨v_24, rfl, H⟩
     refine ⟨AllHeld.nil, ?_⟩
     refine as_ 9 (Sl.v v_24) rfl rfl rfl rfl rfl ?_
     refine ax ?_
     refine ru 1 (.pointer o1) rfl ?_
     refine ru 3 (Sl.v v_24) rfl ?_
     exact J3 (o1, v_24) _ _ H
    ·replace H := H.2
     refine xone_eff 7 [] rfl rfl rfl (wo rfl) (e_gen (s := convert 9 39 (.string v_18)) (enc := Sl.v) rfl H) ?_
     rintro _ w_9 ⟨v_25, rfl, H⟩
     refine ⟨AllHeld.nil, ?_⟩
     refine xa_eff 4 [] (by decide +kernel) rfl rfl rfl (wo rfl) (e_call (fn := Try.f126) H rfl rfl Try.func126 rfl rfl rfl) ?_
     rintro _ w_10 ⟨v_27, rfl, H⟩
     refine ⟨AllHeld.nil, ?_⟩
     refine xa_eff 8 [] (by decide +kernel) rfl rfl rfl (wo rfl) (e_call (fn := Try.f126) H rfl rfl Try.func126 rfl rfl rfl) ?_
     rintro _ w_11 ⟨v_29, rfl, H⟩
     refine ⟨AllHeld.nil, ?_⟩
     refine as_ 9 (Sl.v v_29) rfl rfl rfl rfl rfl ?_
     refine ax ?_
     refine ru 1 (.pointer o1) rfl ?_
     refine ru 3 (Sl.v v_29) rfl ?_
     exact J3 (o1, v_29) _ _ H
   ·replace H := H.2
    refine xone_eff 7 [(2, (fun w => w.cell? adv_16 = some (.string v_16)))] rfl rfl rfl (wo rfl) (e_gen (s := convert 9 39 (.string v_18)) (enc := Sl.v) rfl H) ?_
    rintro _ w_12 ⟨v_30, rfl, H⟩
    obtain ⟨hk7_2, H⟩ := H
    refine ⟨(.cons hk7_2 AllHeld.nil), ?_⟩
    refine xa_eff 3 [] (by decide +kernel) rfl rfl rfl (wo rfl) (e_gen (s := convert 9 39 (.string v_16)) (enc := Sl.v) rfl H) ?_
    rintro _ w_13 ⟨v_31, rfl, H⟩
    refine ⟨AllHeld.nil, ?_⟩
    refine xa_eff 4 [] (by decide +kernel) rfl rfl rfl (wo rfl) (e_call (fn := Try.f126) H rfl rfl Try.func126 rfl rfl rfl) ?_
    rintro _ w_14 ⟨v_33, rfl, H⟩
    refine ⟨AllHeld.nil, ?_⟩
    refine xa_eff 8 [] (by decide +kernel) rfl rfl rfl (wo rfl) (e_call (fn := Try.f126) H rfl rfl Try.func126 rfl rfl rfl) ?_
    rintro _ w_15 ⟨v_35, rfl, H⟩
    refine ⟨AllHeld.nil, ?_⟩
    refine as_ 9 (Sl.v v_35) rfl rfl rfl rfl rfl ?_
    refine ax ?_
    refine ru 1 (.pointer o1) rfl ?_
    refine ru 3 (Sl.v v_35) rfl ?_
    exact J3 (o1, v_35) _ _ H

/-! 64 (*sporran/model.Model).Distinct -/
def model_Model_Distinct_b1 (R : Value → World → Prop) (ag1 : (Option Nat × Value) → World → Prop) (ag3 : (Option Nat × Value × Value) → World → Prop) (all3 : Option Nat) (t13 : Value) (t22 : Value) (w : World) : Prop :=
 Ef Try.prog (Instr.next t22 false 0) id w fun u_16 w_6 => AsNext u_16 fun vs_14 b_15 =>
 IfB b_15 (
  Ef Try.prog (Instr.entry t22) id w_6 fun u_19 w_7 => AsT2 (Value.int .i64) Value.agg u_19 fun v_17 v_18 =>
  New Try.z65 65 w_7 fun a_20 w_8 =>
  StN 48 (some a_20) v_18 w_8 fun w_9 =>
  LdN 48 (some a_20) w_9 fun v_21 =>
  EfU Try.prog (Instr.mapUpdate 230 (.map all3) (.agg v_21) (.bool true)) w_9 fun w_10 =>
  ag3 (all3, t13, t22) w_10) (
  ag1 (all3, t13) w_6)
def model_Model_Distinct_b0 (R : Value → World → Prop) (ag1 : (Option Nat × Value) → World → Prop) (all3 : Option Nat) (t13 : Value) (w : World) : Prop :=
 Ef Try.prog (Instr.next t13 false 0) id w fun u_7 w_3 => AsNext u_7 fun vs_5 b_6 =>
 IfB b_6 (
  Ef Try.prog (Instr.entry t13) id w_3 fun u_10 w_4 => AsT2 Value.string Value.pointer u_10 fun v_8 v_9 =>
  NotNil v_9 fun p_11 =>
  Ld Value.map (some (p_11.add 2)) w_4 fun v_12 =>
  Ef Try.prog (Instr.range 168 (.map v_12)) id w_4 fun v_13 w_5 =>
  Lp (fun ag (s : Option Nat × Value × Value) w => model_Model_Distinct_b1 R ag1 ag s.1 s.2.1 s.2.2 w) (all3, t13, v_13) w_5) (
  Ef Try.prog (Builtin.len_ #[230] 3 #[(.map all3)]) (Value.int .i64) w_3 fun v_22 w_11 =>
  R (.int .i64 v_22) w_11)
def model_Model_Distinct (R : Value → World → Prop) (m0 : Option Addr) (w : World) : Prop :=
 Ef Try.prog (Instr.makeMap 230 none) Value.map w fun v_1 w_1 =>
 NotNil m0 fun p_2 =>
 Ld Value.map (some (p_2.add 0)) w_1 fun v_3 =>
 Ef Try.prog (Instr.range 163 (.map v_3)) id w_1 fun v_4 w_2 =>
 Lp (fun ag (s : Option Nat × Value) w => model_Model_Distinct_b0 R ag s.1 s.2 w) (v_1, v_4) w_2
theorem model_Model_Distinct_ok (R : Value → World → Prop) (m0 : Option Addr) (w : World) (H : model_Model_Distinct R m0 w) : CallF Try.prog 64 #[(.pointer m0)] w R := by
 refine calls_of_runs (fn := Try.f64) Try.func64 rfl (Nat.le_of_ble_eq_true rfl) ?_
 show Runs _ _ 31 _ _ _ _
 unfold model_Model_Distinct at H
 refine ru 0 (.pointer m0) rfl ?_
 refine r_seq ?_
 refine r_region ?_
 refine xs (.int .i64 0) rfl rfl rfl rfl ?_
 refine xo_end ?_
 refine r_seq ?_
 refine r_region ?_
 refine xo_eff rfl (wo rfl) (e_gen (s := Instr.makeMap 230 none) (enc := Value.map) rfl H) ?_
 rintro _ w_1 ⟨v_1, rfl, H⟩
 refine xs (.map v_1) rfl rfl rfl rfl ?_
 refine xo_end ?_
 refine r_seq ?_
 refine r_seq ?_
 refine r_region ?_
 refine xm (.pointer m0) rfl rfl rfl rfl ?_
 obtain ⟨p_2, hpp_2, H⟩ := H
 refine xp (.pointer (some p_2)) rfl rfl (p_nilCheck rfl rfl hpp_2) ?_
 refine xp _ rfl rfl (p_fieldAddr (off := 0) (ft := 163) (size := 1) rfl Try.underlying165 rfl Try.ti163 (by decide) rfl rfl) ?_
 obtain ⟨adv_3, v_3, hev_3, hcv_3, H⟩ := H
 refine xr (.map v_3) rfl (wo rfl) rfl Try.underlying163 rfl rfl hev_3 hcv_3 ?_
 refine xo_eff rfl (wo rfl) (e_genV (s := Instr.range 163 (.map v_3)) rfl H) ?_
 intro v_4 w_2 H
 refine xo_end ?_
 refine r_block ?_
 refine ru 3 (.map v_1) rfl ?_
 refine ru 13 v_4 rfl ?_
 refine r_loopJ (fun (s : Option Nat × Value) σ => upd 13 s.2 (upd 3 (.map s.1) (σ))) (s := (v_1, v_4)) H ?_
 clear H
 rintro ag1 ⟨all3, t13⟩ σ w H hag1
 replace H : model_Model_Distinct_b0 R ag1 all3 t13 w := H
 show Runs _ _ _ _ _ (upd 13 t13 (upd 3 (.map all3) (σ))) _
 unfold model_Model_Distinct_b0 at H
 refine r_seq ?_
 refine r_region ?_
 refine xo_eff rfl (wo rfl) (e_genV (s := Instr.next t13 false 0) rfl H) ?_
 rintro _ w_3 ⟨vs_5, b_6, rfl, hxb_6, H⟩
 refine xp (.bool b_6) rfl rfl (p_extract (vs := vs_5) rfl rfl hxb_6) ?_
 refine xo_end ?_
 refine r_seq ?_
 refine r_condB (b := b_6) rfl H ?_ ?_
 ·clear H; intro hb2 H
  refine r_skip ?_
  refine r_block ?_
  refine r_seq ?_
  refine r_region ?_
  refine xo_eff rfl (wo rfl) (e_genV (s := Instr.entry t13) rfl H) ?_
  rintro _ w_4 ⟨v_8, v_9, rfl, H⟩
  refine xp (.pointer v_9) rfl rfl (p_extract (vs := #[(.string v_8), (.pointer v_9)]) rfl rfl rfl) ?_
  refine xs (.pointer v_9) rfl rfl rfl rfl ?_
  refine xo_end ?_
  refine r_seq ?_
  refine r_region ?_
  refine xm (.pointer v_9) rfl rfl rfl rfl ?_
  obtain ⟨p_11, hpp_11, H⟩ := H
  refine xp (.pointer (some p_11)) rfl rfl (p_nilCheck rfl rfl hpp_11) ?_
  refine xp _ rfl rfl (p_fieldAddr (off := 2) (ft := 168) (size := 1) rfl Try.underlying170 rfl Try.ti168 (by decide) rfl rfl) ?_
  obtain ⟨adv_12, v_12, hev_12, hcv_12, H⟩ := H
  refine xr (.map v_12) rfl (wo rfl) rfl Try.underlying168 rfl rfl hev_12 hcv_12 ?_
  refine xo_eff rfl (wo rfl) (e_genV (s := Instr.range 168 (.map v_12)) rfl H) ?_
  intro v_13 w_5 H
  refine xo_end ?_
  refine r_block ?_
  refine ru 3 (.map all3) rfl ?_
  refine ru 13 t13 rfl ?_
  refine ru 22 v_13 rfl ?_
  refine r_loopJ (fun (s : Option Nat × Value × Value) σ => upd 22 s.2.2 (upd 13 s.2.1 (upd 3 (.map s.1) (σ)))) (s := (all3, t13, v_13)) H ?_
  clear H
  rintro ag3 ⟨all3, t13, t22⟩ σ w H hag3
  replace H : model_Model_Distinct_b1 R ag1 ag3 all3 t13 t22 w := H
  show Runs _ _ _ _ _ (upd 22 t22 (upd 13 t13 (upd 3 (.map all3) (σ)))) _
  unfold model_Model_Distinct_b1 at H
  refine r_seq ?_
  refine r_region ?_
  refine xo_eff rfl (wo rfl) (e_genV (s := Instr.next t22 false 0) rfl H) ?_
  rintro _ w_6 ⟨vs_14, b_15, rfl, hxb_15, H⟩
  refine xp (.bool b_15) rfl rfl (p_extract (vs := vs_14) rfl rfl hxb_15) ?_
  refine xo_end ?_
  refine r_seq ?_
  refine r_condB (b := b_15) rfl H ?_ ?_
  ·clear H; intro hb4 H
   refine r_skip ?_
   refine r_block ?_
   refine r_seq ?_
   refine r_region ?_
   refine xo_eff rfl (wo rfl) (e_genV (s := Instr.entry t22) rfl H) ?_
   rintro _ w_7 ⟨v_17, v_18, rfl, H⟩
   refine xp (.agg v_18) rfl rfl (p_extract (vs := #[(.int .i64 v_17), (.agg v_18)]) rfl rfl rfl) ?_
   refine xo_eff rfl (wo rfl) (e_alloc rfl Try.ti65 H) ?_
   rintro _ w_8 ⟨a_20, rfl, H⟩
   refine xo_effN rfl (wo rfl) (e_storeN rfl Try.ti65 rfl rfl H) ?_
   intro _ w_9 H
   refine xo_end ?_
   refine r_region ?_
   refine xm (.map all3) rfl rfl rfl rfl ?_
   obtain ⟨adv_21, v_21, hev_21, hnv_21, hcv_21, H⟩ := H
   refine xo_read (v := (.agg v_21)) rfl (wo rfl) (rd_loadN (ad := adv_21) rfl Try.underlying65 rfl Try.ti65 (by show Value.pointer _ = _; rw [hev_21]) hnv_21 hcv_21) ?_
   refine xo_effN rfl (wo rfl) (e_genU rfl H) ?_
   intro _ w_10 H
   refine xo_end ?_
   refine r_inBlock ?_
   refine ru 3 (.map all3) rfl ?_
   refine ru 13 t13 rfl ?_
   refine ru 22 t22 rfl ?_
   exact hag3 (all3, t13, t22) _ _ H
  ·clear H; intro hb4 H
   refine r_exit rfl ?_
   refine r_inBlock ?_
   refine ru 3 (.map all3) rfl ?_
   refine ru 13 t13 rfl ?_
   exact hag1 (all3, t13) _ _ H
 ·clear H; intro hb2 H
  refine r_exit rfl ?_
  refine r_seq ?_
  refine r_region ?_
  refine xm (.map all3) rfl rfl rfl rfl ?_
  refine xo_eff rfl (wo rfl) (e_bi (b := .len) (enc := Value.int .i64) H rfl rfl rfl) ?_
  rintro _ w_11 ⟨v_22, rfl, H⟩
  refine xs (.int .i64 v_22) rfl rfl rfl rfl ?_
  refine xo_end ?_
  exact r_ret (fn := Try.f64) Try.func64 (res_1 rfl ⟨by decide, rfl⟩) H

/-! 92 (*sporran/model.Model).add -/
def model_Model_add_k0 (R : Value → World → Prop) (m0 : Option Addr) (name1 : ByteArray) (v2 : Option Addr) (code3 : Int) (there10 : Bool) (t20 : Bool) (w : World) : Prop :=
 IfB t20 (
  R (.int .i64 1) w) (
  IfB (!decide (code3 = 0)) (
   R (.int .i64 code3) w) (
   IfB there10 (
    R (.int .i64 6) w) (
    NotNil v2 fun p_6 =>
    Ld Value.map (some (p_6.add 2)) (World.drew w) fun v_7 =>
    NotNil v2 fun p_8 =>
    LdH (Value.int .i64) (some (p_8.add 0)) (World.drew w) fun adv_9 v_9 =>
    Ef Try.prog (Builtin.len_ #[168] 3 #[(.map v_7)]) (Value.int .i64) (World.drew w) fun v_10 w_3 =>
    ((w_3).cell? adv_9 = some (.int .i64 v_9)) ∧
    IfB (decide (v_9 < v_10)) (
     R (.int .i64 8) w_3) (
     NotNil m0 fun p_11 =>
     Ld Value.map (some (p_11.add 0)) w_3 fun v_12 =>
     EfU Try.prog (Instr.mapUpdate 163 (.map v_12) (.string name1) (.pointer v2)) w_3 fun w_4 =>
     R (.int .i64 0) w_4))))
def model_Model_add (R : Value → World → Prop) (m0 : Option Addr) (name1 : ByteArray) (v2 : Option Addr) (code3 : Int) (w : World) : Prop :=
 NotNil m0 fun p_1 =>
 Ld Value.map (some (p_1.add 0)) w fun v_2 =>
 Ef Try.prog (Instr.lookup 163 (.map v_2) (.string name1) true) id w fun u_5 w_1 => AsT2 Value.pointer Value.bool u_5 fun v_3 v_4 =>
 CallF Try.prog 150 #[(.string name1)] w_1 fun u_13 w_5 => As Value.bool u_13 fun v_14 =>
 IfB (!v_14) (
  model_Model_add_k0 R m0 name1 v2 code3 v_4 true w_5) (
  NotNil v2 fun p_15 =>
  Ld (Value.int .i64) (some (p_15.add 0)) w_5 fun v_16 =>
  IfB (decide (v_16 < 0)) (
   model_Model_add_k0 R m0 name1 v2 code3 v_4 true w_5) (
   NotNil v2 fun p_17 =>
   Ld (Value.int .i64) (some (p_17.add 0)) w_5 fun v_18 =>
   model_Model_add_k0 R m0 name1 v2 code3 v_4 (decide (1048576 < v_18)) w_5))
theorem model_Model_add_ok (R : Value → World → Prop) (m0 : Option Addr) (name1 : ByteArray) (v2 : Option Addr) (code3 : Int) (w : World) (H : model_Model_add R m0 name1 v2 code3 w) : CallF Try.prog 92 #[(.pointer m0), (.string name1), (.pointer v2), (.int .i64 code3)] w R := by
 refine calls_of_runs (fn := Try.f92) Try.func92 rfl (Nat.le_of_ble_eq_true rfl) ?_
 show Runs _ _ 61 _ _ _ _
 unfold model_Model_add at H
 refine ru 0 (.pointer m0) rfl ?_
 refine ru 1 (.string name1) rfl ?_
 refine ru 2 (.pointer v2) rfl ?_
 refine ru 3 (.int .i64 code3) rfl ?_
 refine r_seq ?_
 refine r_region ?_
 refine xs (.int .i64 0) rfl rfl rfl rfl ?_
 refine xo_end ?_
 refine r_seq ?_
 refine r_region ?_
 refine xm (.pointer m0) rfl rfl rfl rfl ?_
 obtain ⟨p_1, hpp_1, H⟩ := H
 refine xp (.pointer (some p_1)) rfl rfl (p_nilCheck rfl rfl hpp_1) ?_
 refine xp _ rfl rfl (p_fieldAddr (off := 0) (ft := 163) (size := 1) rfl Try.underlying165 rfl Try.ti163 (by decide) rfl rfl) ?_
 obtain ⟨adv_2, v_2, hev_2, hcv_2, H⟩ := H
 refine xr (.map v_2) rfl (wo rfl) rfl Try.underlying163 rfl rfl hev_2 hcv_2 ?_
 refine xm (.string name1) rfl rfl rfl rfl ?_
 refine xo_eff rfl (wo rfl) (e_genV (s := Instr.lookup 163 (.map v_2) (.string name1) true) rfl H) ?_
 rintro _ w_1 ⟨v_3, v_4, rfl, H⟩
 refine xm (.tuple #[(.pointer v_3), (.bool v_4)]) rfl rfl rfl rfl ?_
 refine xp (.pointer v_3) rfl rfl (p_extract (vs := #[(.pointer v_3), (.bool v_4)]) rfl rfl rfl) ?_
 refine xp (.bool v_4) rfl rfl (p_extract (vs := #[(.pointer v_3), (.bool v_4)]) rfl rfl rfl) ?_
 refine xs (.pointer v_3) rfl rfl rfl rfl ?_
 refine xs (.bool v_4) rfl rfl rfl rfl ?_
 refine xo_end ?_
 refine r_seq ?_
 refine r_block ?_
 refine r_seq ?_
 refine r_topJ (fun (s : Option Addr × ByteArray × Option Addr × Int × Bool × Bool) σ => upd 20 (.bool s.2.2.2.2.2) (upd 10 (.bool s.2.2.2.2.1) (upd 3 (.int .i64 s.2.2.2.1) (upd 2 (.pointer s.2.2.1) (upd 1 (.string s.2.1) (upd 0 (.pointer s.1) (σ))))))) (fun (s : Option Addr × ByteArray × Option Addr × Int × Bool × Bool) w => model_Model_add_k0 R s.1 s.2.1 s.2.2.1 s.2.2.2.1 s.2.2.2.2.1 s.2.2.2.2.2 w) ?_ ?_
 ·rintro ⟨m0, name1, v2, code3, there10, t20⟩ σ w H
  replace H : model_Model_add_k0 R m0 name1 v2 code3 there10 t20 w := H
  show Runs _ _ _ _ _ (upd 20 (.bool t20) (upd 10 (.bool there10) (upd 3 (.int .i64 code3) (upd 2 (.pointer v2) (upd 1 (.string name1) (upd 0 (.pointer m0) (σ))))))) _
  unfold model_Model_add_k0 at H
  refine r_condB (b := t20) rfl H ?_ ?_
  ·clear H; intro hb2 H
   refine r_seq ?_
   refine r_region ?_
   refine xs (.int .i64 1) rfl rfl rfl rfl ?_
   refine xo_end ?_
   exact r_ret (fn := Try.f92) Try.func92 (res_1 rfl ⟨by decide, rfl⟩) H
  ·clear H; intro hb2 H
   refine r_seq ?_
   refine r_region ?_
   refine xm (.int .i64 code3) rfl rfl rfl rfl ?_
   refine xp _ rfl rfl (p_ne rfl rfl rfl) ?_
   refine xs (.bool (!decide (code3 = 0))) rfl rfl rfl rfl ?_
   refine xo_end ?_
   refine r_condB (b := (!decide (code3 = 0))) rfl H ?_ ?_
   ·clear H; intro hb3 H
    refine r_seq ?_
    refine r_region ?_
    refine xm (.int .i64 code3) rfl rfl rfl rfl ?_
    refine xs (.int .i64 code3) rfl rfl rfl rfl ?_
    refine xo_end ?_
    exact r_ret (fn := Try.f92) Try.func92 (res_1 rfl ⟨by decide, rfl⟩) H
   ·clear H; intro hb3 H
    refine r_seq ?_
    refine r_region ?_
    refine xm (.bool there10) rfl rfl rfl rfl ?_
    refine xs (.bool there10) rfl rfl rfl rfl ?_
    refine xo_end ?_
    refine r_condB (b := there10) rfl H ?_ ?_
    ·clear H; intro hb4 H
     refine r_seq ?_
     refine r_region ?_
     refine xs (.int .i64 6) rfl rfl rfl rfl ?_
     refine xo_end ?_
     exact r_ret (fn := Try.f92) Try.func92 (res_1 rfl ⟨by decide, rfl⟩) H
    ·clear H; intro hb4 H
     refine r_seq ?_
     refine r_draw #[[], [0], [0, 1], [0, 1, 2], [0, 1, 2, 3], [], [5], [5, 6], [5, 6, 7], [0, 1, 2, 3, 4, 5, 6, 7, 8], [0, 1, 2, 3, 4, 5, 6, 7, 8, 9]] 11 rfl rfl ?_
     refine am 0 (.pointer v2) rfl rfl rfl rfl rfl ?_
     obtain ⟨p_6, hpp_6, H⟩ := H
     refine ap 1 (.pointer (some p_6)) rfl rfl rfl (p_nilCheck rfl rfl hpp_6) ?_
     refine ap 2 _ rfl rfl rfl (p_fieldAddr (off := 2) (ft := 168) (size := 1) rfl Try.underlying170 rfl Try.ti168 (by decide) rfl rfl) ?_
     obtain ⟨adv_7, v_7, hev_7, hcv_7, H⟩ := H
     refine ar 3 (.map v_7) rfl rfl (wo rfl) rfl Try.underlying168 rfl rfl hev_7 hcv_7 ?_
     refine am 5 (.pointer v2) rfl rfl rfl rfl rfl ?_
     obtain ⟨p_8, hpp_8, H⟩ := H
     refine ap 6 (.pointer (some p_8)) rfl rfl rfl (p_nilCheck rfl rfl hpp_8) ?_
     refine ap 7 _ rfl rfl rfl (p_fieldAddr (off := 0) (ft := 3) (size := 1) rfl Try.underlying170 rfl Try.ti3 (by decide) rfl rfl) ?_
     obtain ⟨adv_9, v_9, hev_9, hcv_9, H⟩ := H
     refine ar 8 (.int .i64 v_9) rfl rfl (wo rfl) rfl Try.underlying3 rfl rfl hev_9 hcv_9 ?_
     refine xa_eff 4 [(8, (fun w => w.cell? adv_9 = some (.int .i64 v_9)))] (by decide +kernel) rfl rfl rfl (wo rfl) (e_bi (b := .len) (enc := Value.int .i64) H rfl rfl rfl) ?_
     rintro _ w_3 ⟨v_10, rfl, H⟩
     obtain ⟨hk4_8, H⟩ := H
     refine ⟨(.cons hk4_8 AllHeld.nil), ?_⟩
     refine ap 9 _ rfl rfl rfl (p_gt rfl rfl rfl) ?_
     refine as_ 10 (.bool (decide (v_9 < v_10))) rfl rfl rfl rfl rfl ?_
     refine ax ?_
     refine r_condB (b := (decide (v_9 < v_10))) rfl H ?_ ?_
     ·clear H; intro hb5 H
      refine r_seq ?_
      refine r_region ?_
      refine xs (.int .i64 8) rfl rfl rfl rfl ?_
      refine xo_end ?_
      exact r_ret (fn := Try.f92) Try.func92 (res_1 rfl ⟨by decide, rfl⟩) H
     ·clear H; intro hb5 H
      refine r_skip ?_
      refine r_inBlock ?_
      refine r_seq ?_
      refine r_region ?_
      refine xm (.pointer m0) rfl rfl rfl rfl ?_
      obtain ⟨p_11, hpp_11, H⟩ := H
      refine xp (.pointer (some p_11)) rfl rfl (p_nilCheck rfl rfl hpp_11) ?_
      refine xp _ rfl rfl (p_fieldAddr (off := 0) (ft := 163) (size := 1) rfl Try.underlying165 rfl Try.ti163 (by decide) rfl rfl) ?_
      obtain ⟨adv_12, v_12, hev_12, hcv_12, H⟩ := H
      refine xr (.map v_12) rfl (wo rfl) rfl Try.underlying163 rfl rfl hev_12 hcv_12 ?_
      refine xm (.string name1) rfl rfl rfl rfl ?_
      refine xm (.pointer v2) rfl rfl rfl rfl ?_
      refine xo_effN rfl (wo rfl) (e_genU rfl H) ?_
      intro _ w_4 H
      refine xo_end ?_
      refine r_seq ?_
      refine r_region ?_
      refine xs (.int .i64 0) rfl rfl rfl rfl ?_
      refine xo_end ?_
      exact r_ret (fn := Try.f92) Try.func92 (res_1 rfl ⟨by decide, rfl⟩) H
 ·intro J1
  refine r_region ?_
  refine xm (.string name1) rfl rfl rfl rfl ?_
  refine xo_eff rfl (wo rfl) (e_call (fn := Try.f150) H rfl rfl Try.func150 rfl rfl rfl) ?_
  rintro _ w_5 ⟨v_14, rfl, H⟩
  refine xp (.bool (!v_14)) rfl rfl (p_not rfl rfl) ?_
  refine xm (.bool (!v_14)) rfl rfl rfl rfl ?_
  refine ifB_cases H ?_ ?_
  ·clear H; intro hb6 H
   refine xo_skip rfl (wn 24 rfl rfl rfl hb6) ?_
   refine xo_skip rfl (wn 24 rfl rfl rfl hb6) ?_
   refine xo_skip rfl (wn 24 rfl rfl rfl hb6) ?_
   refine xo_skip rfl (wn 24 rfl rfl rfl hb6) ?_
   refine xo_skip rfl (wn 24 rfl rfl rfl hb6) ?_
   refine xp (.bool true) rfl rfl (p_pickT rfl rfl hb6 rfl) ?_
   refine xm (.bool true) rfl rfl rfl rfl ?_
   refine xo_skip rfl (wn 31 rfl rfl rfl rfl) ?_
   refine xo_skip rfl (wn 31 rfl rfl rfl rfl) ?_
   refine xo_skip rfl (wn 31 rfl rfl rfl rfl) ?_
   refine xo_skip rfl (wn 31 rfl rfl rfl rfl) ?_
   refine xo_skip rfl (wn 31 rfl rfl rfl rfl) ?_
   refine xp (.bool true) rfl rfl (p_pickT rfl rfl rfl rfl) ?_
   refine xs (.bool true) rfl rfl rfl rfl ?_
   refine xo_end ?_
   refine ru 0 (.pointer m0) rfl ?_
   refine ru 1 (.string name1) rfl ?_
   refine ru 2 (.pointer v2) rfl ?_
   refine ru 3 (.int .i64 code3) rfl ?_
   refine ru 10 (.bool v_4) rfl ?_
   refine ru 20 (.bool true) rfl ?_
   exact J1 (m0, name1, v2, code3, v_4, true) _ _ H
  ·clear H; intro hb6 H
   refine xo_pure (v := (.pointer v2)) rfl (wy 24 rfl rfl rfl hb6) (p_move rfl rfl) ?_
   obtain ⟨p_15, hpp_15, H⟩ := H
   refine xo_pure (v := (.pointer (some p_15))) rfl (wy 24 rfl rfl rfl hb6) (p_nilCheck rfl rfl hpp_15) ?_
   refine xo_pure (v := (.pointer (some (p_15.add 0)))) rfl (wy 24 rfl rfl rfl hb6) (p_fieldAddr (off := 0) (ft := 3) (size := 1) rfl Try.underlying170 rfl Try.ti3 (by decide) rfl rfl) ?_
   obtain ⟨adv_16, v_16, hev_16, hcv_16, H⟩ := H
   refine xr (.int .i64 v_16) rfl (wy 24 rfl rfl rfl hb6) rfl Try.underlying3 rfl rfl hev_16 hcv_16 ?_
   refine xo_pure (v := (.bool (decide (v_16 < 0)))) rfl (wy 24 rfl rfl rfl hb6) (p_lt rfl rfl rfl) ?_
   refine xp (.bool (decide (v_16 < 0))) rfl rfl (p_pickF rfl rfl hb6 rfl) ?_
   refine xm (.bool (decide (v_16 < 0))) rfl rfl rfl rfl ?_
   refine ifB_cases H ?_ ?_
   ·clear H; intro hb7 H
    refine xo_skip rfl (wn 31 rfl rfl rfl hb7) ?_
    refine xo_skip rfl (wn 31 rfl rfl rfl hb7) ?_
    refine xo_skip rfl (wn 31 rfl rfl rfl hb7) ?_
    refine xo_skip rfl (wn 31 rfl rfl rfl hb7) ?_
    refine xo_skip rfl (wn 31 rfl rfl rfl hb7) ?_
    refine xp (.bool true) rfl rfl (p_pickT rfl rfl hb7 rfl) ?_
    refine xs (.bool true) rfl rfl rfl rfl ?_
    refine xo_end ?_
    refine ru 0 (.pointer m0) rfl ?_
    refine ru 1 (.string name1) rfl ?_
    refine ru 2 (.pointer v2) rfl ?_
    refine ru 3 (.int .i64 code3) rfl ?_
    refine ru 10 (.bool v_4) rfl ?_
    refine ru 20 (.bool true) rfl ?_
    exact J1 (m0, name1, v2, code3, v_4, true) _ _ H
   ·clear H; intro hb7 H
    refine xo_pure (v := (.pointer v2)) rfl (wy 31 rfl rfl rfl hb7) (p_move rfl rfl) ?_
    obtain ⟨p_17, hpp_17, H⟩ := H
    refine xo_pure (v := (.pointer (some p_17))) rfl (wy 31 rfl rfl rfl hb7) (p_nilCheck rfl rfl hpp_17) ?_
    refine xo_pure (v := (.pointer (some (p_17.add 0)))) rfl (wy 31 rfl rfl rfl hb7) (p_fieldAddr (off := 0) (ft := 3) (size := 1) rfl Try.underlying170 rfl Try.ti3 (by decide) rfl rfl) ?_
    obtain ⟨adv_18, v_18, hev_18, hcv_18, H⟩ := H
    refine xr (.int .i64 v_18) rfl (wy 31 rfl rfl rfl hb7) rfl Try.underlying3 rfl rfl hev_18 hcv_18 ?_
    refine xo_pure (v := (.bool (decide (1048576 < v_18)))) rfl (wy 31 rfl rfl rfl hb7) (p_gt rfl rfl rfl) ?_
    refine xp (.bool (decide (1048576 < v_18))) rfl rfl (p_pickF rfl rfl hb7 rfl) ?_
    refine xs (.bool (decide (1048576 < v_18))) rfl rfl rfl rfl ?_
    refine xo_end ?_
    refine ru 0 (.pointer m0) rfl ?_
    refine ru 1 (.string name1) rfl ?_
    refine ru 2 (.pointer v2) rfl ?_
    refine ru 3 (.int .i64 code3) rfl ?_
    refine ru 10 (.bool v_4) rfl ?_
    refine ru 20 (.bool (decide (1048576 < v_18))) rfl ?_
    exact J1 (m0, name1, v2, code3, v_4, (decide (1048576 < v_18))) _ _ H

/-! 93 (*sporran/model.Model).block -/
def model_Model_block_k1 (R : Value → World → Prop) (a4 : Option Addr) (w : World) : Prop :=
 LdN 51 a4 w fun v_9 =>
 StN 51 a4 v_9 w fun w_5 =>
 LdN 51 a4 w_5 fun r_10 =>
 R (.agg r_10) w_5
def model_Model_block_k2 (R : Value → World → Prop) (o3 : Option Addr) (a4 : Option Addr) (v5 : Option Addr) (t54 : Bool) (w : World) : Prop :=
 IfB t54 (
  Built #[(0, 1), (1, 1), (2, 48), (50, 1)] Try.z73 [(0, (.int .i64 8))] fun c_23 =>
  StN 51 a4 c_23 w fun w_9 =>
  LdN 51 a4 w_9 fun r_24 =>
  R (.agg r_24) w_9) (
  NotNil v5 fun p_25 =>
  Ld Value.map (some (p_25.add 2)) (World.drew w) fun v_26 =>
  NotNil o3 fun p_27 =>
  Ld (Value.int .i64) (some (p_27.add 3)) (World.drew w) fun v_28 =>
  NotNil o3 fun p_29 =>
  LdN 48 (some (p_29.add 5)) (World.drew w) fun v_30 =>
  EfU Try.prog (Instr.mapUpdate 168 (.map v_26) (.int .i64 v_28) (.agg v_30)) (World.drew w) fun w_11 =>
  model_Model_block_k1 R a4 w_11)
def model_Model_block_k0 (R : Value → World → Prop) (o3 : Option Addr) (a4 : Option Addr) (v5 : Option Addr) (b7 : Option Addr) (there8 : Bool) (w : World) : Prop :=
 NotNil o3 fun p_11 =>
 Ld (Value.int .i64) (some (p_11.add 0)) w fun v_12 =>
 IfB (decide (v_12 = 5)) (
  LdN 48 b7 w fun v_13 =>
  Built #[(0, 1), (1, 1), (2, 48), (50, 1)] Try.z73 [(1, (.bool there8)), (2, (.agg v_13))] fun c_14 =>
  StN 51 a4 c_14 w fun w_6 =>
  LdN 51 a4 w_6 fun r_15 =>
  R (.agg r_15) w_6) (
  NotNil o3 fun p_16 =>
  Ld (Value.int .i64) (some (p_16.add 0)) w fun v_17 =>
  IfB (decide (v_17 = 4)) (
   NotNil v5 fun p_18 =>
   Ld Value.map (some (p_18.add 2)) (World.drew w) fun v_19 =>
   NotNil o3 fun p_20 =>
   Ld (Value.int .i64) (some (p_20.add 3)) (World.drew w) fun v_21 =>
   Ef Try.prog (Builtin.delete_ #[168, 3] 0 #[(.map v_19), (.int .i64 v_21)]) id (World.drew w) fun v_22 w_8 =>
   model_Model_block_k1 R a4 w_8) (
   IfB (!there8) (
    NotNil v5 fun p_31 =>
    Ld Value.map (some (p_31.add 2)) (World.drew w) fun v_32 =>
    NotNil v5 fun p_33 =>
    LdH (Value.int .i64) (some (p_33.add 0)) (World.drew w) fun adv_34 v_34 =>
    Ef Try.prog (Builtin.len_ #[168] 3 #[(.map v_32)]) (Value.int .i64) (World.drew w) fun v_35 w_13 =>
    ((w_13).cell? adv_34 = some (.int .i64 v_34)) ∧
    model_Model_block_k2 R o3 a4 v5 (decide (v_34 ≤ v_35)) w_13) (
    model_Model_block_k2 R o3 a4 v5 false (World.drew w))))
def model_Model_block (R : Value → World → Prop) (m0 : Option Addr) (o1 : Array Value) (w : World) : Prop :=
 New o1 67 w fun a_1 w_1 =>
 New Try.z73 73 w_1 fun a_2 w_2 =>
 LdN 53 (some a_1) w_2 fun v_3 =>
 CallF Try.prog 151 #[(.pointer m0), (.agg v_3)] w_2 fun u_4 w_3 => AsT2 Value.pointer (Value.int .i64) u_4 fun v_5 v_6 =>
 IfB (!decide (v_6 = 0)) (
  Built #[(0, 1), (1, 1), (2, 48), (50, 1)] Try.z73 [(0, (.int .i64 v_6))] fun c_7 =>
  StN 51 (some a_2) c_7 w_3 fun w_4 =>
  LdN 51 (some a_2) w_4 fun r_8 =>
  R (.agg r_8) w_4) (
  NotNil v_5 fun p_36 =>
  LdH Value.map (some (p_36.add 2)) (World.drew w_3) fun adv_37 v_37 =>
  LdH (Value.int .i64) (some (a_1.add 3)) (World.drew w_3) fun adv_38 v_38 =>
  (
   Ef Try.prog (Instr.lookup 168 (.map v_37) (.int .i64 v_38) true) id (World.drew w_3) fun u_41 w_15 => AsT2 Value.agg Value.bool u_41 fun v_39 v_40 =>
   New Try.z65 65 w_15 fun a_42 w_16 =>
   StN 48 (some a_42) v_39 w_16 fun w_17 =>
   model_Model_block_k0 R (some a_1) (some a_2) v_5 (some a_42) v_40 w_17) ∧ (
   New Try.z65 65 (World.drew w_3) fun a_43 w_18 =>
   ((w_18).cell? adv_38 = some (.int .i64 v_38)) ∧
   ((w_18).cell? adv_37 = some (.map v_37)) ∧
   Ef Try.prog (Instr.lookup 168 (.map v_37) (.int .i64 v_38) true) id w_18 fun u_46 w_19 => AsT2 Value.agg Value.bool u_46 fun v_44 v_45 =>
   StN 48 (some a_43) v_44 w_19 fun w_20 =>
   model_Model_block_k0 R (some a_1) (some a_2) v_5 (some a_43) v_45 w_20))
theorem model_Model_block_ok (R : Value → World → Prop) (m0 : Option Addr) (o1 : Array Value) (w : World) (H : model_Model_block R m0 o1 w) : CallF Try.prog 93 #[(.pointer m0), (.agg o1)] w R := by
 refine calls_of_runs (fn := Try.f93) Try.func93 rfl (Nat.le_of_ble_eq_true rfl) ?_
 show Runs _ _ 71 _ _ _ _
 unfold model_Model_block at H
 refine ru 0 (.pointer m0) rfl ?_
 refine ru 1 (.agg o1) rfl ?_
 refine r_seq ?_
 refine r_region ?_
 refine xo_eff rfl (wo rfl) (e_box (v := (.agg o1)) rfl rfl H) ?_
 rintro _ w_1 ⟨a_1, rfl, H⟩
 refine xo_eff rfl (wo rfl) (e_alloc rfl Try.ti73 H) ?_
 rintro _ w_2 ⟨a_2, rfl, H⟩
 refine xo_end ?_
 refine r_seq ?_
 refine r_region ?_
 refine xm (.pointer m0) rfl rfl rfl rfl ?_
 obtain ⟨adv_3, v_3, hev_3, hnv_3, hcv_3, H⟩ := H
 refine xo_read (v := (.agg v_3)) rfl (wo rfl) (rd_loadN (ad := adv_3) rfl Try.underlying67 rfl Try.ti67 (by show Value.pointer _ = _; rw [hev_3]) hnv_3 hcv_3) ?_
 refine xo_eff rfl (wo rfl) (e_call (fn := Try.f151) H rfl rfl Try.func151 rfl rfl rfl) ?_
 rintro _ w_3 ⟨v_5, v_6, rfl, H⟩
 refine xm (.tuple #[(.pointer v_5), (.int .i64 v_6)]) rfl rfl rfl rfl ?_
 refine xp (.pointer v_5) rfl rfl (p_extract (vs := #[(.pointer v_5), (.int .i64 v_6)]) rfl rfl rfl) ?_
 refine xp (.int .i64 v_6) rfl rfl (p_extract (vs := #[(.pointer v_5), (.int .i64 v_6)]) rfl rfl rfl) ?_
 refine xs (.pointer v_5) rfl rfl rfl rfl ?_
 refine xs (.int .i64 v_6) rfl rfl rfl rfl ?_
 refine xo_end ?_
 refine r_seq ?_
 refine r_seq ?_
 refine r_region ?_
 refine xm (.int .i64 v_6) rfl rfl rfl rfl ?_
 refine xp _ rfl rfl (p_ne rfl rfl rfl) ?_
 refine xo_end ?_
 refine r_condB (b := (!decide (v_6 = 0))) rfl H ?_ ?_
 ·clear H; intro hb1 H
  refine r_seq ?_
  refine r_region ?_
  refine xm (.int .i64 v_6) rfl rfl rfl rfl ?_
  obtain ⟨c_7, hflc_7, H⟩ := H
  refine xp (.agg c_7) rfl rfl (p_buildS (places := #[(0, 1), (1, 1), (2, 48), (50, 1)]) rfl Try.pl73 Try.ti73 hflc_7 rfl) ?_
  refine xo_effN rfl (wo rfl) (e_storeN rfl Try.ti73 rfl rfl H) ?_
  intro _ w_4 H
  refine xo_end ?_
  obtain ⟨adr_8, r_8, her_8, hnr_8, hrr_8, H⟩ := H
  exact r_ret (fn := Try.f93) Try.func93 (res_1 rfl (resV_cellN (by decide) (by show Value.pointer _ = _; rw [her_8]) Try.underlying73 rfl Try.ti73 hnr_8 hrr_8)) H
 ·clear H; intro hb1 H
  refine r_skip ?_
  refine r_seq ?_
  refine r_topJ (fun (s : Option Addr × Option Addr × Option Addr × Option Addr × Bool) σ => upd 8 (.bool s.2.2.2.2) (upd 7 (.pointer s.2.2.2.1) (upd 5 (.pointer s.2.2.1) (upd 4 (.pointer s.2.1) (upd 3 (.pointer s.1) (σ)))))) (fun (s : Option Addr × Option Addr × Option Addr × Option Addr × Bool) w => model_Model_block_k0 R s.1 s.2.1 s.2.2.1 s.2.2.2.1 s.2.2.2.2 w) ?_ ?_
  ·rintro ⟨o3, a4, v5, b7, there8⟩ σ w H
   replace H : model_Model_block_k0 R o3 a4 v5 b7 there8 w := H
   show Runs _ _ _ _ _ (upd 8 (.bool there8) (upd 7 (.pointer b7) (upd 5 (.pointer v5) (upd 4 (.pointer a4) (upd 3 (.pointer o3) (σ)))))) _
   unfold model_Model_block_k0 at H
   refine r_seqJ (fun (s : Option Addr) σ => upd 4 (.pointer s) (σ)) (fun (s : Option Addr) w => model_Model_block_k1 R s w) ?_ ?_
   ·rintro a4 σ w H
    replace H : model_Model_block_k1 R a4 w := H
    show Runs _ _ _ _ _ (upd 4 (.pointer a4) (σ)) _
    unfold model_Model_block_k1 at H
    refine r_seq ?_
    refine r_region ?_
    obtain ⟨adv_9, v_9, hev_9, hnv_9, hcv_9, H⟩ := H
    refine xo_read (v := (.agg v_9)) rfl (wo rfl) (rd_loadN (ad := adv_9) rfl Try.underlying73 rfl Try.ti73 (by show Value.pointer _ = _; rw [hev_9]) hnv_9 hcv_9) ?_
    refine xo_effN rfl (wo rfl) (e_storeN rfl Try.ti73 rfl rfl H) ?_
    intro _ w_5 H
    refine xo_end ?_
    obtain ⟨adr_10, r_10, her_10, hnr_10, hrr_10, H⟩ := H
    exact r_ret (fn := Try.f93) Try.func93 (res_1 rfl (resV_cellN (by decide) (by show Value.pointer _ = _; rw [her_10]) Try.underlying73 rfl Try.ti73 hnr_10 hrr_10)) H
   ·intro J3
    refine r_block ?_
    refine r_seq ?_
    refine r_region ?_
    obtain ⟨p_11, hpp_11, H⟩ := H
    refine xp _ rfl rfl (p_fieldAddr (off := 0) (ft := 3) (size := 1) rfl Try.underlying67 rfl Try.ti3 (by decide) rfl hpp_11) ?_
    obtain ⟨adv_12, v_12, hev_12, hcv_12, H⟩ := H
    refine xr (.int .i64 v_12) rfl (wo rfl) rfl Try.underlying3 rfl rfl hev_12 hcv_12 ?_
    refine xp _ rfl rfl (p_eq rfl rfl rfl) ?_
    refine xs (.bool (decide (v_12 = 5))) rfl rfl rfl rfl ?_
    refine xo_end ?_
    refine r_condB (b := (decide (v_12 = 5))) rfl H ?_ ?_
    ·clear H; intro hb4 H
     refine r_seq ?_
     refine r_region ?_
     refine xm (.bool there8) rfl rfl rfl rfl ?_
     obtain ⟨adv_13, v_13, hev_13, hnv_13, hcv_13, H⟩ := H
     refine xo_read (v := (.agg v_13)) rfl (wo rfl) (rd_loadN (ad := adv_13) rfl Try.underlying65 rfl Try.ti65 (by show Value.pointer _ = _; rw [hev_13]) hnv_13 hcv_13) ?_
     obtain ⟨c_14, hflc_14, H⟩ := H
     refine xp (.agg c_14) rfl rfl (p_buildS (places := #[(0, 1), (1, 1), (2, 48), (50, 1)]) rfl Try.pl73 Try.ti73 hflc_14 rfl) ?_
     refine xo_effN rfl (wo rfl) (e_storeN rfl Try.ti73 rfl rfl H) ?_
     intro _ w_6 H
     refine xo_end ?_
     obtain ⟨adr_15, r_15, her_15, hnr_15, hrr_15, H⟩ := H
     exact r_ret (fn := Try.f93) Try.func93 (res_1 rfl (resV_cellN (by decide) (by show Value.pointer _ = _; rw [her_15]) Try.underlying73 rfl Try.ti73 hnr_15 hrr_15)) H
    ·clear H; intro hb4 H
     refine r_seq ?_
     refine r_region ?_
     obtain ⟨p_16, hpp_16, H⟩ := H
     refine xp _ rfl rfl (p_fieldAddr (off := 0) (ft := 3) (size := 1) rfl Try.underlying67 rfl Try.ti3 (by decide) rfl hpp_16) ?_
     obtain ⟨adv_17, v_17, hev_17, hcv_17, H⟩ := H
     refine xr (.int .i64 v_17) rfl (wo rfl) rfl Try.underlying3 rfl rfl hev_17 hcv_17 ?_
     refine xp _ rfl rfl (p_eq rfl rfl rfl) ?_
     refine xs (.bool (decide (v_17 = 4))) rfl rfl rfl rfl ?_
     refine xo_end ?_
     refine r_condB (b := (decide (v_17 = 4))) rfl H ?_ ?_
     ·clear H; intro hb5 H
      refine r_draw #[[], [0], [0, 1], [0, 1, 2], [], [4], [0, 1, 2, 3, 4, 5]] 7 rfl rfl ?_
      refine am 0 (.pointer v5) rfl rfl rfl rfl rfl ?_
      obtain ⟨p_18, hpp_18, H⟩ := H
      refine ap 1 (.pointer (some p_18)) rfl rfl rfl (p_nilCheck rfl rfl hpp_18) ?_
      refine ap 2 _ rfl rfl rfl (p_fieldAddr (off := 2) (ft := 168) (size := 1) rfl Try.underlying170 rfl Try.ti168 (by decide) rfl rfl) ?_
      obtain ⟨adv_19, v_19, hev_19, hcv_19, H⟩ := H
      refine ar 3 (.map v_19) rfl rfl (wo rfl) rfl Try.underlying168 rfl rfl hev_19 hcv_19 ?_
      obtain ⟨p_20, hpp_20, H⟩ := H
      refine ap 4 _ rfl rfl rfl (p_fieldAddr (off := 3) (ft := 3) (size := 1) rfl Try.underlying67 rfl Try.ti3 (by decide) rfl hpp_20) ?_
      obtain ⟨adv_21, v_21, hev_21, hcv_21, H⟩ := H
      refine ar 5 (.int .i64 v_21) rfl rfl (wo rfl) rfl Try.underlying3 rfl rfl hev_21 hcv_21 ?_
      refine an 6 rfl rfl rfl (wo rfl) (e_biV (b := .delete) H rfl rfl rfl) fun v_22 w_8 H => ?_
      refine ax ?_
      refine r_inBlock ?_
      refine ru 4 (.pointer a4) rfl ?_
      exact J3 a4 _ _ H
     ·clear H; intro hb5 H
      refine r_seq ?_
      refine r_topJ (fun (s : Option Addr × Option Addr × Option Addr × Bool) σ => upd 54 (.bool s.2.2.2) (upd 5 (.pointer s.2.2.1) (upd 4 (.pointer s.2.1) (upd 3 (.pointer s.1) (σ))))) (fun (s : Option Addr × Option Addr × Option Addr × Bool) w => model_Model_block_k2 R s.1 s.2.1 s.2.2.1 s.2.2.2 w) ?_ ?_
      ·rintro ⟨o3, a4, v5, t54⟩ σ w H
       replace H : model_Model_block_k2 R o3 a4 v5 t54 w := H
       show Runs _ _ _ _ _ (upd 54 (.bool t54) (upd 5 (.pointer v5) (upd 4 (.pointer a4) (upd 3 (.pointer o3) (σ))))) _
       unfold model_Model_block_k2 at H
       refine r_condB (b := t54) rfl H ?_ ?_
       ·clear H; intro hb7 H
        refine r_seq ?_
        refine r_region ?_
        obtain ⟨c_23, hflc_23, H⟩ := H
        refine xp (.agg c_23) rfl rfl (p_buildS (places := #[(0, 1), (1, 1), (2, 48), (50, 1)]) rfl Try.pl73 Try.ti73 hflc_23 rfl) ?_
        refine xo_effN rfl (wo rfl) (e_storeN rfl Try.ti73 rfl rfl H) ?_
        intro _ w_9 H
        refine xo_end ?_
        obtain ⟨adr_24, r_24, her_24, hnr_24, hrr_24, H⟩ := H
        exact r_ret (fn := Try.f93) Try.func93 (res_1 rfl (resV_cellN (by decide) (by show Value.pointer _ = _; rw [her_24]) Try.underlying73 rfl Try.ti73 hnr_24 hrr_24)) H
       ·clear H; intro hb7 H
        refine r_draw #[[], [0], [0, 1], [0, 1, 2], [], [4], [], [6], [0, 1, 2, 3, 4, 5, 6, 7]] 9 rfl rfl ?_
        refine am 0 (.pointer v5) rfl rfl rfl rfl rfl ?_
        obtain ⟨p_25, hpp_25, H⟩ := H
        refine ap 1 (.pointer (some p_25)) rfl rfl rfl (p_nilCheck rfl rfl hpp_25) ?_
        refine ap 2 _ rfl rfl rfl (p_fieldAddr (off := 2) (ft := 168) (size := 1) rfl Try.underlying170 rfl Try.ti168 (by decide) rfl rfl) ?_
        obtain ⟨adv_26, v_26, hev_26, hcv_26, H⟩ := H
        refine ar 3 (.map v_26) rfl rfl (wo rfl) rfl Try.underlying168 rfl rfl hev_26 hcv_26 ?_
        obtain ⟨p_27, hpp_27, H⟩ := H
        refine ap 4 _ rfl rfl rfl (p_fieldAddr (off := 3) (ft := 3) (size := 1) rfl Try.underlying67 rfl Try.ti3 (by decide) rfl hpp_27) ?_
        obtain ⟨adv_28, v_28, hev_28, hcv_28, H⟩ := H
        refine ar 5 (.int .i64 v_28) rfl rfl (wo rfl) rfl Try.underlying3 rfl rfl hev_28 hcv_28 ?_
        obtain ⟨p_29, hpp_29, H⟩ := H
        refine ap 6 _ rfl rfl rfl (p_fieldAddr (off := 5) (ft := 65) (size := 48) rfl Try.underlying67 rfl Try.ti65 (by decide) rfl hpp_29) ?_
        obtain ⟨adv_30, v_30, hev_30, hnv_30, hcv_30, H⟩ := H
        refine xa_read (v := (.agg v_30)) (S := (fun w => Row w adv_30 v_30)) 7 (by decide +kernel) rfl rfl (wo rfl) (fun w hc => rd_loadN (ad := adv_30) rfl Try.underlying65 rfl Try.ti65 (by show Value.pointer _ = _; rw [hev_30]) hnv_30 hc) hcv_30 ?_
        refine an 8 rfl rfl rfl (wo rfl) (e_genU rfl H) fun _ w_11 H => ?_
        refine ax ?_
        refine r_inBlock ?_
        refine ru 4 (.pointer a4) rfl ?_
        exact J3 a4 _ _ H
      ·intro J6
       refine r_draw #[[], [0], [0, 1], [0, 1, 2], [0, 1, 2, 3], [0, 1, 2, 3, 4], [0, 1, 2, 3, 4, 5], [0, 1, 2, 3, 4, 5, 6], [0, 1, 2], [0, 1, 2, 8], [0, 1, 2, 8, 9], [0, 1, 2, 8, 9, 10], [0, 1, 2, 3, 4, 5, 6, 7, 8, 9, 10, 11], [0, 1, 2, 3, 4, 5, 6, 7, 8, 9, 10, 11, 12], [0, 1, 2, 3, 4, 5, 6, 7, 8, 9, 10, 11, 12, 13]] 15 rfl rfl ?_
       refine am 0 (.bool there8) rfl rfl rfl rfl rfl ?_
       refine ap 1 (.bool (!there8)) rfl rfl rfl (p_not rfl rfl) ?_
       refine am 2 (.bool (!there8)) rfl rfl rfl rfl rfl ?_
       refine ifB_cases H ?_ ?_
       ·clear H; intro hb8 H
        refine xa_pure (v := (.pointer v5)) 3 (by decide +kernel) rfl rfl (wy 57 rfl rfl rfl hb8) (p_move rfl rfl) ?_
        obtain ⟨p_31, hpp_31, H⟩ := H
        refine xa_pure (v := (.pointer (some p_31))) 4 (by decide +kernel) rfl rfl (wy 57 rfl rfl rfl hb8) (p_nilCheck rfl rfl hpp_31) ?_
        refine xa_pure (v := (.pointer (some (p_31.add 2)))) 5 (by decide +kernel) rfl rfl (wy 57 rfl rfl rfl hb8) (p_fieldAddr (off := 2) (ft := 168) (size := 1) rfl Try.underlying170 rfl Try.ti168 (by decide) rfl rfl) ?_
        obtain ⟨adv_32, v_32, hev_32, hcv_32, H⟩ := H
        refine ar 6 (.map v_32) rfl rfl (wy 57 rfl rfl rfl hb8) rfl Try.underlying168 rfl rfl hev_32 hcv_32 ?_
        refine xa_pure (v := (.pointer v5)) 8 (by decide +kernel) rfl rfl (wy 57 rfl rfl rfl hb8) (p_move rfl rfl) ?_
        obtain ⟨p_33, hpp_33, H⟩ := H
        refine xa_pure (v := (.pointer (some p_33))) 9 (by decide +kernel) rfl rfl (wy 57 rfl rfl rfl hb8) (p_nilCheck rfl rfl hpp_33) ?_
        refine xa_pure (v := (.pointer (some (p_33.add 0)))) 10 (by decide +kernel) rfl rfl (wy 57 rfl rfl rfl hb8) (p_fieldAddr (off := 0) (ft := 3) (size := 1) rfl Try.underlying170 rfl Try.ti3 (by decide) rfl rfl) ?_
        obtain ⟨adv_34, v_34, hev_34, hcv_34, H⟩ := H
        refine ar 11 (.int .i64 v_34) rfl rfl (wy 57 rfl rfl rfl hb8) rfl Try.underlying3 rfl rfl hev_34 hcv_34 ?_
        refine xa_eff 7 [(11, (fun w => w.cell? adv_34 = some (.int .i64 v_34)))] (by decide +kernel) rfl rfl rfl (wy 57 rfl rfl rfl hb8) (e_bi (b := .len) (enc := Value.int .i64) H rfl rfl rfl) ?_
        rintro _ w_13 ⟨v_35, rfl, H⟩
        obtain ⟨hk7_11, H⟩ := H
        refine ⟨(.cons hk7_11 AllHeld.nil), ?_⟩
        refine xa_pure (v := (.bool (decide (v_34 ≤ v_35)))) 12 (by decide +kernel) rfl rfl (wy 57 rfl rfl rfl hb8) (p_ge rfl rfl rfl) ?_
        refine ap 13 (.bool (decide (v_34 ≤ v_35))) rfl rfl rfl (p_pickT rfl rfl hb8 rfl) ?_
        refine as_ 14 (.bool (decide (v_34 ≤ v_35))) rfl rfl rfl rfl rfl ?_
        refine ax ?_
        refine ru 3 (.pointer o3) rfl ?_
        refine ru 4 (.pointer a4) rfl ?_
        refine ru 5 (.pointer v5) rfl ?_
        refine ru 54 (.bool (decide (v_34 ≤ v_35))) rfl ?_
        exact J6 (o3, a4, v5, (decide (v_34 ≤ v_35))) _ _ H
       ·clear H; intro hb8 H
        refine ak 3 rfl rfl (wn 57 rfl rfl rfl hb8) ?_
        refine ak 4 rfl rfl (wn 57 rfl rfl rfl hb8) ?_
        refine ak 5 rfl rfl (wn 57 rfl rfl rfl hb8) ?_
        refine ak 6 rfl rfl (wn 57 rfl rfl rfl hb8) ?_
        refine ak 8 rfl rfl (wn 57 rfl rfl rfl hb8) ?_
        refine ak 9 rfl rfl (wn 57 rfl rfl rfl hb8) ?_
        refine ak 10 rfl rfl (wn 57 rfl rfl rfl hb8) ?_
        refine ak 11 rfl rfl (wn 57 rfl rfl rfl hb8) ?_
        refine ak 7 rfl rfl (wn 57 rfl rfl rfl hb8) ?_
        refine ak 12 rfl rfl (wn 57 rfl rfl rfl hb8) ?_
        refine ap 13 (.bool false) rfl rfl rfl (p_pickF rfl rfl hb8 rfl) ?_
        refine as_ 14 (.bool false) rfl rfl rfl rfl rfl ?_
        refine ax ?_
        refine ru 3 (.pointer o3) rfl ?_
        refine ru 4 (.pointer a4) rfl ?_
        refine ru 5 (.pointer v5) rfl ?_
        refine ru 54 (.bool false) rfl ?_
        exact J6 (o3, a4, v5, false) _ _ H
  ·intro J2
   refine r_draw #[[], [0], [0, 1], [0, 1, 2], [], [4], [0, 1, 2, 3, 4, 5], [0, 1, 2, 3, 4, 5, 6], [0, 1, 2, 3, 4, 5, 6, 7], [0, 1, 2, 3, 4, 5, 6, 7], [], [0, 1, 2, 3, 4, 5, 6, 7, 8, 10], [0, 1, 2, 3, 4, 5, 6, 7, 8, 9, 10, 11]] 13 rfl rfl ?_
   refine am 0 (.pointer v_5) rfl rfl rfl rfl rfl ?_
   obtain ⟨p_36, hpp_36, H⟩ := H
   refine ap 1 (.pointer (some p_36)) rfl rfl rfl (p_nilCheck rfl rfl hpp_36) ?_
   refine ap 2 _ rfl rfl rfl (p_fieldAddr (off := 2) (ft := 168) (size := 1) rfl Try.underlying170 rfl Try.ti168 (by decide) rfl rfl) ?_
   obtain ⟨adv_37, v_37, hev_37, hcv_37, H⟩ := H
   refine ar 3 (.map v_37) rfl rfl (wo rfl) rfl Try.underlying168 rfl rfl hev_37 hcv_37 ?_
   refine ap 4 _ rfl rfl rfl (p_fieldAddr (off := 3) (ft := 3) (size := 1) rfl Try.underlying67 rfl Try.ti3 (by decide) rfl rfl) ?_
   obtain ⟨adv_38, v_38, hev_38, hcv_38, H⟩ := H
   refine ar 5 (.int .i64 v_38) rfl rfl (wo rfl) rfl Try.underlying3 rfl rfl hev_38 hcv_38 ?_
   refine xa_two (i := 6) (j := 10) (by decide +kernel) ?_ ?_
   ·replace H := H.1
    refine xone_eff 6 [] rfl rfl rfl (wo rfl) (e_genV (s := Instr.lookup 168 (.map v_37) (.int .i64 v_38) true) rfl H) ?_
    rintro _ w_15 ⟨v_39, v_40, rfl, H⟩
    refine ⟨AllHeld.nil, ?_⟩
    refine am 7 (.tuple #[(.agg v_39), (.bool v_40)]) rfl rfl rfl rfl rfl ?_
    refine ap 8 (.agg v_39) rfl rfl rfl (p_extract (vs := #[(.agg v_39), (.bool v_40)]) rfl rfl rfl) ?_
    refine ap 9 (.bool v_40) rfl rfl rfl (p_extract (vs := #[(.agg v_39), (.bool v_40)]) rfl rfl rfl) ?_
    refine xa_eff 10 [] (by decide +kernel) rfl rfl rfl (wo rfl) (e_alloc rfl Try.ti65 H) ?_
    rintro _ w_16 ⟨a_42, rfl, H⟩
    refine ⟨AllHeld.nil, ?_⟩
    refine an 11 rfl rfl rfl (wo rfl) (e_storeN rfl Try.ti65 rfl rfl H) fun _ w_17 H => ?_
    refine as_ 12 (.bool v_40) rfl rfl rfl rfl rfl ?_
    refine ax ?_
    refine ru 3 (.pointer (some a_1)) rfl ?_
    refine ru 4 (.pointer (some a_2)) rfl ?_
    refine ru 5 (.pointer v_5) rfl ?_
    refine ru 7 (.pointer (some a_42)) rfl ?_
    refine ru 8 (.bool v_40) rfl ?_
    exact J2 ((some a_1), (some a_2), v_5, (some a_42), v_40) _ _ H
   ·replace H := H.2
    refine xone_eff 10 [(5, (fun w => w.cell? adv_38 = some (.int .i64 v_38))), (3, (fun w => w.cell? adv_37 = some (.map v_37)))] rfl rfl rfl (wo rfl) (e_alloc rfl Try.ti65 H) ?_
    rintro _ w_18 ⟨a_43, rfl, H⟩
    obtain ⟨hk10_5, hk10_3, H⟩ := H
    refine ⟨(.cons hk10_5 (.cons hk10_3 AllHeld.nil)), ?_⟩
    refine xa_eff 6 [] (by decide +kernel) rfl rfl rfl (wo rfl) (e_genV (s := Instr.lookup 168 (.map v_37) (.int .i64 v_38) true) rfl H) ?_
    rintro _ w_19 ⟨v_44, v_45, rfl, H⟩
    refine ⟨AllHeld.nil, ?_⟩
    refine am 7 (.tuple #[(.agg v_44), (.bool v_45)]) rfl rfl rfl rfl rfl ?_
    refine ap 8 (.agg v_44) rfl rfl rfl (p_extract (vs := #[(.agg v_44), (.bool v_45)]) rfl rfl rfl) ?_
    refine ap 9 (.bool v_45) rfl rfl rfl (p_extract (vs := #[(.agg v_44), (.bool v_45)]) rfl rfl rfl) ?_
    refine an 11 rfl rfl rfl (wo rfl) (e_storeN rfl Try.ti65 rfl rfl H) fun _ w_20 H => ?_
    refine as_ 12 (.bool v_45) rfl rfl rfl rfl rfl ?_
    refine ax ?_
    refine ru 3 (.pointer (some a_1)) rfl ?_
    refine ru 4 (.pointer (some a_2)) rfl ?_
    refine ru 5 (.pointer v_5) rfl ?_
    refine ru 7 (.pointer (some a_43)) rfl ?_
    refine ru 8 (.bool v_45) rfl ?_
    exact J2 ((some a_1), (some a_2), v_5, (some a_43), v_45) _ _ H
end Go.Proofs
