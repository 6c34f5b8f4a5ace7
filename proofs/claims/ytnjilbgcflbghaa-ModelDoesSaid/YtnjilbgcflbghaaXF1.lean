/- Laid by program. -/
import Derived.Test.YtnjilbgcflbghaaXFT
set_option linter.all false
set_option linter.unusedVariables false
set_option linter.unusedSimpArgs false
set_option maxRecDepth 20000
set_option maxHeartbeats 4000000
namespace Go.Proofs
open Go Go.X
/-! 62 sporran/model.Event -/
def f62_k2 (R : Value → World → Prop) (ag1 : (Option Addr × Sl × Array Value × Int) → World → Prop) (out3 : Sl) (w : World) : Prop :=
 R (Sl.v out3) w
def f62_k1 (R : Value → World → Prop) (ag1 : (Option Addr × Sl × Array Value × Int) → World → Prop) (o1 : Option Addr) (out3 : Sl) (w : World) : Prop :=
 NotNil o1 fun p_10 =>
 Ld (Value.int .i64) (some (p_10.add 0)) w fun v_11 =>
 IfB (decide (v_11 = 3)) (
  NotNil o1 fun p_12 =>
  Cut ⟨some (p_12.add 5), 48, 48⟩ 1 none none none fun s_13 =>
  Ef Try.prog (Builtin.append_ #[39, 39] 39 #[(Sl.v out3), (Sl.v s_13)]) Sl.v w fun v_14 w_3 =>
  f62_k2 R ag1 v_14 w_3) (
  f62_k2 R ag1 out3 w)
def f62_b0 (R : Value → World → Prop) (ag1 : (Option Addr × Sl × Array Value × Int) → World → Prop) (o1 : Option Addr) (out3 : Sl) (t12 : Array Value) (t13 : Int) (w : World) : Prop :=
 IfB (decide (t13 < 3)) (
  IxA 3 t13 (
  At (Value.int .i64) t12 t13.toNat fun f_7 =>
  CallF Try.prog 125 #[(Sl.v out3), (.int .u64 (IntKind.u64.wrap f_7))] w fun u_8 w_2 => As Sl.v u_8 fun v_9 =>
  ag1 (o1, v_9, t12, (IntKind.i64.wrap (t13 + 1))) w_2)) (
  NotNil o1 fun p_15 =>
  LdH Value.string (some (p_15.add 1)) (World.drew w) fun adv_16 v_16 =>
  NotNil o1 fun p_17 =>
  LdH Value.string (some (p_17.add 2)) (World.drew w) fun adv_18 v_18 =>
  (
   Ef Try.prog (convert 9 39 (.string v_16)) Sl.v (World.drew w) fun v_19 w_5 =>
   ((w_5).cell? adv_18 = some (.string v_18)) ∧
   (
    CallF Try.prog 126 #[(Sl.v out3), (Sl.v v_19)] w_5 fun u_20 w_6 => As Sl.v u_20 fun v_21 =>
    ((w_6).cell? adv_18 = some (.string v_18)) ∧
    Ef Try.prog (convert 9 39 (.string v_18)) Sl.v w_6 fun v_22 w_7 =>
    CallF Try.prog 126 #[(Sl.v v_21), (Sl.v v_22)] w_7 fun u_23 w_8 => As Sl.v u_23 fun v_24 =>
    f62_k1 R ag1 o1 v_24 w_8) ∧ (
    Ef Try.prog (convert 9 39 (.string v_18)) Sl.v w_5 fun v_25 w_9 =>
    CallF Try.prog 126 #[(Sl.v out3), (Sl.v v_19)] w_9 fun u_26 w_10 => As Sl.v u_26 fun v_27 =>
    CallF Try.prog 126 #[(Sl.v v_27), (Sl.v v_25)] w_10 fun u_28 w_11 => As Sl.v u_28 fun v_29 =>
    f62_k1 R ag1 o1 v_29 w_11)) ∧ (
   Ef Try.prog (convert 9 39 (.string v_18)) Sl.v (World.drew w) fun v_30 w_12 =>
   ((w_12).cell? adv_16 = some (.string v_16)) ∧
   Ef Try.prog (convert 9 39 (.string v_16)) Sl.v w_12 fun v_31 w_13 =>
   CallF Try.prog 126 #[(Sl.v out3), (Sl.v v_31)] w_13 fun u_32 w_14 => As Sl.v u_32 fun v_33 =>
   CallF Try.prog 126 #[(Sl.v v_33), (Sl.v v_30)] w_14 fun u_34 w_15 => As Sl.v u_34 fun v_35 =>
   f62_k1 R ag1 o1 v_35 w_15))
def f62 (R : Value → World → Prop) (o0 : Array Value) (w : World) : Prop :=
 New o0 67 w fun a_1 w_1 =>
 Ld (Value.int .i64) (some (a_1.add 0)) w_1 fun v_2 =>
 Ld (Value.int .i64) (some (a_1.add 3)) w_1 fun v_3 =>
 Ld (Value.int .i64) (some (a_1.add 4)) w_1 fun v_4 =>
 BuiltA 1 #[(.int .i64 0), (.int .i64 0), (.int .i64 0)] [(0, (.int .i64 v_2)), (1, (.int .i64 v_3)), (2, (.int .i64 v_4))] fun c_5 =>
 Lp (fun ag (s : Option Addr × Sl × Array Value × Int) w => f62_b0 R ag s.1 s.2.1 s.2.2.1 s.2.2.2 w) ((some a_1), Sl.nil, c_5, 0) w_1
theorem f62_ok (R : Value → World → Prop) (o0 : Array Value) (w : World) (H : f62 R o0 w) : CallF Try.prog 62 #[(.agg o0)] w R := by
 refine calls_of_runs (fn := Try.f62) Try.func62 rfl (Nat.le_of_ble_eq_true rfl) ?_
 show Runs _ _ 38 _ _ _ _
 unfold f62 at H
 refine ru 0 (.agg o0) rfl ?_
 refine sr ?_
 refine xo_eff rfl (wo rfl) (e_box (v := (.agg o0)) rfl rfl H) ?_
 rintro _ w_1 ⟨a_1, rfl, H⟩
 refine xs (Sl.v Sl.nil) rfl rfl ?_
 refine xe ?_
 refine sr ?_
 refine xs (Sl.v Sl.nil) rfl rfl ?_
 refine xe ?_
 refine r_seq ?_
 refine sr ?_
 refine xp _ rfl (p_fieldAddr (off := 0) (ft := 3) (size := 1) rfl u67 rfl Try.ti3 (by decide) rfl rfl) ?_
 obtain ⟨adv_2, v_2, hev_2, hcv_2, H⟩ := H
 refine xr (I v_2) rfl (wo rfl) rfl u3 rfl rfl hev_2 hcv_2 ?_
 refine xp _ rfl (p_fieldAddr (off := 3) (ft := 3) (size := 1) rfl u67 rfl Try.ti3 (by decide) rfl rfl) ?_
 obtain ⟨adv_3, v_3, hev_3, hcv_3, H⟩ := H
 refine xr (I v_3) rfl (wo rfl) rfl u3 rfl rfl hev_3 hcv_3 ?_
 refine xp _ rfl (p_fieldAddr (off := 4) (ft := 3) (size := 1) rfl u67 rfl Try.ti3 (by decide) rfl rfl) ?_
 obtain ⟨adv_4, v_4, hev_4, hcv_4, H⟩ := H
 refine xr (I v_4) rfl (wo rfl) rfl u3 rfl rfl hev_4 hcv_4 ?_
 obtain ⟨c_5, hflc_5, H⟩ := H
 refine xp (.agg c_5) rfl (p_buildA (size := 1) rfl u227 Try.ti227 Try.ti3 hflc_5 rfl) ?_
 refine xm (I 0) rfl rfl ?_
 refine xe ?_
 refine r_block ?_
 refine ru4 1 (.pointer (some a_1)) 3 (Sl.v Sl.nil) 12 (.agg c_5) 13 (I 0) rfl rfl rfl rfl ?_
 refine r_loopJ (fun (s : Option Addr × Sl × Array Value × Int) σ => upd 13 (I s.2.2.2) (upd 12 (.agg s.2.2.1) (upd 3 (Sl.v s.2.1) (upd 1 (.pointer s.1) (σ))))) (s := ((some a_1), Sl.nil, c_5, 0)) H ?_
 clear H
 rintro ag1 ⟨o1, out3, t12, t13⟩ σ w H hag1
 replace H : f62_b0 R ag1 o1 out3 t12 t13 w := H
 try dsimp only
 unfold f62_b0 at H
 refine sr ?_
 refine xp _ rfl (p_lt rfl rfl rfl) ?_
 refine xe ?_
 refine r_seq ?_
 refine r_condB (b := (decide (t13 < 3))) rfl H ?_ ?_
 ·clear H; intro hb2 H
  refine r_skip ?_
  refine sb ?_
  refine sr ?_
  obtain ⟨hlq_6, huq_6, f_7, hff_7, H⟩ := H
  refine xp (I f_7) rfl (p_indexA1 rfl u227 Try.ti3 u3 rfl rfl rfl hlq_6 huq_6 hff_7) ?_
  refine xs (I f_7) rfl rfl ?_
  refine xe ?_
  refine r_region ?_
  refine xm (Sl.v out3) rfl rfl ?_
  refine xm (I f_7) rfl rfl ?_
  refine xp (.int .u64 (IntKind.u64.wrap f_7)) rfl (p_conv rfl u3 u22 rfl) ?_
  refine xo_eff rfl (wo rfl) (e_call (fn := Try.f125) H rfl rfl Try.func125 rfl rfl rfl) ?_
  rintro _ w_2 ⟨v_9, rfl, H⟩
  refine xs (Sl.v v_9) rfl rfl ?_
  refine xe ?_
  refine r_inBlock ?_
  refine r_region ?_
  refine xp _ rfl (p_add rfl rfl rfl) ?_
  refine xm (I (W (t13 + 1))) rfl rfl ?_
  refine xe ?_
  refine ru4 1 (.pointer o1) 3 (Sl.v v_9) 12 (.agg t12) 13 (I (W (t13 + 1))) rfl rfl rfl rfl ?_
  exact hag1 (o1, v_9, t12, (W (t13 + 1))) _ _ H
 ·clear H; intro hb2 H
  refine r_exit rfl ?_
  refine r_seq ?_
  refine r_topJ (fun (s : Option Addr × Sl) σ => upd 3 (Sl.v s.2) (upd 1 (.pointer s.1) (σ))) (fun (s : Option Addr × Sl) w => f62_k1 R ag1 s.1 s.2 w) ?_ ?_
  ·rintro ⟨o1, out3⟩ σ w H
   replace H : f62_k1 R ag1 o1 out3 w := H
   try dsimp only
   unfold f62_k1 at H
   refine r_seqJ (fun (s : Sl) σ => upd 3 (Sl.v s) (σ)) (fun (s : Sl) w => f62_k2 R ag1 s w) ?_ ?_
   ·rintro out3 σ w H
    replace H : f62_k2 R ag1 out3 w := H
    try dsimp only
    unfold f62_k2 at H
    refine sr ?_
    refine xm (Sl.v out3) rfl rfl ?_
    refine xs (Sl.v out3) rfl rfl ?_
    refine xe ?_
    exact r_ret (fn := Try.f62) Try.func62 (res_1 rfl ⟨by decide, rfl⟩) H
   ·intro J4
    refine sr ?_
    obtain ⟨p_10, hpp_10, H⟩ := H
    refine xp _ rfl (p_fieldAddr (off := 0) (ft := 3) (size := 1) rfl u67 rfl Try.ti3 (by decide) rfl hpp_10) ?_
    obtain ⟨adv_11, v_11, hev_11, hcv_11, H⟩ := H
    refine xr (I v_11) rfl (wo rfl) rfl u3 rfl rfl hev_11 hcv_11 ?_
    refine xp _ rfl (p_eq rfl rfl rfl) ?_
    refine xe ?_
    refine r_condB (b := (decide (v_11 = 3))) rfl H ?_ ?_
    ·clear H; intro hb5 H
     refine r_region ?_
     refine xm (Sl.v out3) rfl rfl ?_
     obtain ⟨p_12, hpp_12, H⟩ := H
     refine xp _ rfl (p_fieldAddr (off := 5) (ft := 65) (size := 48) rfl u67 rfl Try.ti65 (by decide) rfl hpp_12) ?_
     obtain ⟨ls_13, hs_13, ms_13, c3s_13, c4s_13, c5s_13, c6s_13, c7s_13, H⟩ := H
     obtain ⟨s_13, hds_13⟩ : ∃ q : Sl, q = ⟨if ms_13 = ls_13 then some (p_12.add 5) else (some (p_12.add 5)).map (·.add (ls_13 * 1)), hs_13 - ls_13, ms_13 - ls_13⟩ := ⟨_, rfl⟩
     rw [← hds_13] at H
     refine xp (Sl.v s_13) rfl (by rw [hds_13]; exact p_sliceA (ad := (p_12.add 5)) (n := 48) (size := 1) (vl := none) (vh := none) (vm := none) rfl u65 Try.ti5 rfl OptI.none OptI.none OptI.none c3s_13 c4s_13 c5s_13 c6s_13 c7s_13) ?_
     refine xo_eff rfl (wo rfl) (e_app H rfl rfl rfl) ?_
     rintro _ w_3 ⟨v_14, rfl, H⟩
     refine xs (Sl.v v_14) rfl rfl ?_
     refine xe ?_
     refine ru 3 (Sl.v v_14) rfl ?_
     exact J4 v_14 _ _ H
    ·clear H; intro hb5 H
     refine r_skip ?_
     refine ru 3 (Sl.v out3) rfl ?_
     exact J4 out3 _ _ H
  ·intro J3
   refine r_draw #[[], [], [1], [1, 2], [0, 1, 2, 3], [], [5], [5, 6], [0, 1, 2, 3, 4, 5, 6, 7], [0, 1, 2, 3, 4, 5, 6, 7, 8]] 10 rfl rfl ?_
   refine am 0 (Sl.v out3) rfl rfl rfl ?_
   obtain ⟨p_15, hpp_15, H⟩ := H
   refine ap 1 _ rfl rfl (p_fieldAddr (off := 1) (ft := 9) (size := 1) rfl u67 rfl Try.ti9 (by decide) rfl hpp_15) ?_
   obtain ⟨adv_16, v_16, hev_16, hcv_16, H⟩ := H
   refine ar 2 (.string v_16) rfl rfl (wo rfl) rfl u9 rfl rfl hev_16 hcv_16 ?_
   obtain ⟨p_17, hpp_17, H⟩ := H
   refine ap 5 _ rfl rfl (p_fieldAddr (off := 2) (ft := 9) (size := 1) rfl u67 rfl Try.ti9 (by decide) rfl hpp_17) ?_
   obtain ⟨adv_18, v_18, hev_18, hcv_18, H⟩ := H
   refine ar 6 (.string v_18) rfl rfl (wo rfl) rfl u9 rfl rfl hev_18 hcv_18 ?_
   refine xa_two (i := 3) (j := 7) (by decide +kernel) ?_ ?_
   ·replace H := H.1
    refine xone_eff 3 [(6, (fun w => w.cell? adv_18 = some (.string v_18)))] rfl rfl rfl (wo rfl) (e_gen (s := convert 9 39 (.string v_16)) (enc := Sl.v) rfl H) ?_
    rintro _ w_5 ⟨v_19, rfl, H⟩
    obtain ⟨hk3_6, H⟩ := H
    refine ⟨(.cons hk3_6 AllHeld.nil), ?_⟩
    refine xa_two (i := 4) (j := 7) (by decide +kernel) ?_ ?_
    ·replace H := H.1
     refine xone_eff 4 [(6, (fun w => w.cell? adv_18 = some (.string v_18)))] rfl rfl rfl (wo rfl) (e_call (fn := Try.f126) H rfl rfl Try.func126 rfl rfl rfl) ?_
     rintro _ w_6 ⟨v_21, rfl, H⟩
     obtain ⟨hk4_6, H⟩ := H
     refine ⟨(.cons hk4_6 AllHeld.nil), ?_⟩
     refine ae 7 [] rfl rfl rfl (wo rfl) (e_gen (s := convert 9 39 (.string v_18)) (enc := Sl.v) rfl H) ?_
     rintro _ w_7 ⟨v_22, rfl, H⟩
     refine ⟨AllHeld.nil, ?_⟩
     refine ae 8 [] rfl rfl rfl (wo rfl) (e_call (fn := Try.f126) H rfl rfl Try.func126 rfl rfl rfl) ?_
     rintro _ w_8 ⟨v_24, rfl, H⟩
     refine ⟨AllHeld.nil, ?_⟩
     refine as_ 9 (Sl.v v_24) rfl rfl rfl ?_
     refine ax ?_
     refine ru2 1 (.pointer o1) 3 (Sl.v v_24) rfl rfl ?_
     exact J3 (o1, v_24) _ _ H
    ·replace H := H.2
     refine xone_eff 7 [] rfl rfl rfl (wo rfl) (e_gen (s := convert 9 39 (.string v_18)) (enc := Sl.v) rfl H) ?_
     rintro _ w_9 ⟨v_25, rfl, H⟩
     refine ⟨AllHeld.nil, ?_⟩
     refine ae 4 [] rfl rfl rfl (wo rfl) (e_call (fn := Try.f126) H rfl rfl Try.func126 rfl rfl rfl) ?_
     rintro _ w_10 ⟨v_27, rfl, H⟩
     refine ⟨AllHeld.nil, ?_⟩
     refine ae 8 [] rfl rfl rfl (wo rfl) (e_call (fn := Try.f126) H rfl rfl Try.func126 rfl rfl rfl) ?_
     rintro _ w_11 ⟨v_29, rfl, H⟩
     refine ⟨AllHeld.nil, ?_⟩
     refine as_ 9 (Sl.v v_29) rfl rfl rfl ?_
     refine ax ?_
     refine ru2 1 (.pointer o1) 3 (Sl.v v_29) rfl rfl ?_
     exact J3 (o1, v_29) _ _ H
   ·replace H := H.2
    refine xone_eff 7 [(2, (fun w => w.cell? adv_16 = some (.string v_16)))] rfl rfl rfl (wo rfl) (e_gen (s := convert 9 39 (.string v_18)) (enc := Sl.v) rfl H) ?_
    rintro _ w_12 ⟨v_30, rfl, H⟩
    obtain ⟨hk7_2, H⟩ := H
    refine ⟨(.cons hk7_2 AllHeld.nil), ?_⟩
    refine ae 3 [] rfl rfl rfl (wo rfl) (e_gen (s := convert 9 39 (.string v_16)) (enc := Sl.v) rfl H) ?_
    rintro _ w_13 ⟨v_31, rfl, H⟩
    refine ⟨AllHeld.nil, ?_⟩
    refine ae 4 [] rfl rfl rfl (wo rfl) (e_call (fn := Try.f126) H rfl rfl Try.func126 rfl rfl rfl) ?_
    rintro _ w_14 ⟨v_33, rfl, H⟩
    refine ⟨AllHeld.nil, ?_⟩
    refine ae 8 [] rfl rfl rfl (wo rfl) (e_call (fn := Try.f126) H rfl rfl Try.func126 rfl rfl rfl) ?_
    rintro _ w_15 ⟨v_35, rfl, H⟩
    refine ⟨AllHeld.nil, ?_⟩
    refine as_ 9 (Sl.v v_35) rfl rfl rfl ?_
    refine ax ?_
    refine ru2 1 (.pointer o1) 3 (Sl.v v_35) rfl rfl ?_
    exact J3 (o1, v_35) _ _ H

/-! 63 sporran/sporranref15.Do -/
def f63_b0 (R : Value → World → Prop) (ag5 : (Sl × Option Addr × Option Addr × Int) → World → Prop) (l0 : Sl) (t5 : Option Addr) (a7 : Option Addr) (k8 : Int) (w : World) : Prop :=
 IfB (decide (k8 < (l0.len : Int))) (
  NotNil a7 fun p_25 =>
  LdH Sl.v (some (p_25.add 50)) (World.drew w) fun adv_26 v_26 =>
  Ix l0 k8 fun p_27 =>
  Ld Value.string (some ((p_27.add (k8.toNat * 4)).add 0)) (World.drew w) fun v_28 =>
  New #[(.string v_28)] 9 (World.drew w) fun a_29 w_12 =>
  ((w_12).cell? adv_26 = some (Sl.v v_26)) ∧
  Ef Try.prog (Builtin.append_ #[71, 71] 71 #[(Sl.v v_26), (Sl.v ⟨some a_29, 1, 1⟩)]) Sl.v w_12 fun v_30 w_13 =>
  NotNil a7 fun p_31 =>
  St (some (p_31.add 50)) (Sl.v v_30) w_13 fun w_14 =>
  ag5 (l0, t5, a7, (IntKind.i64.wrap (k8 + 1))) w_14) (
  LdN 51 a7 (World.drew w) fun v_32 =>
  StN 51 t5 v_32 (World.drew w) fun w_16 =>
  LdN 51 t5 w_16 fun r_33 =>
  R (.tuple #[(Sl.v l0), (.agg r_33)]) w_16)
def f63_k2 (R : Value → World → Prop) (l0 : Sl) (o3 : Option Addr) (t5 : Option Addr) (i6 : Int) (q9 : Int) (w : World) : Prop :=
 NotNil o3 fun p_36 =>
 Ld Value.string (some (p_36.add 2)) w fun v_37 =>
 CallF Try.prog 127 #[(.string v_37), (.int .i64 q9)] w fun u_38 w_17 => As Value.bool u_38 fun v_39 =>
 IfB (!v_39) (
  Built #[(0, 1), (1, 1), (2, 48), (50, 1)] Try.z73 [(0, (.int .i64 1))] fun c_40 =>
  StN 51 t5 c_40 w_17 fun w_18 =>
  LdN 51 t5 w_18 fun r_41 =>
  R (.tuple #[(Sl.v l0), (.agg r_41)]) w_18) (
  IfB (decide (i6 < 0)) (
   Built #[(0, 1), (1, 1), (2, 48), (50, 1)] Try.z73 [(0, (.int .i64 5))] fun c_42 =>
   StN 51 t5 c_42 w_17 fun w_19 =>
   LdN 51 t5 w_19 fun r_43 =>
   R (.tuple #[(Sl.v l0), (.agg r_43)]) w_19) (
   NotNil o3 fun p_44 =>
   Ld Value.string (some (p_44.add 2)) w_17 fun v_45 =>
   CallF Try.prog 51 #[(Sl.v l0), (.string v_45)] w_17 fun u_46 w_20 => As (Value.int .i64) u_46 fun v_47 =>
   IfB (decide (0 ≤ v_47)) (
    Built #[(0, 1), (1, 1), (2, 48), (50, 1)] Try.z73 [(0, (.int .i64 6))] fun c_48 =>
    StN 51 t5 c_48 w_20 fun w_21 =>
    LdN 51 t5 w_21 fun r_49 =>
    R (.tuple #[(Sl.v l0), (.agg r_49)]) w_21) (
    Ix l0 i6 fun p_50 =>
    Ld Sl.v (some ((p_50.add (i6.toNat * 4)).add 3)) w_20 fun v_51 =>
    IfB (decide (q9 < (v_51.len : Int))) (
     Built #[(0, 1), (1, 1), (2, 48), (50, 1)] Try.z73 [(0, (.int .i64 8))] fun c_52 =>
     StN 51 t5 c_52 w_20 fun w_22 =>
     LdN 51 t5 w_22 fun r_53 =>
     R (.tuple #[(Sl.v l0), (.agg r_53)]) w_22) (
     NotNil o3 fun p_54 =>
     Ld Value.string (some (p_54.add 2)) (World.drew w_20) fun v_55 =>
     NotNil o3 fun p_56 =>
     Ld (Value.int .i64) (some (p_56.add 0)) (World.drew w_20) fun v_57 =>
     Ix l0 i6 fun p_58 =>
     Ld Sl.v (some ((p_58.add (i6.toNat * 4)).add 3)) (World.drew w_20) fun v_59 =>
     Built #[(0, 1), (1, 1), (2, 1), (3, 1)] #[(.string (ByteArray.mk #[])), (.int .i64 0), (.bool false), (Sl.v Sl.nil)] [(0, (.string v_55)), (1, (.int .i64 q9)), (2, (.bool (decide (v_57 = 6)))), (3, (Sl.v v_59))] fun c_60 =>
     Built #[(0, 1), (1, 1), (2, 48), (50, 1)] Try.z73 [] fun c_61 =>
     CallF Try.prog 128 #[(Sl.v l0), (.agg c_60)] (World.drew w_20) fun u_62 w_24 => As Sl.v u_62 fun v_63 =>
     StN 51 t5 c_61 w_24 fun w_25 =>
     LdN 51 t5 w_25 fun r_64 =>
     R (.tuple #[(Sl.v v_63), (.agg r_64)]) w_25))))
def f63_k6 (R : Value → World → Prop) (ag22 : (Sl × Option Addr × Option Addr × Int × Int × Int) → World → Prop) (l0 : Sl) (o3 : Option Addr) (t5 : Option Addr) (i6 : Int) (had10 : Int) (k11 : Int) (w : World) : Prop :=
 ag22 (l0, o3, t5, i6, had10, (IntKind.i64.wrap (k11 + 1))) w
def f63_k9 (R : Value → World → Prop) (ag22 : (Sl × Option Addr × Option Addr × Int × Int × Int) → World → Prop) (ag31 : (Sl × Option Addr × Option Addr × Int × Sl × Bool × Int) → World → Prop) (l0 : Sl) (o3 : Option Addr) (t5 : Option Addr) (i6 : Int) (blocks12 : Sl) (done13 : Bool) (k14 : Int) (w : World) : Prop :=
 ag31 (l0, o3, t5, i6, blocks12, done13, (IntKind.i64.wrap (k14 + 1))) w
def f63_k10 (R : Value → World → Prop) (ag22 : (Sl × Option Addr × Option Addr × Int × Int × Int) → World → Prop) (ag31 : (Sl × Option Addr × Option Addr × Int × Sl × Bool × Int) → World → Prop) (l0 : Sl) (o3 : Option Addr) (t5 : Option Addr) (i6 : Int) (blocks12 : Sl) (done13 : Bool) (k14 : Int) (b15 : Option Addr) (w : World) : Prop :=
 NotNil b15 fun p_118 =>
 Ld (Value.int .i64) (some (p_118.add 0)) w fun v_119 =>
 NotNil o3 fun p_120 =>
 Ld (Value.int .i64) (some (p_120.add 3)) w fun v_121 =>
 IfB (!decide (v_119 = v_121)) (
  LdN 49 b15 w fun v_122 =>
  v_122.size = 49 ∧ (
  New v_122 199 w fun a_123 w_43 =>
  Ef Try.prog (Builtin.append_ #[102, 102] 102 #[(Sl.v blocks12), (Sl.v ⟨some a_123, 1, 1⟩)]) Sl.v w_43 fun v_125 w_44 =>
  f63_k9 R ag22 ag31 l0 o3 t5 i6 v_125 done13 k14 w_44)) (
  f63_k9 R ag22 ag31 l0 o3 t5 i6 blocks12 done13 k14 w)
def f63_k11 (R : Value → World → Prop) (ag22 : (Sl × Option Addr × Option Addr × Int × Int × Int) → World → Prop) (ag31 : (Sl × Option Addr × Option Addr × Int × Sl × Bool × Int) → World → Prop) (l0 : Sl) (o3 : Option Addr) (t5 : Option Addr) (i6 : Int) (blocks12 : Sl) (done13 : Bool) (k14 : Int) (b15 : Option Addr) (t268 : Bool) (w : World) : Prop :=
 IfB t268 (
  NotNil o3 fun p_126 =>
  Ld (Value.int .i64) (some (p_126.add 3)) w fun v_127 =>
  NotNil o3 fun p_128 =>
  LdN 48 (some (p_128.add 5)) w fun v_129 =>
  Built #[(0, 1), (1, 48)] Try.z199 [(0, (.int .i64 v_127)), (1, (.agg v_129))] fun c_130 =>
  c_130.size = 49 ∧ (
  New c_130 199 w fun a_131 w_45 =>
  Ef Try.prog (Builtin.append_ #[102, 102] 102 #[(Sl.v blocks12), (Sl.v ⟨some a_131, 1, 1⟩)]) Sl.v w_45 fun v_133 w_46 =>
  f63_k10 R ag22 ag31 l0 o3 t5 i6 v_133 true k14 b15 w_46)) (
  f63_k10 R ag22 ag31 l0 o3 t5 i6 blocks12 done13 k14 b15 w)
def f63_k12 (R : Value → World → Prop) (ag22 : (Sl × Option Addr × Option Addr × Int × Int × Int) → World → Prop) (ag31 : (Sl × Option Addr × Option Addr × Int × Sl × Bool × Int) → World → Prop) (l0 : Sl) (t5 : Option Addr) (i6 : Int) (blocks12 : Sl) (w : World) : Prop :=
 New #[] 104 w fun a_137 w_47 =>
 Ef Try.prog (Builtin.append_ #[100, 100] 100 #[(Sl.v ⟨some a_137, 0, 0⟩), (Sl.v l0)]) Sl.v w_47 fun v_138 w_48 =>
 Ix v_138 i6 fun p_139 =>
 St (some ((p_139.add (i6.toNat * 4)).add 3)) (Sl.v blocks12) w_48 fun w_49 =>
 Built #[(0, 1), (1, 1), (2, 48), (50, 1)] Try.z73 [] fun c_140 =>
 StN 51 t5 c_140 w_49 fun w_50 =>
 LdN 51 t5 w_50 fun r_141 =>
 R (.tuple #[(Sl.v v_138), (.agg r_141)]) w_50
def f63_b8 (R : Value → World → Prop) (ag22 : (Sl × Option Addr × Option Addr × Int × Int × Int) → World → Prop) (ag31 : (Sl × Option Addr × Option Addr × Int × Sl × Bool × Int) → World → Prop) (l0 : Sl) (o3 : Option Addr) (t5 : Option Addr) (i6 : Int) (blocks12 : Sl) (done13 : Bool) (k14 : Int) (w : World) : Prop :=
 Ix l0 i6 fun p_111 =>
 Ld Sl.v (some ((p_111.add (i6.toNat * 4)).add 3)) w fun v_112 =>
 IfB (decide (k14 < (v_112.len : Int))) (
  Ix l0 i6 fun p_113 =>
  Ld Sl.v (some ((p_113.add (i6.toNat * 4)).add 3)) w fun v_114 =>
  Ix v_114 k14 fun p_115 =>
  LdN 49 (some (p_115.add (k14.toNat * 49))) w fun v_116 =>
  New Try.z199 199 w fun a_117 w_41 =>
  StN 49 (some a_117) v_116 w_41 fun w_42 =>
  IfB (!done13) (
   Ld (Value.int .i64) (some (a_117.add 0)) w_42 fun v_134 =>
   NotNil o3 fun p_135 =>
   Ld (Value.int .i64) (some (p_135.add 3)) w_42 fun v_136 =>
   f63_k11 R ag22 ag31 l0 o3 t5 i6 blocks12 done13 k14 (some a_117) (decide (v_136 ≤ v_134)) w_42) (
   f63_k11 R ag22 ag31 l0 o3 t5 i6 blocks12 done13 k14 (some a_117) false w_42)) (
  IfB (!done13) (
   NotNil o3 fun p_142 =>
   Ld (Value.int .i64) (some (p_142.add 3)) w fun v_143 =>
   NotNil o3 fun p_144 =>
   LdN 48 (some (p_144.add 5)) w fun v_145 =>
   Built #[(0, 1), (1, 48)] Try.z199 [(0, (.int .i64 v_143)), (1, (.agg v_145))] fun c_146 =>
   c_146.size = 49 ∧ (
   New c_146 199 w fun a_147 w_51 =>
   Ef Try.prog (Builtin.append_ #[102, 102] 102 #[(Sl.v blocks12), (Sl.v ⟨some a_147, 1, 1⟩)]) Sl.v w_51 fun v_149 w_52 =>
   f63_k12 R ag22 ag31 l0 t5 i6 v_149 w_52)) (
   f63_k12 R ag22 ag31 l0 t5 i6 blocks12 w))
def f63_k7 (R : Value → World → Prop) (ag22 : (Sl × Option Addr × Option Addr × Int × Int × Int) → World → Prop) (l0 : Sl) (o3 : Option Addr) (t5 : Option Addr) (i6 : Int) (t235 : Bool) (w : World) : Prop :=
 IfB t235 (
  Built #[(0, 1), (1, 1), (2, 48), (50, 1)] Try.z73 [(0, (.int .i64 8))] fun c_106 =>
  StN 51 t5 c_106 w fun w_39 =>
  LdN 51 t5 w_39 fun r_107 =>
  R (.tuple #[(Sl.v l0), (.agg r_107)]) w_39) (
  New #[] 199 w fun a_108 w_40 =>
  NotNil o3 fun p_109 =>
  Ld (Value.int .i64) (some (p_109.add 0)) w_40 fun v_110 =>
  Lp (fun ag (s : Sl × Option Addr × Option Addr × Int × Sl × Bool × Int) w => f63_b8 R ag22 ag s.1 s.2.1 s.2.2.1 s.2.2.2.1 s.2.2.2.2.1 s.2.2.2.2.2.1 s.2.2.2.2.2.2 w) (l0, o3, t5, i6, ⟨some a_108, 0, 0⟩, (decide (v_110 = 4)), 0) w_40)
def f63_b5 (R : Value → World → Prop) (ag22 : (Sl × Option Addr × Option Addr × Int × Int × Int) → World → Prop) (l0 : Sl) (o3 : Option Addr) (t5 : Option Addr) (i6 : Int) (had10 : Int) (k11 : Int) (w : World) : Prop :=
 Ix l0 i6 fun p_84 =>
 Ld Sl.v (some ((p_84.add (i6.toNat * 4)).add 3)) w fun v_85 =>
 IfB (decide (k11 < (v_85.len : Int))) (
  Ix l0 i6 fun p_86 =>
  Ld Sl.v (some ((p_86.add (i6.toNat * 4)).add 3)) (World.drew w) fun v_87 =>
  Ix v_87 k11 fun p_88 =>
  Ld (Value.int .i64) (some ((p_88.add (k11.toNat * 49)).add 0)) (World.drew w) fun v_89 =>
  NotNil o3 fun p_90 =>
  Ld (Value.int .i64) (some (p_90.add 3)) (World.drew w) fun v_91 =>
  IfB (decide (v_89 = v_91)) (
   f63_k6 R ag22 l0 o3 t5 i6 k11 k11 (World.drew w)) (
   f63_k6 R ag22 l0 o3 t5 i6 had10 k11 (World.drew w))) (
  NotNil o3 fun p_92 =>
  Ld (Value.int .i64) (some (p_92.add 0)) w fun v_93 =>
  IfB (decide (v_93 = 5)) (
   IfB (decide (had10 < 0)) (
    Built #[(0, 1), (1, 1), (2, 48), (50, 1)] Try.z73 [] fun c_94 =>
    StN 51 t5 c_94 w fun w_35 =>
    LdN 51 t5 w_35 fun r_95 =>
    R (.tuple #[(Sl.v l0), (.agg r_95)]) w_35) (
    Ix l0 i6 fun p_96 =>
    Ld Sl.v (some ((p_96.add (i6.toNat * 4)).add 3)) (World.drew w) fun v_97 =>
    Ix v_97 had10 fun p_98 =>
    LdN 48 (some ((p_98.add (had10.toNat * 49)).add 1)) (World.drew w) fun v_99 =>
    Built #[(0, 1), (1, 1), (2, 48), (50, 1)] Try.z73 [(1, (.bool true)), (2, (.agg v_99))] fun c_100 =>
    StN 51 t5 c_100 (World.drew w) fun w_37 =>
    LdN 51 t5 w_37 fun r_101 =>
    R (.tuple #[(Sl.v l0), (.agg r_101)]) w_37)) (
   Ix l0 i6 fun p_102 =>
   Ld Value.bool (some ((p_102.add (i6.toNat * 4)).add 2)) w fun v_103 =>
   IfB v_103 (
    Built #[(0, 1), (1, 1), (2, 48), (50, 1)] Try.z73 [(0, (.int .i64 10))] fun c_104 =>
    StN 51 t5 c_104 w fun w_38 =>
    LdN 51 t5 w_38 fun r_105 =>
    R (.tuple #[(Sl.v l0), (.agg r_105)]) w_38) (
    NotNil o3 fun p_150 =>
    Ld (Value.int .i64) (some (p_150.add 0)) (World.drew w) fun v_151 =>
    IfB (decide (v_151 = 3)) (
     IfB (decide (had10 < 0)) (
      Ix l0 i6 fun p_152 =>
      Ld Sl.v (some ((p_152.add (i6.toNat * 4)).add 3)) (World.drew w) fun v_153 =>
      Ix l0 i6 fun p_154 =>
      Ld (Value.int .i64) (some ((p_154.add (i6.toNat * 4)).add 1)) (World.drew w) fun v_155 =>
      f63_k7 R ag22 l0 o3 t5 i6 (decide (v_155 ≤ (v_153.len : Int))) (World.drew w)) (
      f63_k7 R ag22 l0 o3 t5 i6 false (World.drew w))) (
     f63_k7 R ag22 l0 o3 t5 i6 false (World.drew w)))))
def f63_k4 (R : Value → World → Prop) (l0 : Sl) (o3 : Option Addr) (t5 : Option Addr) (i6 : Int) (t164 : Bool) (w : World) : Prop :=
 IfB t164 (
  Built #[(0, 1), (1, 1), (2, 48), (50, 1)] Try.z73 [(0, (.int .i64 2))] fun c_82 =>
  StN 51 t5 c_82 w fun w_33 =>
  LdN 51 t5 w_33 fun r_83 =>
  R (.tuple #[(Sl.v l0), (.agg r_83)]) w_33) (
  Lp (fun ag (s : Sl × Option Addr × Option Addr × Int × Int × Int) w => f63_b5 R ag s.1 s.2.1 s.2.2.1 s.2.2.2.1 s.2.2.2.2.1 s.2.2.2.2.2 w) (l0, o3, t5, i6, (-1), 0) w)
def f63_k3 (R : Value → World → Prop) (l0 : Sl) (o3 : Option Addr) (t5 : Option Addr) (i6 : Int) (t136 : Bool) (w : World) : Prop :=
 IfB t136 (
  Built #[(0, 1), (1, 1), (2, 48), (50, 1)] Try.z73 [(0, (.int .i64 1))] fun c_69 =>
  StN 51 t5 c_69 w fun w_26 =>
  LdN 51 t5 w_26 fun r_70 =>
  R (.tuple #[(Sl.v l0), (.agg r_70)]) w_26) (
  IfB (decide (i6 < 0)) (
   Built #[(0, 1), (1, 1), (2, 48), (50, 1)] Try.z73 [(0, (.int .i64 5))] fun c_71 =>
   StN 51 t5 c_71 w fun w_27 =>
   LdN 51 t5 w_27 fun r_72 =>
   R (.tuple #[(Sl.v l0), (.agg r_72)]) w_27) (
   NotNil o3 fun p_73 =>
   Ld (Value.int .i64) (some (p_73.add 0)) w fun v_74 =>
   IfB (decide (v_74 = 2)) (
    Cut l0 4 none (some i6) none fun s_75 =>
    Cut l0 4 (some (IntKind.i64.wrap (i6 + 1))) none none fun s_76 =>
    Built #[(0, 1), (1, 1), (2, 48), (50, 1)] Try.z73 [] fun c_77 =>
    New #[] 104 (World.drew w) fun a_78 w_29 =>
    Ef Try.prog (Builtin.append_ #[100, 100] 100 #[(Sl.v ⟨some a_78, 0, 0⟩), (Sl.v s_75)]) Sl.v w_29 fun v_79 w_30 =>
    Ef Try.prog (Builtin.append_ #[100, 100] 100 #[(Sl.v v_79), (Sl.v s_76)]) Sl.v w_30 fun v_80 w_31 =>
    StN 51 t5 c_77 w_31 fun w_32 =>
    LdN 51 t5 w_32 fun r_81 =>
    R (.tuple #[(Sl.v v_80), (.agg r_81)]) w_32) (
    NotNil o3 fun p_156 =>
    Ld (Value.int .i64) (some (p_156.add 3)) w fun v_157 =>
    IfB (decide (v_157 < 0)) (
     f63_k4 R l0 o3 t5 i6 true w) (
     NotNil o3 fun p_158 =>
     Ld (Value.int .i64) (some (p_158.add 3)) w fun v_159 =>
     f63_k4 R l0 o3 t5 i6 (decide (1048576 ≤ v_159)) w))))
def f63_k1 (R : Value → World → Prop) (l0 : Sl) (o3 : Option Addr) (t5 : Option Addr) (i6 : Int) (t73 : Bool) (w : World) : Prop :=
 IfB t73 (
  NotNil o3 fun p_34 =>
  Ld (Value.int .i64) (some (p_34.add 4)) w fun v_35 =>
  NotNil o3 fun p_65 =>
  Ld (Value.int .i64) (some (p_65.add 0)) w fun v_66 =>
  IfB (decide (v_66 = 6)) (
   IfB (decide (0 ≤ i6)) (
    Ix l0 i6 fun p_67 =>
    Ld (Value.int .i64) (some ((p_67.add (i6.toNat * 4)).add 1)) w fun v_68 =>
    f63_k2 R l0 o3 t5 i6 v_68 w) (
    f63_k2 R l0 o3 t5 i6 0 w)) (
   f63_k2 R l0 o3 t5 i6 v_35 w)) (
  NotNil o3 fun p_160 =>
  Ld (Value.int .i64) (some (p_160.add 0)) w fun v_161 =>
  IfB (decide (v_161 < 1)) (
   f63_k3 R l0 o3 t5 i6 true w) (
   NotNil o3 fun p_162 =>
   Ld (Value.int .i64) (some (p_162.add 0)) w fun v_163 =>
   f63_k3 R l0 o3 t5 i6 (decide (8 < v_163)) w))
def f63 (R : Value → World → Prop) (l0 : Sl) (o1 : Array Value) (w : World) : Prop :=
 New o1 67 w fun a_1 w_1 =>
 New Try.z73 73 w_1 fun a_2 w_2 =>
 Ld Value.string (some (a_1.add 1)) w_2 fun v_3 =>
 CallF Try.prog 51 #[(Sl.v l0), (.string v_3)] w_2 fun u_4 w_3 => As (Value.int .i64) u_4 fun v_5 =>
 Ld (Value.int .i64) (some (a_1.add 0)) w_3 fun v_6 =>
 IfB (decide (v_6 = 1)) (
  Ld Value.string (some (a_1.add 1)) w_3 fun v_7 =>
  Ld (Value.int .i64) (some (a_1.add 4)) w_3 fun v_8 =>
  CallF Try.prog 127 #[(.string v_7), (.int .i64 v_8)] w_3 fun u_9 w_4 => As Value.bool u_9 fun v_10 =>
  IfB (!v_10) (
   Built #[(0, 1), (1, 1), (2, 48), (50, 1)] Try.z73 [(0, (.int .i64 1))] fun c_11 =>
   StN 51 (some a_2) c_11 w_4 fun w_5 =>
   LdN 51 (some a_2) w_5 fun r_12 =>
   R (.tuple #[(Sl.v l0), (.agg r_12)]) w_5) (
   IfB (decide (0 ≤ v_5)) (
    Built #[(0, 1), (1, 1), (2, 48), (50, 1)] Try.z73 [(0, (.int .i64 6))] fun c_13 =>
    StN 51 (some a_2) c_13 w_4 fun w_6 =>
    LdN 51 (some a_2) w_6 fun r_14 =>
    R (.tuple #[(Sl.v l0), (.agg r_14)]) w_6) (
    Ld Value.string (some (a_1.add 1)) w_4 fun v_15 =>
    Ld (Value.int .i64) (some (a_1.add 4)) w_4 fun v_16 =>
    Built #[(0, 1), (1, 1), (2, 1), (3, 1)] #[(.string (ByteArray.mk #[])), (.int .i64 0), (.bool false), (Sl.v Sl.nil)] [(0, (.string v_15)), (1, (.int .i64 v_16))] fun c_17 =>
    CallF Try.prog 128 #[(Sl.v l0), (.agg c_17)] w_4 fun u_18 w_7 => As Sl.v u_18 fun v_19 =>
    Built #[(0, 1), (1, 1), (2, 48), (50, 1)] Try.z73 [] fun c_20 =>
    StN 51 (some a_2) c_20 w_7 fun w_8 =>
    LdN 51 (some a_2) w_8 fun r_21 =>
    R (.tuple #[(Sl.v v_19), (.agg r_21)]) w_8))) (
  Ld (Value.int .i64) (some (a_1.add 0)) w_3 fun v_22 =>
  IfB (decide (v_22 = 8)) (
   Built #[(0, 1), (1, 1), (2, 48), (50, 1)] Try.z73 [] fun c_23 =>
   New Try.z73 73 w_3 fun a_24 w_9 =>
   StN 51 (some a_24) c_23 w_9 fun w_10 =>
   Lp (fun ag (s : Sl × Option Addr × Option Addr × Int) w => f63_b0 R ag s.1 s.2.1 s.2.2.1 s.2.2.2 w) (l0, (some a_2), (some a_24), 0) w_10) (
   Ld (Value.int .i64) (some (a_1.add 0)) w_3 fun v_164 =>
   IfB (decide (v_164 = 6)) (
    f63_k1 R l0 (some a_1) (some a_2) v_5 true w_3) (
    Ld (Value.int .i64) (some (a_1.add 0)) w_3 fun v_165 =>
    f63_k1 R l0 (some a_1) (some a_2) v_5 (decide (v_165 = 7)) w_3)))
theorem f63_ok (R : Value → World → Prop) (l0 : Sl) (o1 : Array Value) (w : World) (H : f63 R l0 o1 w) : CallF Try.prog 63 #[(Sl.v l0), (.agg o1)] w R := by
 refine calls_of_runs (fn := Try.f63) Try.func63 rfl (Nat.le_of_ble_eq_true rfl) ?_
 show Runs _ _ 306 _ _ _ _
 unfold f63 at H
 refine ru2 0 (Sl.v l0) 1 (.agg o1) rfl rfl ?_
 refine sr ?_
 refine xo_eff rfl (wo rfl) (e_box (v := (.agg o1)) rfl rfl H) ?_
 rintro _ w_1 ⟨a_1, rfl, H⟩
 refine xs (Sl.v Sl.nil) rfl rfl ?_
 refine xo_eff rfl (wo rfl) (e_alloc rfl Try.ti73 H) ?_
 rintro _ w_2 ⟨a_2, rfl, H⟩
 refine xe ?_
 refine sr ?_
 refine xm (Sl.v l0) rfl rfl ?_
 refine xp _ rfl (p_fieldAddr (off := 1) (ft := 9) (size := 1) rfl u67 rfl Try.ti9 (by decide) rfl rfl) ?_
 obtain ⟨adv_3, v_3, hev_3, hcv_3, H⟩ := H
 refine xr (.string v_3) rfl (wo rfl) rfl u9 rfl rfl hev_3 hcv_3 ?_
 refine xo_eff rfl (wo rfl) (e_call (fn := Try.f51) H rfl rfl Try.func51 rfl rfl rfl) ?_
 rintro _ w_3 ⟨v_5, rfl, H⟩
 refine xs (I v_5) rfl rfl ?_
 refine xe ?_
 refine r_seq ?_
 refine sr ?_
 refine xp _ rfl (p_fieldAddr (off := 0) (ft := 3) (size := 1) rfl u67 rfl Try.ti3 (by decide) rfl rfl) ?_
 obtain ⟨adv_6, v_6, hev_6, hcv_6, H⟩ := H
 refine xr (I v_6) rfl (wo rfl) rfl u3 rfl rfl hev_6 hcv_6 ?_
 refine xp _ rfl (p_eq rfl rfl rfl) ?_
 refine xe ?_
 refine r_condB (b := (decide (v_6 = 1))) rfl H ?_ ?_
 ·clear H; intro hb1 H
  refine r_seq ?_
  refine sr ?_
  refine xp _ rfl (p_fieldAddr (off := 1) (ft := 9) (size := 1) rfl u67 rfl Try.ti9 (by decide) rfl rfl) ?_
  obtain ⟨adv_7, v_7, hev_7, hcv_7, H⟩ := H
  refine xr (.string v_7) rfl (wo rfl) rfl u9 rfl rfl hev_7 hcv_7 ?_
  refine xp _ rfl (p_fieldAddr (off := 4) (ft := 3) (size := 1) rfl u67 rfl Try.ti3 (by decide) rfl rfl) ?_
  obtain ⟨adv_8, v_8, hev_8, hcv_8, H⟩ := H
  refine xr (I v_8) rfl (wo rfl) rfl u3 rfl rfl hev_8 hcv_8 ?_
  refine xo_eff rfl (wo rfl) (e_call (fn := Try.f127) H rfl rfl Try.func127 rfl rfl rfl) ?_
  rintro _ w_4 ⟨v_10, rfl, H⟩
  refine xp (.bool (!v_10)) rfl (p_not rfl rfl) ?_
  refine xe ?_
  refine r_condB (b := (!v_10)) rfl H ?_ ?_
  ·clear H; intro hb2 H
   refine sr ?_
   refine xm (Sl.v l0) rfl rfl ?_
   obtain ⟨c_11, hflc_11, H⟩ := H
   refine xp (.agg c_11) rfl (p_buildS (places := #[(0, 1), (1, 1), (2, 48), (50, 1)]) rfl Try.pl73 Try.ti73 hflc_11 rfl) ?_
   refine xs (Sl.v l0) rfl rfl ?_
   refine xo_effN rfl (wo rfl) (e_storeN rfl Try.ti73 rfl rfl H) ?_
   intro _ w_5 H
   refine xe ?_
   obtain ⟨adr_12, r_12, her_12, hnr_12, hrr_12, H⟩ := H
   exact r_ret (fn := Try.f63) Try.func63 (res_2 rfl ⟨by decide, rfl⟩ (resV_cellN (by decide) (by show Value.pointer _ = _; rw [her_12]) u73 rfl Try.ti73 hnr_12 hrr_12)) H
  ·clear H; intro hb2 H
   refine r_skip ?_
   refine r_seq ?_
   refine sr ?_
   refine xm (I v_5) rfl rfl ?_
   refine xp _ rfl (p_ge rfl rfl rfl) ?_
   refine xe ?_
   refine r_condB (b := (decide (0 ≤ v_5))) rfl H ?_ ?_
   ·clear H; intro hb3 H
    refine sr ?_
    refine xm (Sl.v l0) rfl rfl ?_
    obtain ⟨c_13, hflc_13, H⟩ := H
    refine xp (.agg c_13) rfl (p_buildS (places := #[(0, 1), (1, 1), (2, 48), (50, 1)]) rfl Try.pl73 Try.ti73 hflc_13 rfl) ?_
    refine xs (Sl.v l0) rfl rfl ?_
    refine xo_effN rfl (wo rfl) (e_storeN rfl Try.ti73 rfl rfl H) ?_
    intro _ w_6 H
    refine xe ?_
    obtain ⟨adr_14, r_14, her_14, hnr_14, hrr_14, H⟩ := H
    exact r_ret (fn := Try.f63) Try.func63 (res_2 rfl ⟨by decide, rfl⟩ (resV_cellN (by decide) (by show Value.pointer _ = _; rw [her_14]) u73 rfl Try.ti73 hnr_14 hrr_14)) H
   ·clear H; intro hb3 H
    refine r_skip ?_
    refine sr ?_
    refine xm (Sl.v l0) rfl rfl ?_
    refine xp _ rfl (p_fieldAddr (off := 1) (ft := 9) (size := 1) rfl u67 rfl Try.ti9 (by decide) rfl rfl) ?_
    obtain ⟨adv_15, v_15, hev_15, hcv_15, H⟩ := H
    refine xr (.string v_15) rfl (wo rfl) rfl u9 rfl rfl hev_15 hcv_15 ?_
    refine xp _ rfl (p_fieldAddr (off := 4) (ft := 3) (size := 1) rfl u67 rfl Try.ti3 (by decide) rfl rfl) ?_
    obtain ⟨adv_16, v_16, hev_16, hcv_16, H⟩ := H
    refine xr (I v_16) rfl (wo rfl) rfl u3 rfl rfl hev_16 hcv_16 ?_
    obtain ⟨c_17, hflc_17, H⟩ := H
    refine xp (.agg c_17) rfl (p_buildS (places := #[(0, 1), (1, 1), (2, 1), (3, 1)]) rfl Try.pl104 Try.ti104 hflc_17 rfl) ?_
    refine xo_eff rfl (wo rfl) (e_call (fn := Try.f128) H rfl rfl Try.func128 rfl rfl rfl) ?_
    rintro _ w_7 ⟨v_19, rfl, H⟩
    obtain ⟨c_20, hflc_20, H⟩ := H
    refine xp (.agg c_20) rfl (p_buildS (places := #[(0, 1), (1, 1), (2, 48), (50, 1)]) rfl Try.pl73 Try.ti73 hflc_20 rfl) ?_
    refine xs (Sl.v v_19) rfl rfl ?_
    refine xo_effN rfl (wo rfl) (e_storeN rfl Try.ti73 rfl rfl H) ?_
    intro _ w_8 H
    refine xe ?_
    obtain ⟨adr_21, r_21, her_21, hnr_21, hrr_21, H⟩ := H
    exact r_ret (fn := Try.f63) Try.func63 (res_2 rfl ⟨by decide, rfl⟩ (resV_cellN (by decide) (by show Value.pointer _ = _; rw [her_21]) u73 rfl Try.ti73 hnr_21 hrr_21)) H
 ·clear H; intro hb1 H
  refine r_skip ?_
  refine r_seq ?_
  refine sr ?_
  refine xp _ rfl (p_fieldAddr (off := 0) (ft := 3) (size := 1) rfl u67 rfl Try.ti3 (by decide) rfl rfl) ?_
  obtain ⟨adv_22, v_22, hev_22, hcv_22, H⟩ := H
  refine xr (I v_22) rfl (wo rfl) rfl u3 rfl rfl hev_22 hcv_22 ?_
  refine xp _ rfl (p_eq rfl rfl rfl) ?_
  refine xe ?_
  refine r_condB (b := (decide (v_22 = 8))) rfl H ?_ ?_
  ·clear H; intro hb4 H
   refine sr ?_
   obtain ⟨c_23, hflc_23, H⟩ := H
   refine xp (.agg c_23) rfl (p_buildS (places := #[(0, 1), (1, 1), (2, 48), (50, 1)]) rfl Try.pl73 Try.ti73 hflc_23 rfl) ?_
   refine xo_eff rfl (wo rfl) (e_alloc rfl Try.ti73 H) ?_
   rintro _ w_9 ⟨a_24, rfl, H⟩
   refine xo_effN rfl (wo rfl) (e_storeN rfl Try.ti73 rfl rfl H) ?_
   intro _ w_10 H
   refine xe ?_
   refine r_seq ?_
   refine sr ?_
   refine xs (I 0) rfl rfl ?_
   refine xe ?_
   refine r_block ?_
   refine ru4 0 (Sl.v l0) 5 (.pointer (some a_2)) 7 (.pointer (some a_24)) 8 (I 0) rfl rfl rfl rfl ?_
   refine r_loopJ (fun (s : Sl × Option Addr × Option Addr × Int) σ => upd 8 (I s.2.2.2) (upd 7 (.pointer s.2.2.1) (upd 5 (.pointer s.2.1) (upd 0 (Sl.v s.1) (σ))))) (s := (l0, (some a_2), (some a_24), 0)) H ?_
   clear H
   rintro ag5 ⟨l0, t5, a7, k8⟩ σ w H hag5
   replace H : f63_b0 R ag5 l0 t5 a7 k8 w := H
   try dsimp only
   unfold f63_b0 at H
   refine r_seq ?_
   refine sr ?_
   refine xm (I k8) rfl rfl ?_
   refine xm (Sl.v l0) rfl rfl ?_
   refine xp (I (l0.len : Int)) rfl (p_len rfl u100 rfl) ?_
   refine xp _ rfl (p_lt rfl rfl rfl) ?_
   refine xe ?_
   refine r_condB (b := (decide (k8 < (l0.len : Int)))) rfl H ?_ ?_
   ·clear H; intro hb6 H
    refine r_skip ?_
    refine sb ?_
    refine r_draw #[[], [0], [], [], [2, 3], [2, 3, 4], [2, 3, 4, 5], [2, 3, 4, 5, 6], [0, 1, 2, 3, 4, 5, 6, 7], [0, 1, 2, 3, 4, 5, 6, 7, 8], [0, 1, 2, 3, 4, 5, 6, 7, 8, 9]] 11 rfl rfl ?_
    obtain ⟨p_25, hpp_25, H⟩ := H
    refine ap 0 _ rfl rfl (p_fieldAddr (off := 50) (ft := 71) (size := 1) rfl u73 rfl Try.ti71 (by decide) rfl hpp_25) ?_
    obtain ⟨adv_26, v_26, hev_26, hcv_26, H⟩ := H
    refine ar 1 (Sl.v v_26) rfl rfl (wo rfl) rfl u71 rfl rfl hev_26 hcv_26 ?_
    refine am 2 (Sl.v l0) rfl rfl rfl ?_
    refine am 3 (I k8) rfl rfl rfl ?_
    obtain ⟨p_27, hap_27, hlp_27, hup_27, H⟩ := H
    refine ap 4 _ rfl rfl (p_indexAddr (s := l0) (ad := p_27) (size := 4) rfl u100 Try.ti104 rfl rfl hap_27 hlp_27 hup_27) ?_
    refine ap 5 _ rfl rfl (p_fieldAddr (off := 0) (ft := 9) (size := 1) rfl u104 rfl Try.ti9 (by decide) rfl rfl) ?_
    obtain ⟨adv_28, v_28, hev_28, hcv_28, H⟩ := H
    refine ar 6 (.string v_28) rfl rfl (wo rfl) rfl u9 rfl rfl hev_28 hcv_28 ?_
    refine ae 7 [(1, (fun w => w.cell? adv_26 = some (Sl.v v_26)))] rfl rfl rfl (wo rfl) (e_buildRow H rfl u71 Try.ti9 (by decide) (by decide) rfl rfl (by simp [Value.oneCell', Sl.v])) ?_
    rintro _ w_12 ⟨a_29, rfl, H⟩
    obtain ⟨hk7_1, H⟩ := H
    refine ⟨(.cons hk7_1 AllHeld.nil), ?_⟩
    refine ae 8 [] rfl rfl rfl (wo rfl) (e_app H rfl rfl rfl) ?_
    rintro _ w_13 ⟨v_30, rfl, H⟩
    refine ⟨AllHeld.nil, ?_⟩
    obtain ⟨p_31, hpp_31, H⟩ := H
    refine ap 9 _ rfl rfl (p_fieldAddr (off := 50) (ft := 71) (size := 1) rfl u73 rfl Try.ti71 (by decide) rfl hpp_31) ?_
    refine an 10 rfl rfl rfl (wo rfl) (e_store rfl Try.ti71 rfl rfl rfl H) fun _ w_14 H => ?_
    refine ax ?_
    refine r_inBlock ?_
    refine r_region ?_
    refine xm (I k8) rfl rfl ?_
    refine xp _ rfl (p_add rfl rfl rfl) ?_
    refine xs (I (W (k8 + 1))) rfl rfl ?_
    refine xe ?_
    refine ru4 0 (Sl.v l0) 5 (.pointer t5) 7 (.pointer a7) 8 (I (W (k8 + 1))) rfl rfl rfl rfl ?_
    exact hag5 (l0, t5, a7, (W (k8 + 1))) _ _ H
   ·clear H; intro hb6 H
    refine r_exit rfl ?_
    refine r_seq ?_
    refine r_draw #[[], [], [0], [0, 1, 2]] 4 rfl rfl ?_
    refine am 0 (Sl.v l0) rfl rfl rfl ?_
    obtain ⟨adv_32, v_32, hev_32, hnv_32, hcv_32, H⟩ := H
    refine xa_read (v := (.agg v_32)) (S := (fun w => Row w adv_32 v_32)) 1 (by decide +kernel) rfl rfl (wo rfl) (fun w hc => rd_loadN (ad := adv_32) rfl u73 rfl Try.ti73 (by show Value.pointer _ = _; rw [hev_32]) hnv_32 hc) hcv_32 ?_
    refine as_ 2 (Sl.v l0) rfl rfl rfl ?_
    refine an 3 rfl rfl rfl (wo rfl) (e_storeN rfl Try.ti73 rfl rfl H) fun _ w_16 H => ?_
    refine ax ?_
    obtain ⟨adr_33, r_33, her_33, hnr_33, hrr_33, H⟩ := H
    exact r_ret (fn := Try.f63) Try.func63 (res_2 rfl ⟨by decide, rfl⟩ (resV_cellN (by decide) (by show Value.pointer _ = _; rw [her_33]) u73 rfl Try.ti73 hnr_33 hrr_33)) H
  ·clear H; intro hb4 H
   refine r_skip ?_
   refine r_seq ?_
   refine r_seq ?_
   refine r_topJ (fun (s : Sl × Option Addr × Option Addr × Int × Bool) σ => upd 73 (.bool s.2.2.2.2) (upd 6 (I s.2.2.2.1) (upd 5 (.pointer s.2.2.1) (upd 3 (.pointer s.2.1) (upd 0 (Sl.v s.1) (σ)))))) (fun (s : Sl × Option Addr × Option Addr × Int × Bool) w => f63_k1 R s.1 s.2.1 s.2.2.1 s.2.2.2.1 s.2.2.2.2 w) ?_ ?_
   ·rintro ⟨l0, o3, t5, i6, t73⟩ σ w H
    replace H : f63_k1 R l0 o3 t5 i6 t73 w := H
    try dsimp only
    unfold f63_k1 at H
    refine r_condB (b := t73) rfl H ?_ ?_
    ·clear H; intro hb8 H
     refine sr ?_
     obtain ⟨p_34, hpp_34, H⟩ := H
     refine xp _ rfl (p_fieldAddr (off := 4) (ft := 3) (size := 1) rfl u67 rfl Try.ti3 (by decide) rfl hpp_34) ?_
     obtain ⟨adv_35, v_35, hev_35, hcv_35, H⟩ := H
     refine xr (I v_35) rfl (wo rfl) rfl u3 rfl rfl hev_35 hcv_35 ?_
     refine xs (I v_35) rfl rfl ?_
     refine xe ?_
     refine r_seqJ (fun (s : Sl × Option Addr × Option Addr × Int × Int) σ => upd 9 (I s.2.2.2.2) (upd 6 (I s.2.2.2.1) (upd 5 (.pointer s.2.2.1) (upd 3 (.pointer s.2.1) (upd 0 (Sl.v s.1) (σ)))))) (fun (s : Sl × Option Addr × Option Addr × Int × Int) w => f63_k2 R s.1 s.2.1 s.2.2.1 s.2.2.2.1 s.2.2.2.2 w) ?_ ?_
     ·rintro ⟨l0, o3, t5, i6, q9⟩ σ w H
      replace H : f63_k2 R l0 o3 t5 i6 q9 w := H
      try dsimp only
      unfold f63_k2 at H
      refine r_seq ?_
      refine sr ?_
      obtain ⟨p_36, hpp_36, H⟩ := H
      refine xp _ rfl (p_fieldAddr (off := 2) (ft := 9) (size := 1) rfl u67 rfl Try.ti9 (by decide) rfl hpp_36) ?_
      obtain ⟨adv_37, v_37, hev_37, hcv_37, H⟩ := H
      refine xr (.string v_37) rfl (wo rfl) rfl u9 rfl rfl hev_37 hcv_37 ?_
      refine xm (I q9) rfl rfl ?_
      refine xo_eff rfl (wo rfl) (e_call (fn := Try.f127) H rfl rfl Try.func127 rfl rfl rfl) ?_
      rintro _ w_17 ⟨v_39, rfl, H⟩
      refine xp (.bool (!v_39)) rfl (p_not rfl rfl) ?_
      refine xe ?_
      refine r_condB (b := (!v_39)) rfl H ?_ ?_
      ·clear H; intro hb10 H
       refine sr ?_
       refine xm (Sl.v l0) rfl rfl ?_
       obtain ⟨c_40, hflc_40, H⟩ := H
       refine xp (.agg c_40) rfl (p_buildS (places := #[(0, 1), (1, 1), (2, 48), (50, 1)]) rfl Try.pl73 Try.ti73 hflc_40 rfl) ?_
       refine xs (Sl.v l0) rfl rfl ?_
       refine xo_effN rfl (wo rfl) (e_storeN rfl Try.ti73 rfl rfl H) ?_
       intro _ w_18 H
       refine xe ?_
       obtain ⟨adr_41, r_41, her_41, hnr_41, hrr_41, H⟩ := H
       exact r_ret (fn := Try.f63) Try.func63 (res_2 rfl ⟨by decide, rfl⟩ (resV_cellN (by decide) (by show Value.pointer _ = _; rw [her_41]) u73 rfl Try.ti73 hnr_41 hrr_41)) H
      ·clear H; intro hb10 H
       refine r_skip ?_
       refine r_seq ?_
       refine sr ?_
       refine xm (I i6) rfl rfl ?_
       refine xp _ rfl (p_lt rfl rfl rfl) ?_
       refine xe ?_
       refine r_condB (b := (decide (i6 < 0))) rfl H ?_ ?_
       ·clear H; intro hb11 H
        refine sr ?_
        refine xm (Sl.v l0) rfl rfl ?_
        obtain ⟨c_42, hflc_42, H⟩ := H
        refine xp (.agg c_42) rfl (p_buildS (places := #[(0, 1), (1, 1), (2, 48), (50, 1)]) rfl Try.pl73 Try.ti73 hflc_42 rfl) ?_
        refine xs (Sl.v l0) rfl rfl ?_
        refine xo_effN rfl (wo rfl) (e_storeN rfl Try.ti73 rfl rfl H) ?_
        intro _ w_19 H
        refine xe ?_
        obtain ⟨adr_43, r_43, her_43, hnr_43, hrr_43, H⟩ := H
        exact r_ret (fn := Try.f63) Try.func63 (res_2 rfl ⟨by decide, rfl⟩ (resV_cellN (by decide) (by show Value.pointer _ = _; rw [her_43]) u73 rfl Try.ti73 hnr_43 hrr_43)) H
       ·clear H; intro hb11 H
        refine r_skip ?_
        refine r_seq ?_
        refine sr ?_
        refine xm (Sl.v l0) rfl rfl ?_
        obtain ⟨p_44, hpp_44, H⟩ := H
        refine xp _ rfl (p_fieldAddr (off := 2) (ft := 9) (size := 1) rfl u67 rfl Try.ti9 (by decide) rfl hpp_44) ?_
        obtain ⟨adv_45, v_45, hev_45, hcv_45, H⟩ := H
        refine xr (.string v_45) rfl (wo rfl) rfl u9 rfl rfl hev_45 hcv_45 ?_
        refine xo_eff rfl (wo rfl) (e_call (fn := Try.f51) H rfl rfl Try.func51 rfl rfl rfl) ?_
        rintro _ w_20 ⟨v_47, rfl, H⟩
        refine xp _ rfl (p_ge rfl rfl rfl) ?_
        refine xe ?_
        refine r_condB (b := (decide (0 ≤ v_47))) rfl H ?_ ?_
        ·clear H; intro hb12 H
         refine sr ?_
         refine xm (Sl.v l0) rfl rfl ?_
         obtain ⟨c_48, hflc_48, H⟩ := H
         refine xp (.agg c_48) rfl (p_buildS (places := #[(0, 1), (1, 1), (2, 48), (50, 1)]) rfl Try.pl73 Try.ti73 hflc_48 rfl) ?_
         refine xs (Sl.v l0) rfl rfl ?_
         refine xo_effN rfl (wo rfl) (e_storeN rfl Try.ti73 rfl rfl H) ?_
         intro _ w_21 H
         refine xe ?_
         obtain ⟨adr_49, r_49, her_49, hnr_49, hrr_49, H⟩ := H
         exact r_ret (fn := Try.f63) Try.func63 (res_2 rfl ⟨by decide, rfl⟩ (resV_cellN (by decide) (by show Value.pointer _ = _; rw [her_49]) u73 rfl Try.ti73 hnr_49 hrr_49)) H
        ·clear H; intro hb12 H
         refine r_skip ?_
         refine r_seq ?_
         refine sr ?_
         refine xm (Sl.v l0) rfl rfl ?_
         refine xm (I i6) rfl rfl ?_
         obtain ⟨p_50, hap_50, hlp_50, hup_50, H⟩ := H
         refine xp _ rfl (p_indexAddr (s := l0) (ad := p_50) (size := 4) rfl u100 Try.ti104 rfl rfl hap_50 hlp_50 hup_50) ?_
         refine xp _ rfl (p_fieldAddr (off := 3) (ft := 102) (size := 1) rfl u104 rfl Try.ti102 (by decide) rfl rfl) ?_
         obtain ⟨adv_51, v_51, hev_51, hcv_51, H⟩ := H
         refine xr (Sl.v v_51) rfl (wo rfl) rfl u102 rfl rfl hev_51 hcv_51 ?_
         refine xp (I (v_51.len : Int)) rfl (p_len rfl u102 rfl) ?_
         refine xm (I q9) rfl rfl ?_
         refine xp _ rfl (p_gt rfl rfl rfl) ?_
         refine xe ?_
         refine r_condB (b := (decide (q9 < (v_51.len : Int)))) rfl H ?_ ?_
         ·clear H; intro hb13 H
          refine sr ?_
          refine xm (Sl.v l0) rfl rfl ?_
          obtain ⟨c_52, hflc_52, H⟩ := H
          refine xp (.agg c_52) rfl (p_buildS (places := #[(0, 1), (1, 1), (2, 48), (50, 1)]) rfl Try.pl73 Try.ti73 hflc_52 rfl) ?_
          refine xs (Sl.v l0) rfl rfl ?_
          refine xo_effN rfl (wo rfl) (e_storeN rfl Try.ti73 rfl rfl H) ?_
          intro _ w_22 H
          refine xe ?_
          obtain ⟨adr_53, r_53, her_53, hnr_53, hrr_53, H⟩ := H
          exact r_ret (fn := Try.f63) Try.func63 (res_2 rfl ⟨by decide, rfl⟩ (resV_cellN (by decide) (by show Value.pointer _ = _; rw [her_53]) u73 rfl Try.ti73 hnr_53 hrr_53)) H
         ·clear H; intro hb13 H
          refine r_skip ?_
          refine r_seq ?_
          refine r_draw #[[], [], [1], [], [], [4], [4, 5], [], [], [7, 8], [7, 8, 9], [7, 8, 9, 10], [1, 2, 3, 4, 5, 6, 7, 8, 9, 10, 11], [0, 1, 2, 3, 4, 5, 6, 7, 8, 9, 10, 11, 12], [], [0, 1, 2, 3, 4, 5, 6, 7, 8, 9, 10, 11, 12, 13], [0, 1, 2, 3, 4, 5, 6, 7, 8, 9, 10, 11, 12, 13, 14, 15]] 17 rfl rfl ?_
          refine am 0 (Sl.v l0) rfl rfl rfl ?_
          obtain ⟨p_54, hpp_54, H⟩ := H
          refine ap 1 _ rfl rfl (p_fieldAddr (off := 2) (ft := 9) (size := 1) rfl u67 rfl Try.ti9 (by decide) rfl hpp_54) ?_
          obtain ⟨adv_55, v_55, hev_55, hcv_55, H⟩ := H
          refine ar 2 (.string v_55) rfl rfl (wo rfl) rfl u9 rfl rfl hev_55 hcv_55 ?_
          refine am 3 (I q9) rfl rfl rfl ?_
          obtain ⟨p_56, hpp_56, H⟩ := H
          refine ap 4 _ rfl rfl (p_fieldAddr (off := 0) (ft := 3) (size := 1) rfl u67 rfl Try.ti3 (by decide) rfl hpp_56) ?_
          obtain ⟨adv_57, v_57, hev_57, hcv_57, H⟩ := H
          refine ar 5 (I v_57) rfl rfl (wo rfl) rfl u3 rfl rfl hev_57 hcv_57 ?_
          refine ap 6 _ rfl rfl (p_eq rfl rfl rfl) ?_
          refine am 7 (Sl.v l0) rfl rfl rfl ?_
          refine am 8 (I i6) rfl rfl rfl ?_
          obtain ⟨p_58, hap_58, hlp_58, hup_58, H⟩ := H
          refine ap 9 _ rfl rfl (p_indexAddr (s := l0) (ad := p_58) (size := 4) rfl u100 Try.ti104 rfl rfl hap_58 hlp_58 hup_58) ?_
          refine ap 10 _ rfl rfl (p_fieldAddr (off := 3) (ft := 102) (size := 1) rfl u104 rfl Try.ti102 (by decide) rfl rfl) ?_
          obtain ⟨adv_59, v_59, hev_59, hcv_59, H⟩ := H
          refine ar 11 (Sl.v v_59) rfl rfl (wo rfl) rfl u102 rfl rfl hev_59 hcv_59 ?_
          obtain ⟨c_60, hflc_60, H⟩ := H
          refine ap 12 (.agg c_60) rfl rfl (p_buildS (places := #[(0, 1), (1, 1), (2, 1), (3, 1)]) rfl Try.pl104 Try.ti104 hflc_60 rfl) ?_
          obtain ⟨c_61, hflc_61, H⟩ := H
          refine ap 14 (.agg c_61) rfl rfl (p_buildS (places := #[(0, 1), (1, 1), (2, 48), (50, 1)]) rfl Try.pl73 Try.ti73 hflc_61 rfl) ?_
          refine ae 13 [] rfl rfl rfl (wo rfl) (e_call (fn := Try.f128) H rfl rfl Try.func128 rfl rfl rfl) ?_
          rintro _ w_24 ⟨v_63, rfl, H⟩
          refine ⟨AllHeld.nil, ?_⟩
          refine as_ 15 (Sl.v v_63) rfl rfl rfl ?_
          refine an 16 rfl rfl rfl (wo rfl) (e_storeN rfl Try.ti73 rfl rfl H) fun _ w_25 H => ?_
          refine ax ?_
          obtain ⟨adr_64, r_64, her_64, hnr_64, hrr_64, H⟩ := H
          exact r_ret (fn := Try.f63) Try.func63 (res_2 rfl ⟨by decide, rfl⟩ (resV_cellN (by decide) (by show Value.pointer _ = _; rw [her_64]) u73 rfl Try.ti73 hnr_64 hrr_64)) H
     ·intro J9
      refine sr ?_
      obtain ⟨p_65, hpp_65, H⟩ := H
      refine xp _ rfl (p_fieldAddr (off := 0) (ft := 3) (size := 1) rfl u67 rfl Try.ti3 (by decide) rfl hpp_65) ?_
      obtain ⟨adv_66, v_66, hev_66, hcv_66, H⟩ := H
      refine xr (I v_66) rfl (wo rfl) rfl u3 rfl rfl hev_66 hcv_66 ?_
      refine xp _ rfl (p_eq rfl rfl rfl) ?_
      refine xe ?_
      refine r_condB (b := (decide (v_66 = 6))) rfl H ?_ ?_
      ·clear H; intro hb14 H
       refine sr ?_
       refine xs (I 0) rfl rfl ?_
       refine xe ?_
       refine sr ?_
       refine xm (I i6) rfl rfl ?_
       refine xp _ rfl (p_ge rfl rfl rfl) ?_
       refine xe ?_
       refine r_condB (b := (decide (0 ≤ i6))) rfl H ?_ ?_
       ·clear H; intro hb15 H
        refine r_region ?_
        refine xm (Sl.v l0) rfl rfl ?_
        refine xm (I i6) rfl rfl ?_
        obtain ⟨p_67, hap_67, hlp_67, hup_67, H⟩ := H
        refine xp _ rfl (p_indexAddr (s := l0) (ad := p_67) (size := 4) rfl u100 Try.ti104 rfl rfl hap_67 hlp_67 hup_67) ?_
        refine xp _ rfl (p_fieldAddr (off := 1) (ft := 3) (size := 1) rfl u104 rfl Try.ti3 (by decide) rfl rfl) ?_
        obtain ⟨adv_68, v_68, hev_68, hcv_68, H⟩ := H
        refine xr (I v_68) rfl (wo rfl) rfl u3 rfl rfl hev_68 hcv_68 ?_
        refine xs (I v_68) rfl rfl ?_
        refine xe ?_
        refine ru4 0 (Sl.v l0) 3 (.pointer o3) 5 (.pointer t5) 6 (I i6) rfl rfl rfl rfl ?_
        refine ru 9 (I v_68) rfl ?_
        exact J9 (l0, o3, t5, i6, v_68) _ _ H
       ·clear H; intro hb15 H
        refine r_skip ?_
        refine ru4 0 (Sl.v l0) 3 (.pointer o3) 5 (.pointer t5) 6 (I i6) rfl rfl rfl rfl ?_
        refine ru 9 (I 0) rfl ?_
        exact J9 (l0, o3, t5, i6, 0) _ _ H
      ·clear H; intro hb14 H
       refine r_skip ?_
       refine ru4 0 (Sl.v l0) 3 (.pointer o3) 5 (.pointer t5) 6 (I i6) rfl rfl rfl rfl ?_
       refine ru 9 (I v_35) rfl ?_
       exact J9 (l0, o3, t5, i6, v_35) _ _ H
    ·clear H; intro hb8 H
     refine r_skip ?_
     refine r_seq ?_
     refine r_seq ?_
     refine r_topJ (fun (s : Sl × Option Addr × Option Addr × Int × Bool) σ => upd 136 (.bool s.2.2.2.2) (upd 6 (I s.2.2.2.1) (upd 5 (.pointer s.2.2.1) (upd 3 (.pointer s.2.1) (upd 0 (Sl.v s.1) (σ)))))) (fun (s : Sl × Option Addr × Option Addr × Int × Bool) w => f63_k3 R s.1 s.2.1 s.2.2.1 s.2.2.2.1 s.2.2.2.2 w) ?_ ?_
     ·rintro ⟨l0, o3, t5, i6, t136⟩ σ w H
      replace H : f63_k3 R l0 o3 t5 i6 t136 w := H
      try dsimp only
      unfold f63_k3 at H
      refine r_condB (b := t136) rfl H ?_ ?_
      ·clear H; intro hb17 H
       refine sr ?_
       refine xm (Sl.v l0) rfl rfl ?_
       obtain ⟨c_69, hflc_69, H⟩ := H
       refine xp (.agg c_69) rfl (p_buildS (places := #[(0, 1), (1, 1), (2, 48), (50, 1)]) rfl Try.pl73 Try.ti73 hflc_69 rfl) ?_
       refine xs (Sl.v l0) rfl rfl ?_
       refine xo_effN rfl (wo rfl) (e_storeN rfl Try.ti73 rfl rfl H) ?_
       intro _ w_26 H
       refine xe ?_
       obtain ⟨adr_70, r_70, her_70, hnr_70, hrr_70, H⟩ := H
       exact r_ret (fn := Try.f63) Try.func63 (res_2 rfl ⟨by decide, rfl⟩ (resV_cellN (by decide) (by show Value.pointer _ = _; rw [her_70]) u73 rfl Try.ti73 hnr_70 hrr_70)) H
      ·clear H; intro hb17 H
       refine r_skip ?_
       refine r_seq ?_
       refine sr ?_
       refine xm (I i6) rfl rfl ?_
       refine xp _ rfl (p_lt rfl rfl rfl) ?_
       refine xe ?_
       refine r_condB (b := (decide (i6 < 0))) rfl H ?_ ?_
       ·clear H; intro hb18 H
        refine sr ?_
        refine xm (Sl.v l0) rfl rfl ?_
        obtain ⟨c_71, hflc_71, H⟩ := H
        refine xp (.agg c_71) rfl (p_buildS (places := #[(0, 1), (1, 1), (2, 48), (50, 1)]) rfl Try.pl73 Try.ti73 hflc_71 rfl) ?_
        refine xs (Sl.v l0) rfl rfl ?_
        refine xo_effN rfl (wo rfl) (e_storeN rfl Try.ti73 rfl rfl H) ?_
        intro _ w_27 H
        refine xe ?_
        obtain ⟨adr_72, r_72, her_72, hnr_72, hrr_72, H⟩ := H
        exact r_ret (fn := Try.f63) Try.func63 (res_2 rfl ⟨by decide, rfl⟩ (resV_cellN (by decide) (by show Value.pointer _ = _; rw [her_72]) u73 rfl Try.ti73 hnr_72 hrr_72)) H
       ·clear H; intro hb18 H
        refine r_skip ?_
        refine r_seq ?_
        refine sr ?_
        obtain ⟨p_73, hpp_73, H⟩ := H
        refine xp _ rfl (p_fieldAddr (off := 0) (ft := 3) (size := 1) rfl u67 rfl Try.ti3 (by decide) rfl hpp_73) ?_
        obtain ⟨adv_74, v_74, hev_74, hcv_74, H⟩ := H
        refine xr (I v_74) rfl (wo rfl) rfl u3 rfl rfl hev_74 hcv_74 ?_
        refine xp _ rfl (p_eq rfl rfl rfl) ?_
        refine xe ?_
        refine r_condB (b := (decide (v_74 = 2))) rfl H ?_ ?_
        ·clear H; intro hb19 H
         refine r_seq ?_
         refine r_draw #[[], [], [], [1, 2], [0, 1, 2, 3], [], [], [6], [5, 6, 7], [0, 1, 2, 3, 4, 5, 6, 7, 8], [], [0, 1, 2, 3, 4, 5, 6, 7, 8, 9], [0, 1, 2, 3, 4, 5, 6, 7, 8, 9, 10, 11]] 13 rfl rfl ?_
         refine am 1 (Sl.v l0) rfl rfl rfl ?_
         refine am 2 (I i6) rfl rfl rfl ?_
         obtain ⟨ls_75, hs_75, ms_75, c3s_75, c4s_75, c5s_75, c6s_75, c7s_75, H⟩ := H
         obtain ⟨s_75, hds_75⟩ : ∃ q : Sl, q = ⟨if ms_75 = ls_75 then l0.a else l0.a.map (·.add (ls_75 * 4)), hs_75 - ls_75, ms_75 - ls_75⟩ := ⟨_, rfl⟩
         rw [← hds_75] at H
         refine ap 3 (Sl.v s_75) rfl rfl (by rw [hds_75]; exact p_slice (s := l0) (size := 4) (vl := none) (vh := some i6) (vm := none) rfl u100 Try.ti104 rfl OptI.none (OptI.some rfl) OptI.none c3s_75 c4s_75 c5s_75 c6s_75 c7s_75) ?_
         refine am 5 (Sl.v l0) rfl rfl rfl ?_
         refine am 6 (I i6) rfl rfl rfl ?_
         refine ap 7 _ rfl rfl (p_add rfl rfl rfl) ?_
         obtain ⟨ls_76, hs_76, ms_76, c3s_76, c4s_76, c5s_76, c6s_76, c7s_76, H⟩ := H
         obtain ⟨s_76, hds_76⟩ : ∃ q : Sl, q = ⟨if ms_76 = ls_76 then l0.a else l0.a.map (·.add (ls_76 * 4)), hs_76 - ls_76, ms_76 - ls_76⟩ := ⟨_, rfl⟩
         rw [← hds_76] at H
         refine ap 8 (Sl.v s_76) rfl rfl (by rw [hds_76]; exact p_slice (s := l0) (size := 4) (vl := some (W (i6 + 1))) (vh := none) (vm := none) rfl u100 Try.ti104 rfl (OptI.some rfl) OptI.none OptI.none c3s_76 c4s_76 c5s_76 c6s_76 c7s_76) ?_
         obtain ⟨c_77, hflc_77, H⟩ := H
         refine ap 10 (.agg c_77) rfl rfl (p_buildS (places := #[(0, 1), (1, 1), (2, 48), (50, 1)]) rfl Try.pl73 Try.ti73 hflc_77 rfl) ?_
         refine ae 0 [] rfl rfl rfl (wo rfl) (e_buildSlice0 rfl u100 Try.ti104 H) ?_
         rintro _ w_29 ⟨a_78, rfl, H⟩
         refine ⟨AllHeld.nil, ?_⟩
         refine ae 4 [] rfl rfl rfl (wo rfl) (e_app H rfl rfl rfl) ?_
         rintro _ w_30 ⟨v_79, rfl, H⟩
         refine ⟨AllHeld.nil, ?_⟩
         refine ae 9 [] rfl rfl rfl (wo rfl) (e_app H rfl rfl rfl) ?_
         rintro _ w_31 ⟨v_80, rfl, H⟩
         refine ⟨AllHeld.nil, ?_⟩
         refine as_ 11 (Sl.v v_80) rfl rfl rfl ?_
         refine an 12 rfl rfl rfl (wo rfl) (e_storeN rfl Try.ti73 rfl rfl H) fun _ w_32 H => ?_
         refine ax ?_
         obtain ⟨adr_81, r_81, her_81, hnr_81, hrr_81, H⟩ := H
         exact r_ret (fn := Try.f63) Try.func63 (res_2 rfl ⟨by decide, rfl⟩ (resV_cellN (by decide) (by show Value.pointer _ = _; rw [her_81]) u73 rfl Try.ti73 hnr_81 hrr_81)) H
        ·clear H; intro hb19 H
         refine r_skip ?_
         refine r_seq ?_
         refine r_seq ?_
         refine r_topJ (fun (s : Sl × Option Addr × Option Addr × Int × Bool) σ => upd 164 (.bool s.2.2.2.2) (upd 6 (I s.2.2.2.1) (upd 5 (.pointer s.2.2.1) (upd 3 (.pointer s.2.1) (upd 0 (Sl.v s.1) (σ)))))) (fun (s : Sl × Option Addr × Option Addr × Int × Bool) w => f63_k4 R s.1 s.2.1 s.2.2.1 s.2.2.2.1 s.2.2.2.2 w) ?_ ?_
         ·rintro ⟨l0, o3, t5, i6, t164⟩ σ w H
          replace H : f63_k4 R l0 o3 t5 i6 t164 w := H
          try dsimp only
          unfold f63_k4 at H
          refine r_condB (b := t164) rfl H ?_ ?_
          ·clear H; intro hb21 H
           refine sr ?_
           refine xm (Sl.v l0) rfl rfl ?_
           obtain ⟨c_82, hflc_82, H⟩ := H
           refine xp (.agg c_82) rfl (p_buildS (places := #[(0, 1), (1, 1), (2, 48), (50, 1)]) rfl Try.pl73 Try.ti73 hflc_82 rfl) ?_
           refine xs (Sl.v l0) rfl rfl ?_
           refine xo_effN rfl (wo rfl) (e_storeN rfl Try.ti73 rfl rfl H) ?_
           intro _ w_33 H
           refine xe ?_
           obtain ⟨adr_83, r_83, her_83, hnr_83, hrr_83, H⟩ := H
           exact r_ret (fn := Try.f63) Try.func63 (res_2 rfl ⟨by decide, rfl⟩ (resV_cellN (by decide) (by show Value.pointer _ = _; rw [her_83]) u73 rfl Try.ti73 hnr_83 hrr_83)) H
          ·clear H; intro hb21 H
           refine r_skip ?_
           refine sr ?_
           refine xs (I (-1)) rfl rfl ?_
           refine xe ?_
           refine r_seq ?_
           refine sr ?_
           refine xs (I 0) rfl rfl ?_
           refine xe ?_
           refine r_block ?_
           refine ru4 0 (Sl.v l0) 3 (.pointer o3) 5 (.pointer t5) 6 (I i6) rfl rfl rfl rfl ?_
           refine ru2 10 (I (-1)) 11 (I 0) rfl rfl ?_
           refine r_loopJ (fun (s : Sl × Option Addr × Option Addr × Int × Int × Int) σ => upd 11 (I s.2.2.2.2.2) (upd 10 (I s.2.2.2.2.1) (upd 6 (I s.2.2.2.1) (upd 5 (.pointer s.2.2.1) (upd 3 (.pointer s.2.1) (upd 0 (Sl.v s.1) (σ))))))) (s := (l0, o3, t5, i6, (-1), 0)) H ?_
           clear H
           rintro ag22 ⟨l0, o3, t5, i6, had10, k11⟩ σ w H hag22
           replace H : f63_b5 R ag22 l0 o3 t5 i6 had10 k11 w := H
           try dsimp only
           unfold f63_b5 at H
           refine r_seq ?_
           refine sr ?_
           refine xm (I k11) rfl rfl ?_
           refine xm (Sl.v l0) rfl rfl ?_
           refine xm (I i6) rfl rfl ?_
           obtain ⟨p_84, hap_84, hlp_84, hup_84, H⟩ := H
           refine xp _ rfl (p_indexAddr (s := l0) (ad := p_84) (size := 4) rfl u100 Try.ti104 rfl rfl hap_84 hlp_84 hup_84) ?_
           refine xp _ rfl (p_fieldAddr (off := 3) (ft := 102) (size := 1) rfl u104 rfl Try.ti102 (by decide) rfl rfl) ?_
           obtain ⟨adv_85, v_85, hev_85, hcv_85, H⟩ := H
           refine xr (Sl.v v_85) rfl (wo rfl) rfl u102 rfl rfl hev_85 hcv_85 ?_
           refine xp (I (v_85.len : Int)) rfl (p_len rfl u102 rfl) ?_
           refine xp _ rfl (p_lt rfl rfl rfl) ?_
           refine xe ?_
           refine r_condB (b := (decide (k11 < (v_85.len : Int)))) rfl H ?_ ?_
           ·clear H; intro hb23 H
            refine r_skip ?_
            refine r_seqJ (fun (s : Sl × Option Addr × Option Addr × Int × Int × Int) σ => upd 11 (I s.2.2.2.2.2) (upd 10 (I s.2.2.2.2.1) (upd 6 (I s.2.2.2.1) (upd 5 (.pointer s.2.2.1) (upd 3 (.pointer s.2.1) (upd 0 (Sl.v s.1) (σ))))))) (fun (s : Sl × Option Addr × Option Addr × Int × Int × Int) w => f63_k6 R ag22 s.1 s.2.1 s.2.2.1 s.2.2.2.1 s.2.2.2.2.1 s.2.2.2.2.2 w) ?_ ?_
            ·rintro ⟨l0, o3, t5, i6, had10, k11⟩ σ w H
             replace H : f63_k6 R ag22 l0 o3 t5 i6 had10 k11 w := H
             try dsimp only
             unfold f63_k6 at H
             refine r_region ?_
             refine xm (I k11) rfl rfl ?_
             refine xp _ rfl (p_add rfl rfl rfl) ?_
             refine xs (I (W (k11 + 1))) rfl rfl ?_
             refine xe ?_
             refine ru4 0 (Sl.v l0) 3 (.pointer o3) 5 (.pointer t5) 6 (I i6) rfl rfl rfl rfl ?_
             refine ru2 10 (I had10) 11 (I (W (k11 + 1))) rfl rfl ?_
             exact hag22 (l0, o3, t5, i6, had10, (W (k11 + 1))) _ _ H
            ·intro J24
             refine r_block ?_
             refine r_seq ?_
             refine r_draw #[[], [], [0, 1], [0, 1, 2], [0, 1, 2, 3], [], [0, 1, 2, 3, 4, 5], [0, 1, 2, 3, 4, 5, 6], [0, 1, 2, 3, 4, 5, 6, 7], [], [9], [0, 1, 2, 3, 4, 5, 6, 7, 8, 9, 10]] 12 rfl rfl ?_
             refine am 0 (Sl.v l0) rfl rfl rfl ?_
             refine am 1 (I i6) rfl rfl rfl ?_
             obtain ⟨p_86, hap_86, hlp_86, hup_86, H⟩ := H
             refine ap 2 _ rfl rfl (p_indexAddr (s := l0) (ad := p_86) (size := 4) rfl u100 Try.ti104 rfl rfl hap_86 hlp_86 hup_86) ?_
             refine ap 3 _ rfl rfl (p_fieldAddr (off := 3) (ft := 102) (size := 1) rfl u104 rfl Try.ti102 (by decide) rfl rfl) ?_
             obtain ⟨adv_87, v_87, hev_87, hcv_87, H⟩ := H
             refine ar 4 (Sl.v v_87) rfl rfl (wo rfl) rfl u102 rfl rfl hev_87 hcv_87 ?_
             refine am 5 (I k11) rfl rfl rfl ?_
             obtain ⟨p_88, hap_88, hlp_88, hup_88, H⟩ := H
             refine ap 6 _ rfl rfl (p_indexAddr (s := v_87) (ad := p_88) (size := 49) rfl u102 Try.ti199 rfl rfl hap_88 hlp_88 hup_88) ?_
             refine ap 7 _ rfl rfl (p_fieldAddr (off := 0) (ft := 3) (size := 1) rfl u199 rfl Try.ti3 (by decide) rfl rfl) ?_
             obtain ⟨adv_89, v_89, hev_89, hcv_89, H⟩ := H
             refine ar 8 (I v_89) rfl rfl (wo rfl) rfl u3 rfl rfl hev_89 hcv_89 ?_
             obtain ⟨p_90, hpp_90, H⟩ := H
             refine ap 9 _ rfl rfl (p_fieldAddr (off := 3) (ft := 3) (size := 1) rfl u67 rfl Try.ti3 (by decide) rfl hpp_90) ?_
             obtain ⟨adv_91, v_91, hev_91, hcv_91, H⟩ := H
             refine ar 10 (I v_91) rfl rfl (wo rfl) rfl u3 rfl rfl hev_91 hcv_91 ?_
             refine ap 11 _ rfl rfl (p_eq rfl rfl rfl) ?_
             refine ax ?_
             refine r_condB (b := (decide (v_89 = v_91))) rfl H ?_ ?_
             ·clear H; intro hb25 H
              refine r_region ?_
              refine xm (I k11) rfl rfl ?_
              refine xs (I k11) rfl rfl ?_
              refine xe ?_
              refine r_inBlock ?_
              refine ru4 0 (Sl.v l0) 3 (.pointer o3) 5 (.pointer t5) 6 (I i6) rfl rfl rfl rfl ?_
              refine ru2 10 (I k11) 11 (I k11) rfl rfl ?_
              exact J24 (l0, o3, t5, i6, k11, k11) _ _ H
             ·clear H; intro hb25 H
              refine r_skip ?_
              refine r_inBlock ?_
              refine ru4 0 (Sl.v l0) 3 (.pointer o3) 5 (.pointer t5) 6 (I i6) rfl rfl rfl rfl ?_
              refine ru2 10 (I had10) 11 (I k11) rfl rfl ?_
              exact J24 (l0, o3, t5, i6, had10, k11) _ _ H
           ·clear H; intro hb23 H
            refine r_exit rfl ?_
            refine r_seq ?_
            refine sr ?_
            obtain ⟨p_92, hpp_92, H⟩ := H
            refine xp _ rfl (p_fieldAddr (off := 0) (ft := 3) (size := 1) rfl u67 rfl Try.ti3 (by decide) rfl hpp_92) ?_
            obtain ⟨adv_93, v_93, hev_93, hcv_93, H⟩ := H
            refine xr (I v_93) rfl (wo rfl) rfl u3 rfl rfl hev_93 hcv_93 ?_
            refine xp _ rfl (p_eq rfl rfl rfl) ?_
            refine xe ?_
            refine r_condB (b := (decide (v_93 = 5))) rfl H ?_ ?_
            ·clear H; intro hb26 H
             refine r_seq ?_
             refine sr ?_
             refine xm (I had10) rfl rfl ?_
             refine xp _ rfl (p_lt rfl rfl rfl) ?_
             refine xe ?_
             refine r_condB (b := (decide (had10 < 0))) rfl H ?_ ?_
             ·clear H; intro hb27 H
              refine sr ?_
              refine xm (Sl.v l0) rfl rfl ?_
              obtain ⟨c_94, hflc_94, H⟩ := H
              refine xp (.agg c_94) rfl (p_buildS (places := #[(0, 1), (1, 1), (2, 48), (50, 1)]) rfl Try.pl73 Try.ti73 hflc_94 rfl) ?_
              refine xs (Sl.v l0) rfl rfl ?_
              refine xo_effN rfl (wo rfl) (e_storeN rfl Try.ti73 rfl rfl H) ?_
              intro _ w_35 H
              refine xe ?_
              obtain ⟨adr_95, r_95, her_95, hnr_95, hrr_95, H⟩ := H
              exact r_ret (fn := Try.f63) Try.func63 (res_2 rfl ⟨by decide, rfl⟩ (resV_cellN (by decide) (by show Value.pointer _ = _; rw [her_95]) u73 rfl Try.ti73 hnr_95 hrr_95)) H
             ·clear H; intro hb27 H
              refine r_skip ?_
              refine r_seq ?_
              refine r_draw #[[], [], [], [1, 2], [1, 2, 3], [1, 2, 3, 4], [], [1, 2, 3, 4, 5, 6], [1, 2, 3, 4, 5, 6, 7], [1, 2, 3, 4, 5, 6, 7, 8], [1, 2, 3, 4, 5, 6, 7, 8, 9], [0], [0, 1, 2, 3, 4, 5, 6, 7, 8, 9, 10, 11]] 13 rfl rfl ?_
              refine am 0 (Sl.v l0) rfl rfl rfl ?_
              refine am 1 (Sl.v l0) rfl rfl rfl ?_
              refine am 2 (I i6) rfl rfl rfl ?_
              obtain ⟨p_96, hap_96, hlp_96, hup_96, H⟩ := H
              refine ap 3 _ rfl rfl (p_indexAddr (s := l0) (ad := p_96) (size := 4) rfl u100 Try.ti104 rfl rfl hap_96 hlp_96 hup_96) ?_
              refine ap 4 _ rfl rfl (p_fieldAddr (off := 3) (ft := 102) (size := 1) rfl u104 rfl Try.ti102 (by decide) rfl rfl) ?_
              obtain ⟨adv_97, v_97, hev_97, hcv_97, H⟩ := H
              refine ar 5 (Sl.v v_97) rfl rfl (wo rfl) rfl u102 rfl rfl hev_97 hcv_97 ?_
              refine am 6 (I had10) rfl rfl rfl ?_
              obtain ⟨p_98, hap_98, hlp_98, hup_98, H⟩ := H
              refine ap 7 _ rfl rfl (p_indexAddr (s := v_97) (ad := p_98) (size := 49) rfl u102 Try.ti199 rfl rfl hap_98 hlp_98 hup_98) ?_
              refine ap 8 _ rfl rfl (p_fieldAddr (off := 1) (ft := 65) (size := 48) rfl u199 rfl Try.ti65 (by decide) rfl rfl) ?_
              obtain ⟨adv_99, v_99, hev_99, hnv_99, hcv_99, H⟩ := H
              refine xa_read (v := (.agg v_99)) (S := (fun w => Row w adv_99 v_99)) 9 (by decide +kernel) rfl rfl (wo rfl) (fun w hc => rd_loadN (ad := adv_99) rfl u65 rfl Try.ti65 (by show Value.pointer _ = _; rw [hev_99]) hnv_99 hc) hcv_99 ?_
              obtain ⟨c_100, hflc_100, H⟩ := H
              refine ap 10 (.agg c_100) rfl rfl (p_buildS (places := #[(0, 1), (1, 1), (2, 48), (50, 1)]) rfl Try.pl73 Try.ti73 hflc_100 rfl) ?_
              refine as_ 11 (Sl.v l0) rfl rfl rfl ?_
              refine an 12 rfl rfl rfl (wo rfl) (e_storeN rfl Try.ti73 rfl rfl H) fun _ w_37 H => ?_
              refine ax ?_
              obtain ⟨adr_101, r_101, her_101, hnr_101, hrr_101, H⟩ := H
              exact r_ret (fn := Try.f63) Try.func63 (res_2 rfl ⟨by decide, rfl⟩ (resV_cellN (by decide) (by show Value.pointer _ = _; rw [her_101]) u73 rfl Try.ti73 hnr_101 hrr_101)) H
            ·clear H; intro hb26 H
             refine r_skip ?_
             refine r_seq ?_
             refine sr ?_
             refine xm (Sl.v l0) rfl rfl ?_
             refine xm (I i6) rfl rfl ?_
             obtain ⟨p_102, hap_102, hlp_102, hup_102, H⟩ := H
             refine xp _ rfl (p_indexAddr (s := l0) (ad := p_102) (size := 4) rfl u100 Try.ti104 rfl rfl hap_102 hlp_102 hup_102) ?_
             refine xp _ rfl (p_fieldAddr (off := 2) (ft := 4) (size := 1) rfl u104 rfl Try.ti4 (by decide) rfl rfl) ?_
             obtain ⟨adv_103, v_103, hev_103, hcv_103, H⟩ := H
             refine xr (.bool v_103) rfl (wo rfl) rfl u4 rfl rfl hev_103 hcv_103 ?_
             refine xe ?_
             refine r_condB (b := v_103) rfl H ?_ ?_
             ·clear H; intro hb28 H
              refine sr ?_
              refine xm (Sl.v l0) rfl rfl ?_
              obtain ⟨c_104, hflc_104, H⟩ := H
              refine xp (.agg c_104) rfl (p_buildS (places := #[(0, 1), (1, 1), (2, 48), (50, 1)]) rfl Try.pl73 Try.ti73 hflc_104 rfl) ?_
              refine xs (Sl.v l0) rfl rfl ?_
              refine xo_effN rfl (wo rfl) (e_storeN rfl Try.ti73 rfl rfl H) ?_
              intro _ w_38 H
              refine xe ?_
              obtain ⟨adr_105, r_105, her_105, hnr_105, hrr_105, H⟩ := H
              exact r_ret (fn := Try.f63) Try.func63 (res_2 rfl ⟨by decide, rfl⟩ (resV_cellN (by decide) (by show Value.pointer _ = _; rw [her_105]) u73 rfl Try.ti73 hnr_105 hrr_105)) H
             ·clear H; intro hb28 H
              refine r_skip ?_
              refine r_seq ?_
              refine r_seq ?_
              refine r_topJ (fun (s : Sl × Option Addr × Option Addr × Int × Bool) σ => upd 235 (.bool s.2.2.2.2) (upd 6 (I s.2.2.2.1) (upd 5 (.pointer s.2.2.1) (upd 3 (.pointer s.2.1) (upd 0 (Sl.v s.1) (σ)))))) (fun (s : Sl × Option Addr × Option Addr × Int × Bool) w => f63_k7 R ag22 s.1 s.2.1 s.2.2.1 s.2.2.2.1 s.2.2.2.2 w) ?_ ?_
              ·rintro ⟨l0, o3, t5, i6, t235⟩ σ w H
               replace H : f63_k7 R ag22 l0 o3 t5 i6 t235 w := H
               try dsimp only
               unfold f63_k7 at H
               refine r_condB (b := t235) rfl H ?_ ?_
               ·clear H; intro hb30 H
                refine sr ?_
                refine xm (Sl.v l0) rfl rfl ?_
                obtain ⟨c_106, hflc_106, H⟩ := H
                refine xp (.agg c_106) rfl (p_buildS (places := #[(0, 1), (1, 1), (2, 48), (50, 1)]) rfl Try.pl73 Try.ti73 hflc_106 rfl) ?_
                refine xs (Sl.v l0) rfl rfl ?_
                refine xo_effN rfl (wo rfl) (e_storeN rfl Try.ti73 rfl rfl H) ?_
                intro _ w_39 H
                refine xe ?_
                obtain ⟨adr_107, r_107, her_107, hnr_107, hrr_107, H⟩ := H
                exact r_ret (fn := Try.f63) Try.func63 (res_2 rfl ⟨by decide, rfl⟩ (resV_cellN (by decide) (by show Value.pointer _ = _; rw [her_107]) u73 rfl Try.ti73 hnr_107 hrr_107)) H
               ·clear H; intro hb30 H
                refine r_skip ?_
                refine sr ?_
                refine xo_eff rfl (wo rfl) (e_buildSlice0 rfl u102 Try.ti199 H) ?_
                rintro _ w_40 ⟨a_108, rfl, H⟩
                refine xs (Sl.v ⟨some a_108, 0, 0⟩) rfl rfl ?_
                refine xe ?_
                refine sr ?_
                obtain ⟨p_109, hpp_109, H⟩ := H
                refine xp _ rfl (p_fieldAddr (off := 0) (ft := 3) (size := 1) rfl u67 rfl Try.ti3 (by decide) rfl hpp_109) ?_
                obtain ⟨adv_110, v_110, hev_110, hcv_110, H⟩ := H
                refine xr (I v_110) rfl (wo rfl) rfl u3 rfl rfl hev_110 hcv_110 ?_
                refine xp _ rfl (p_eq rfl rfl rfl) ?_
                refine xs (.bool (decide (v_110 = 4))) rfl rfl ?_
                refine xe ?_
                refine r_seq ?_
                refine sr ?_
                refine xs (I 0) rfl rfl ?_
                refine xe ?_
                refine r_block ?_
                refine ru4 0 (Sl.v l0) 3 (.pointer o3) 5 (.pointer t5) 6 (I i6) rfl rfl rfl rfl ?_
                refine ru3 12 (Sl.v ⟨some a_108, 0, 0⟩) 13 (.bool (decide (v_110 = 4))) 14 (I 0) rfl rfl rfl ?_
                refine r_loopJ (fun (s : Sl × Option Addr × Option Addr × Int × Sl × Bool × Int) σ => upd 14 (I s.2.2.2.2.2.2) (upd 13 (.bool s.2.2.2.2.2.1) (upd 12 (Sl.v s.2.2.2.2.1) (upd 6 (I s.2.2.2.1) (upd 5 (.pointer s.2.2.1) (upd 3 (.pointer s.2.1) (upd 0 (Sl.v s.1) (σ)))))))) (s := (l0, o3, t5, i6, ⟨some a_108, 0, 0⟩, (decide (v_110 = 4)), 0)) H ?_
                clear H
                rintro ag31 ⟨l0, o3, t5, i6, blocks12, done13, k14⟩ σ w H hag31
                replace H : f63_b8 R ag22 ag31 l0 o3 t5 i6 blocks12 done13 k14 w := H
                try dsimp only
                unfold f63_b8 at H
                refine r_seq ?_
                refine sr ?_
                refine xm (I k14) rfl rfl ?_
                refine xm (Sl.v l0) rfl rfl ?_
                refine xm (I i6) rfl rfl ?_
                obtain ⟨p_111, hap_111, hlp_111, hup_111, H⟩ := H
                refine xp _ rfl (p_indexAddr (s := l0) (ad := p_111) (size := 4) rfl u100 Try.ti104 rfl rfl hap_111 hlp_111 hup_111) ?_
                refine xp _ rfl (p_fieldAddr (off := 3) (ft := 102) (size := 1) rfl u104 rfl Try.ti102 (by decide) rfl rfl) ?_
                obtain ⟨adv_112, v_112, hev_112, hcv_112, H⟩ := H
                refine xr (Sl.v v_112) rfl (wo rfl) rfl u102 rfl rfl hev_112 hcv_112 ?_
                refine xp (I (v_112.len : Int)) rfl (p_len rfl u102 rfl) ?_
                refine xp _ rfl (p_lt rfl rfl rfl) ?_
                refine xe ?_
                refine r_condB (b := (decide (k14 < (v_112.len : Int)))) rfl H ?_ ?_
                ·clear H; intro hb32 H
                 refine r_skip ?_
                 refine r_seqJ (fun (s : Sl × Option Addr × Option Addr × Int × Sl × Bool × Int) σ => upd 14 (I s.2.2.2.2.2.2) (upd 13 (.bool s.2.2.2.2.2.1) (upd 12 (Sl.v s.2.2.2.2.1) (upd 6 (I s.2.2.2.1) (upd 5 (.pointer s.2.2.1) (upd 3 (.pointer s.2.1) (upd 0 (Sl.v s.1) (σ)))))))) (fun (s : Sl × Option Addr × Option Addr × Int × Sl × Bool × Int) w => f63_k9 R ag22 ag31 s.1 s.2.1 s.2.2.1 s.2.2.2.1 s.2.2.2.2.1 s.2.2.2.2.2.1 s.2.2.2.2.2.2 w) ?_ ?_
                 ·rintro ⟨l0, o3, t5, i6, blocks12, done13, k14⟩ σ w H
                  replace H : f63_k9 R ag22 ag31 l0 o3 t5 i6 blocks12 done13 k14 w := H
                  try dsimp only
                  unfold f63_k9 at H
                  refine r_region ?_
                  refine xm (I k14) rfl rfl ?_
                  refine xp _ rfl (p_add rfl rfl rfl) ?_
                  refine xs (I (W (k14 + 1))) rfl rfl ?_
                  refine xe ?_
                  refine ru4 0 (Sl.v l0) 3 (.pointer o3) 5 (.pointer t5) 6 (I i6) rfl rfl rfl rfl ?_
                  refine ru3 12 (Sl.v blocks12) 13 (.bool done13) 14 (I (W (k14 + 1))) rfl rfl rfl ?_
                  exact hag31 (l0, o3, t5, i6, blocks12, done13, (W (k14 + 1))) _ _ H
                 ·intro J33
                  refine r_block ?_
                  refine sr ?_
                  refine xm (Sl.v l0) rfl rfl ?_
                  refine xm (I i6) rfl rfl ?_
                  obtain ⟨p_113, hap_113, hlp_113, hup_113, H⟩ := H
                  refine xp _ rfl (p_indexAddr (s := l0) (ad := p_113) (size := 4) rfl u100 Try.ti104 rfl rfl hap_113 hlp_113 hup_113) ?_
                  refine xp _ rfl (p_fieldAddr (off := 3) (ft := 102) (size := 1) rfl u104 rfl Try.ti102 (by decide) rfl rfl) ?_
                  obtain ⟨adv_114, v_114, hev_114, hcv_114, H⟩ := H
                  refine xr (Sl.v v_114) rfl (wo rfl) rfl u102 rfl rfl hev_114 hcv_114 ?_
                  refine xm (I k14) rfl rfl ?_
                  obtain ⟨p_115, hap_115, hlp_115, hup_115, H⟩ := H
                  refine xp _ rfl (p_indexAddr (s := v_114) (ad := p_115) (size := 49) rfl u102 Try.ti199 rfl rfl hap_115 hlp_115 hup_115) ?_
                  obtain ⟨adv_116, v_116, hev_116, hnv_116, hcv_116, H⟩ := H
                  refine xo_read (v := (.agg v_116)) rfl (wo rfl) (rd_loadN (ad := adv_116) rfl u199 rfl Try.ti199 (by show Value.pointer _ = _; rw [hev_116]) hnv_116 hcv_116) ?_
                  refine xo_eff rfl (wo rfl) (e_alloc rfl Try.ti199 H) ?_
                  rintro _ w_41 ⟨a_117, rfl, H⟩
                  refine xo_effN rfl (wo rfl) (e_storeN rfl Try.ti199 rfl rfl H) ?_
                  intro _ w_42 H
                  refine xe ?_
                  refine r_seqJ (fun (s : Sl × Option Addr × Option Addr × Int × Sl × Bool × Int × Option Addr) σ => upd 15 (.pointer s.2.2.2.2.2.2.2) (upd 14 (I s.2.2.2.2.2.2.1) (upd 13 (.bool s.2.2.2.2.2.1) (upd 12 (Sl.v s.2.2.2.2.1) (upd 6 (I s.2.2.2.1) (upd 5 (.pointer s.2.2.1) (upd 3 (.pointer s.2.1) (upd 0 (Sl.v s.1) (σ))))))))) (fun (s : Sl × Option Addr × Option Addr × Int × Sl × Bool × Int × Option Addr) w => f63_k10 R ag22 ag31 s.1 s.2.1 s.2.2.1 s.2.2.2.1 s.2.2.2.2.1 s.2.2.2.2.2.1 s.2.2.2.2.2.2.1 s.2.2.2.2.2.2.2 w) ?_ ?_
                  ·rintro ⟨l0, o3, t5, i6, blocks12, done13, k14, b15⟩ σ w H
                   replace H : f63_k10 R ag22 ag31 l0 o3 t5 i6 blocks12 done13 k14 b15 w := H
                   try dsimp only
                   unfold f63_k10 at H
                   refine sr ?_
                   obtain ⟨p_118, hpp_118, H⟩ := H
                   refine xp _ rfl (p_fieldAddr (off := 0) (ft := 3) (size := 1) rfl u199 rfl Try.ti3 (by decide) rfl hpp_118) ?_
                   obtain ⟨adv_119, v_119, hev_119, hcv_119, H⟩ := H
                   refine xr (I v_119) rfl (wo rfl) rfl u3 rfl rfl hev_119 hcv_119 ?_
                   obtain ⟨p_120, hpp_120, H⟩ := H
                   refine xp _ rfl (p_fieldAddr (off := 3) (ft := 3) (size := 1) rfl u67 rfl Try.ti3 (by decide) rfl hpp_120) ?_
                   obtain ⟨adv_121, v_121, hev_121, hcv_121, H⟩ := H
                   refine xr (I v_121) rfl (wo rfl) rfl u3 rfl rfl hev_121 hcv_121 ?_
                   refine xp _ rfl (p_ne rfl rfl rfl) ?_
                   refine xe ?_
                   refine r_condB (b := (!decide (v_119 = v_121))) rfl H ?_ ?_
                   ·clear H; intro hb35 H
                    refine r_region ?_
                    refine xm (Sl.v blocks12) rfl rfl ?_
                    obtain ⟨adv_122, v_122, hev_122, hnv_122, hcv_122, H⟩ := H
                    refine xo_read (v := (.agg v_122)) rfl (wo rfl) (rd_loadN (ad := adv_122) rfl u199 rfl Try.ti199 (by show Value.pointer _ = _; rw [hev_122]) hnv_122 hcv_122) ?_
                    obtain ⟨hzq_124, H⟩ := H
                    refine xo_eff rfl (wo rfl) (e_buildAgg (size := 49) H rfl u102 Try.ti199 (by decide) (by decide) rfl hzq_124) ?_
                    rintro _ w_43 ⟨a_123, rfl, H⟩
                    refine xo_eff rfl (wo rfl) (e_app H rfl rfl rfl) ?_
                    rintro _ w_44 ⟨v_125, rfl, H⟩
                    refine xs (Sl.v v_125) rfl rfl ?_
                    refine xe ?_
                    refine r_inBlock ?_
                    refine ru4 0 (Sl.v l0) 3 (.pointer o3) 5 (.pointer t5) 6 (I i6) rfl rfl rfl rfl ?_
                    refine ru3 12 (Sl.v v_125) 13 (.bool done13) 14 (I k14) rfl rfl rfl ?_
                    exact J33 (l0, o3, t5, i6, v_125, done13, k14) _ _ H
                   ·clear H; intro hb35 H
                    refine r_skip ?_
                    refine r_inBlock ?_
                    refine ru4 0 (Sl.v l0) 3 (.pointer o3) 5 (.pointer t5) 6 (I i6) rfl rfl rfl rfl ?_
                    refine ru3 12 (Sl.v blocks12) 13 (.bool done13) 14 (I k14) rfl rfl rfl ?_
                    exact J33 (l0, o3, t5, i6, blocks12, done13, k14) _ _ H
                  ·intro J34
                   refine r_seq ?_
                   refine r_topJ (fun (s : Sl × Option Addr × Option Addr × Int × Sl × Bool × Int × Option Addr × Bool) σ => upd 268 (.bool s.2.2.2.2.2.2.2.2) (upd 15 (.pointer s.2.2.2.2.2.2.2.1) (upd 14 (I s.2.2.2.2.2.2.1) (upd 13 (.bool s.2.2.2.2.2.1) (upd 12 (Sl.v s.2.2.2.2.1) (upd 6 (I s.2.2.2.1) (upd 5 (.pointer s.2.2.1) (upd 3 (.pointer s.2.1) (upd 0 (Sl.v s.1) (σ)))))))))) (fun (s : Sl × Option Addr × Option Addr × Int × Sl × Bool × Int × Option Addr × Bool) w => f63_k11 R ag22 ag31 s.1 s.2.1 s.2.2.1 s.2.2.2.1 s.2.2.2.2.1 s.2.2.2.2.2.1 s.2.2.2.2.2.2.1 s.2.2.2.2.2.2.2.1 s.2.2.2.2.2.2.2.2 w) ?_ ?_
                   ·rintro ⟨l0, o3, t5, i6, blocks12, done13, k14, b15, t268⟩ σ w H
                    replace H : f63_k11 R ag22 ag31 l0 o3 t5 i6 blocks12 done13 k14 b15 t268 w := H
                    try dsimp only
                    unfold f63_k11 at H
                    refine r_condB (b := t268) rfl H ?_ ?_
                    ·clear H; intro hb37 H
                     refine sr ?_
                     refine xm (Sl.v blocks12) rfl rfl ?_
                     obtain ⟨p_126, hpp_126, H⟩ := H
                     refine xp _ rfl (p_fieldAddr (off := 3) (ft := 3) (size := 1) rfl u67 rfl Try.ti3 (by decide) rfl hpp_126) ?_
                     obtain ⟨adv_127, v_127, hev_127, hcv_127, H⟩ := H
                     refine xr (I v_127) rfl (wo rfl) rfl u3 rfl rfl hev_127 hcv_127 ?_
                     obtain ⟨p_128, hpp_128, H⟩ := H
                     refine xp _ rfl (p_fieldAddr (off := 5) (ft := 65) (size := 48) rfl u67 rfl Try.ti65 (by decide) rfl hpp_128) ?_
                     obtain ⟨adv_129, v_129, hev_129, hnv_129, hcv_129, H⟩ := H
                     refine xo_read (v := (.agg v_129)) rfl (wo rfl) (rd_loadN (ad := adv_129) rfl u65 rfl Try.ti65 (by show Value.pointer _ = _; rw [hev_129]) hnv_129 hcv_129) ?_
                     obtain ⟨c_130, hflc_130, H⟩ := H
                     refine xp (.agg c_130) rfl (p_buildS (places := #[(0, 1), (1, 48)]) rfl Try.pl199 Try.ti199 hflc_130 rfl) ?_
                     obtain ⟨hzq_132, H⟩ := H
                     refine xo_eff rfl (wo rfl) (e_buildAgg (size := 49) H rfl u102 Try.ti199 (by decide) (by decide) rfl hzq_132) ?_
                     rintro _ w_45 ⟨a_131, rfl, H⟩
                     refine xo_eff rfl (wo rfl) (e_app H rfl rfl rfl) ?_
                     rintro _ w_46 ⟨v_133, rfl, H⟩
                     refine xs (Sl.v v_133) rfl rfl ?_
                     refine xe ?_
                     refine r_region ?_
                     refine xs (.bool true) rfl rfl ?_
                     refine xe ?_
                     refine ru4 0 (Sl.v l0) 3 (.pointer o3) 5 (.pointer t5) 6 (I i6) rfl rfl rfl rfl ?_
                     refine ru4 12 (Sl.v v_133) 13 (.bool true) 14 (I k14) 15 (.pointer b15) rfl rfl rfl rfl ?_
                     exact J34 (l0, o3, t5, i6, v_133, true, k14, b15) _ _ H
                    ·clear H; intro hb37 H
                     refine r_skip ?_
                     refine ru4 0 (Sl.v l0) 3 (.pointer o3) 5 (.pointer t5) 6 (I i6) rfl rfl rfl rfl ?_
                     refine ru4 12 (Sl.v blocks12) 13 (.bool done13) 14 (I k14) 15 (.pointer b15) rfl rfl rfl rfl ?_
                     exact J34 (l0, o3, t5, i6, blocks12, done13, k14, b15) _ _ H
                   ·intro J36
                    refine r_region ?_
                    refine xm (.bool done13) rfl rfl ?_
                    refine xp (.bool (!done13)) rfl (p_not rfl rfl) ?_
                    refine xm (.bool (!done13)) rfl rfl ?_
                    refine ifB_cases H ?_ ?_
                    ·clear H; intro hb38 H
                     refine yp (.pointer (some (a_117.add 0))) rfl (wy 262 rfl rfl rfl hb38) (p_fieldAddr (off := 0) (ft := 3) (size := 1) rfl u199 rfl Try.ti3 (by decide) rfl rfl) ?_
                     obtain ⟨adv_134, v_134, hev_134, hcv_134, H⟩ := H
                     refine xr (I v_134) rfl (wy 262 rfl rfl rfl hb38) rfl u3 rfl rfl hev_134 hcv_134 ?_
                     obtain ⟨p_135, hpp_135, H⟩ := H
                     refine yp (.pointer (some (p_135.add 3))) rfl (wy 262 rfl rfl rfl hb38) (p_fieldAddr (off := 3) (ft := 3) (size := 1) rfl u67 rfl Try.ti3 (by decide) rfl hpp_135) ?_
                     obtain ⟨adv_136, v_136, hev_136, hcv_136, H⟩ := H
                     refine xr (I v_136) rfl (wy 262 rfl rfl rfl hb38) rfl u3 rfl rfl hev_136 hcv_136 ?_
                     refine yp (.bool (decide (v_136 ≤ v_134))) rfl (wy 262 rfl rfl rfl hb38) (p_ge rfl rfl rfl) ?_
                     refine xp (.bool (decide (v_136 ≤ v_134))) rfl (p_pickT rfl rfl hb38 rfl) ?_
                     refine xe ?_
                     refine ru4 0 (Sl.v l0) 3 (.pointer o3) 5 (.pointer t5) 6 (I i6) rfl rfl rfl rfl ?_
                     refine ru4 12 (Sl.v blocks12) 13 (.bool done13) 14 (I k14) 15 (.pointer (some a_117)) rfl rfl rfl rfl ?_
                     refine ru 268 (.bool (decide (v_136 ≤ v_134))) rfl ?_
                     exact J36 (l0, o3, t5, i6, blocks12, done13, k14, (some a_117), (decide (v_136 ≤ v_134))) _ _ H
                    ·clear H; intro hb38 H
                     refine xo_skip rfl (wn 262 rfl rfl rfl hb38) ?_
                     refine xo_skip rfl (wn 262 rfl rfl rfl hb38) ?_
                     refine xo_skip rfl (wn 262 rfl rfl rfl hb38) ?_
                     refine xo_skip rfl (wn 262 rfl rfl rfl hb38) ?_
                     refine xo_skip rfl (wn 262 rfl rfl rfl hb38) ?_
                     refine xp (.bool false) rfl (p_pickF rfl rfl hb38 rfl) ?_
                     refine xe ?_
                     refine ru4 0 (Sl.v l0) 3 (.pointer o3) 5 (.pointer t5) 6 (I i6) rfl rfl rfl rfl ?_
                     refine ru4 12 (Sl.v blocks12) 13 (.bool done13) 14 (I k14) 15 (.pointer (some a_117)) rfl rfl rfl rfl ?_
                     refine ru 268 (.bool false) rfl ?_
                     exact J36 (l0, o3, t5, i6, blocks12, done13, k14, (some a_117), false) _ _ H
                ·clear H; intro hb32 H
                 refine r_exit rfl ?_
                 refine r_seqJ (fun (s : Sl × Option Addr × Int × Sl) σ => upd 12 (Sl.v s.2.2.2) (upd 6 (I s.2.2.1) (upd 5 (.pointer s.2.1) (upd 0 (Sl.v s.1) (σ))))) (fun (s : Sl × Option Addr × Int × Sl) w => f63_k12 R ag22 ag31 s.1 s.2.1 s.2.2.1 s.2.2.2 w) ?_ ?_
                 ·rintro ⟨l0, t5, i6, blocks12⟩ σ w H
                  replace H : f63_k12 R ag22 ag31 l0 t5 i6 blocks12 w := H
                  try dsimp only
                  unfold f63_k12 at H
                  refine sr ?_
                  refine xo_eff rfl (wo rfl) (e_buildSlice0 rfl u100 Try.ti104 H) ?_
                  rintro _ w_47 ⟨a_137, rfl, H⟩
                  refine xm (Sl.v l0) rfl rfl ?_
                  refine xo_eff rfl (wo rfl) (e_app H rfl rfl rfl) ?_
                  rintro _ w_48 ⟨v_138, rfl, H⟩
                  refine xs (Sl.v v_138) rfl rfl ?_
                  refine xe ?_
                  refine sr ?_
                  refine xm (Sl.v v_138) rfl rfl ?_
                  refine xm (I i6) rfl rfl ?_
                  refine xm (Sl.v blocks12) rfl rfl ?_
                  obtain ⟨p_139, hap_139, hlp_139, hup_139, H⟩ := H
                  refine xp _ rfl (p_indexAddr (s := v_138) (ad := p_139) (size := 4) rfl u100 Try.ti104 rfl rfl hap_139 hlp_139 hup_139) ?_
                  refine xp _ rfl (p_fieldAddr (off := 3) (ft := 102) (size := 1) rfl u104 rfl Try.ti102 (by decide) rfl rfl) ?_
                  refine xo_effN rfl (wo rfl) (e_store rfl Try.ti102 rfl rfl rfl H) ?_
                  intro _ w_49 H
                  refine xe ?_
                  refine sr ?_
                  refine xm (Sl.v v_138) rfl rfl ?_
                  obtain ⟨c_140, hflc_140, H⟩ := H
                  refine xp (.agg c_140) rfl (p_buildS (places := #[(0, 1), (1, 1), (2, 48), (50, 1)]) rfl Try.pl73 Try.ti73 hflc_140 rfl) ?_
                  refine xs (Sl.v v_138) rfl rfl ?_
                  refine xo_effN rfl (wo rfl) (e_storeN rfl Try.ti73 rfl rfl H) ?_
                  intro _ w_50 H
                  refine xe ?_
                  obtain ⟨adr_141, r_141, her_141, hnr_141, hrr_141, H⟩ := H
                  exact r_ret (fn := Try.f63) Try.func63 (res_2 rfl ⟨by decide, rfl⟩ (resV_cellN (by decide) (by show Value.pointer _ = _; rw [her_141]) u73 rfl Try.ti73 hnr_141 hrr_141)) H
                 ·intro J39
                  refine sr ?_
                  refine xm (.bool done13) rfl rfl ?_
                  refine xp (.bool (!done13)) rfl (p_not rfl rfl) ?_
                  refine xe ?_
                  refine r_condB (b := (!done13)) rfl H ?_ ?_
                  ·clear H; intro hb40 H
                   refine r_region ?_
                   refine xm (Sl.v blocks12) rfl rfl ?_
                   obtain ⟨p_142, hpp_142, H⟩ := H
                   refine xp _ rfl (p_fieldAddr (off := 3) (ft := 3) (size := 1) rfl u67 rfl Try.ti3 (by decide) rfl hpp_142) ?_
                   obtain ⟨adv_143, v_143, hev_143, hcv_143, H⟩ := H
                   refine xr (I v_143) rfl (wo rfl) rfl u3 rfl rfl hev_143 hcv_143 ?_
                   obtain ⟨p_144, hpp_144, H⟩ := H
                   refine xp _ rfl (p_fieldAddr (off := 5) (ft := 65) (size := 48) rfl u67 rfl Try.ti65 (by decide) rfl hpp_144) ?_
                   obtain ⟨adv_145, v_145, hev_145, hnv_145, hcv_145, H⟩ := H
                   refine xo_read (v := (.agg v_145)) rfl (wo rfl) (rd_loadN (ad := adv_145) rfl u65 rfl Try.ti65 (by show Value.pointer _ = _; rw [hev_145]) hnv_145 hcv_145) ?_
                   obtain ⟨c_146, hflc_146, H⟩ := H
                   refine xp (.agg c_146) rfl (p_buildS (places := #[(0, 1), (1, 48)]) rfl Try.pl199 Try.ti199 hflc_146 rfl) ?_
                   obtain ⟨hzq_148, H⟩ := H
                   refine xo_eff rfl (wo rfl) (e_buildAgg (size := 49) H rfl u102 Try.ti199 (by decide) (by decide) rfl hzq_148) ?_
                   rintro _ w_51 ⟨a_147, rfl, H⟩
                   refine xo_eff rfl (wo rfl) (e_app H rfl rfl rfl) ?_
                   rintro _ w_52 ⟨v_149, rfl, H⟩
                   refine xs (Sl.v v_149) rfl rfl ?_
                   refine xe ?_
                   refine ru4 0 (Sl.v l0) 5 (.pointer t5) 6 (I i6) 12 (Sl.v v_149) rfl rfl rfl rfl ?_
                   exact J39 (l0, t5, i6, v_149) _ _ H
                  ·clear H; intro hb40 H
                   refine r_skip ?_
                   refine ru4 0 (Sl.v l0) 5 (.pointer t5) 6 (I i6) 12 (Sl.v blocks12) rfl rfl rfl rfl ?_
                   exact J39 (l0, t5, i6, blocks12) _ _ H
              ·intro J29
               refine r_draw #[[], [0], [0, 1], [0, 1, 2], [0, 1, 2, 3], [0, 1, 2, 3, 4], [0, 1, 2, 3, 4, 5], [0, 1, 2, 3, 4, 5, 6], [0, 1, 2, 3, 4, 5, 6, 7], [0, 1, 2, 3, 4, 5, 6, 7], [0, 1, 2, 3, 4, 5, 6, 7, 8, 9], [0, 1, 2, 3, 4, 5, 6, 7, 8, 9, 10], [0, 1, 2, 3, 4, 5, 6, 7, 8, 9, 10, 11], [0, 1, 2, 3, 4, 5, 6, 7, 8, 9, 10, 11, 12], [0, 1, 2, 3, 4, 5, 6, 7], [0, 1, 2, 3, 4, 5, 6, 7], [0, 1, 2, 3, 4, 5, 6, 7, 14, 15], [0, 1, 2, 3, 4, 5, 6, 7, 14, 15, 16], [0, 1, 2, 3, 4, 5, 6, 7, 14, 15, 16, 17], [0, 1, 2, 3, 4, 5, 6, 7, 8, 9, 10, 11, 12, 13, 14, 15, 16, 17, 18], [0, 1, 2, 3, 4, 5, 6, 7, 8, 9, 10, 11, 12, 13, 14, 15, 16, 17, 18, 19]] 21 rfl rfl ?_
               obtain ⟨p_150, hpp_150, H⟩ := H
               refine ap 0 _ rfl rfl (p_fieldAddr (off := 0) (ft := 3) (size := 1) rfl u67 rfl Try.ti3 (by decide) rfl hpp_150) ?_
               obtain ⟨adv_151, v_151, hev_151, hcv_151, H⟩ := H
               refine ar 1 (I v_151) rfl rfl (wo rfl) rfl u3 rfl rfl hev_151 hcv_151 ?_
               refine ap 2 _ rfl rfl (p_eq rfl rfl rfl) ?_
               refine am 3 (.bool (decide (v_151 = 3))) rfl rfl rfl ?_
               refine ifB_cases H ?_ ?_
               ·clear H; intro hb41 H
                refine ay 4 (I had10) rfl rfl (wy 218 rfl rfl rfl hb41) (p_move rfl rfl) ?_
                refine ay 5 (.bool (decide (had10 < 0))) rfl rfl (wy 218 rfl rfl rfl hb41) (p_lt rfl rfl rfl) ?_
                refine ap 6 (.bool (decide (had10 < 0))) rfl rfl (p_pickT rfl rfl hb41 rfl) ?_
                refine am 7 (.bool (decide (had10 < 0))) rfl rfl rfl ?_
                refine ifB_cases H ?_ ?_
                ·clear H; intro hb42 H
                 refine ay 8 (Sl.v l0) rfl rfl (wy 222 rfl rfl rfl hb42) (p_move rfl rfl) ?_
                 refine ay 9 (I i6) rfl rfl (wy 222 rfl rfl rfl hb42) (p_move rfl rfl) ?_
                 obtain ⟨p_152, hap_152, hlp_152, hup_152, H⟩ := H
                 refine ay 10 (.pointer (some (p_152.add (i6.toNat * 4)))) rfl rfl (wy 222 rfl rfl rfl hb42) (p_indexAddr (s := l0) (ad := p_152) (size := 4) rfl u100 Try.ti104 rfl rfl hap_152 hlp_152 hup_152) ?_
                 refine ay 11 (.pointer (some ((p_152.add (i6.toNat * 4)).add 3))) rfl rfl (wy 222 rfl rfl rfl hb42) (p_fieldAddr (off := 3) (ft := 102) (size := 1) rfl u104 rfl Try.ti102 (by decide) rfl rfl) ?_
                 obtain ⟨adv_153, v_153, hev_153, hcv_153, H⟩ := H
                 refine ar 12 (Sl.v v_153) rfl rfl (wy 222 rfl rfl rfl hb42) rfl u102 rfl rfl hev_153 hcv_153 ?_
                 refine ay 13 (I (v_153.len : Int)) rfl rfl (wy 222 rfl rfl rfl hb42) (p_len rfl u102 rfl) ?_
                 refine ay 14 (Sl.v l0) rfl rfl (wy 222 rfl rfl rfl hb42) (p_move rfl rfl) ?_
                 refine ay 15 (I i6) rfl rfl (wy 222 rfl rfl rfl hb42) (p_move rfl rfl) ?_
                 obtain ⟨p_154, hap_154, hlp_154, hup_154, H⟩ := H
                 refine ay 16 (.pointer (some (p_154.add (i6.toNat * 4)))) rfl rfl (wy 222 rfl rfl rfl hb42) (p_indexAddr (s := l0) (ad := p_154) (size := 4) rfl u100 Try.ti104 rfl rfl hap_154 hlp_154 hup_154) ?_
                 refine ay 17 (.pointer (some ((p_154.add (i6.toNat * 4)).add 1))) rfl rfl (wy 222 rfl rfl rfl hb42) (p_fieldAddr (off := 1) (ft := 3) (size := 1) rfl u104 rfl Try.ti3 (by decide) rfl rfl) ?_
                 obtain ⟨adv_155, v_155, hev_155, hcv_155, H⟩ := H
                 refine ar 18 (I v_155) rfl rfl (wy 222 rfl rfl rfl hb42) rfl u3 rfl rfl hev_155 hcv_155 ?_
                 refine ay 19 (.bool (decide (v_155 ≤ (v_153.len : Int)))) rfl rfl (wy 222 rfl rfl rfl hb42) (p_ge rfl rfl rfl) ?_
                 refine ap 20 (.bool (decide (v_155 ≤ (v_153.len : Int)))) rfl rfl (p_pickT rfl rfl hb42 rfl) ?_
                 refine ax ?_
                 refine ru4 0 (Sl.v l0) 3 (.pointer o3) 5 (.pointer t5) 6 (I i6) rfl rfl rfl rfl ?_
                 refine ru 235 (.bool (decide (v_155 ≤ (v_153.len : Int)))) rfl ?_
                 exact J29 (l0, o3, t5, i6, (decide (v_155 ≤ (v_153.len : Int)))) _ _ H
                ·clear H; intro hb42 H
                 refine ak 8 rfl rfl (wn 222 rfl rfl rfl hb42) ?_
                 refine ak 9 rfl rfl (wn 222 rfl rfl rfl hb42) ?_
                 refine ak 10 rfl rfl (wn 222 rfl rfl rfl hb42) ?_
                 refine ak 11 rfl rfl (wn 222 rfl rfl rfl hb42) ?_
                 refine ak 12 rfl rfl (wn 222 rfl rfl rfl hb42) ?_
                 refine ak 13 rfl rfl (wn 222 rfl rfl rfl hb42) ?_
                 refine ak 14 rfl rfl (wn 222 rfl rfl rfl hb42) ?_
                 refine ak 15 rfl rfl (wn 222 rfl rfl rfl hb42) ?_
                 refine ak 16 rfl rfl (wn 222 rfl rfl rfl hb42) ?_
                 refine ak 17 rfl rfl (wn 222 rfl rfl rfl hb42) ?_
                 refine ak 18 rfl rfl (wn 222 rfl rfl rfl hb42) ?_
                 refine ak 19 rfl rfl (wn 222 rfl rfl rfl hb42) ?_
                 refine ap 20 (.bool false) rfl rfl (p_pickF rfl rfl hb42 rfl) ?_
                 refine ax ?_
                 refine ru4 0 (Sl.v l0) 3 (.pointer o3) 5 (.pointer t5) 6 (I i6) rfl rfl rfl rfl ?_
                 refine ru 235 (.bool false) rfl ?_
                 exact J29 (l0, o3, t5, i6, false) _ _ H
               ·clear H; intro hb41 H
                refine ak 4 rfl rfl (wn 218 rfl rfl rfl hb41) ?_
                refine ak 5 rfl rfl (wn 218 rfl rfl rfl hb41) ?_
                refine ap 6 (.bool false) rfl rfl (p_pickF rfl rfl hb41 rfl) ?_
                refine am 7 (.bool false) rfl rfl rfl ?_
                refine ak 8 rfl rfl (wn 222 rfl rfl rfl rfl) ?_
                refine ak 9 rfl rfl (wn 222 rfl rfl rfl rfl) ?_
                refine ak 10 rfl rfl (wn 222 rfl rfl rfl rfl) ?_
                refine ak 11 rfl rfl (wn 222 rfl rfl rfl rfl) ?_
                refine ak 12 rfl rfl (wn 222 rfl rfl rfl rfl) ?_
                refine ak 13 rfl rfl (wn 222 rfl rfl rfl rfl) ?_
                refine ak 14 rfl rfl (wn 222 rfl rfl rfl rfl) ?_
                refine ak 15 rfl rfl (wn 222 rfl rfl rfl rfl) ?_
                refine ak 16 rfl rfl (wn 222 rfl rfl rfl rfl) ?_
                refine ak 17 rfl rfl (wn 222 rfl rfl rfl rfl) ?_
                refine ak 18 rfl rfl (wn 222 rfl rfl rfl rfl) ?_
                refine ak 19 rfl rfl (wn 222 rfl rfl rfl rfl) ?_
                refine ap 20 (.bool false) rfl rfl (p_pickF rfl rfl rfl rfl) ?_
                refine ax ?_
                refine ru4 0 (Sl.v l0) 3 (.pointer o3) 5 (.pointer t5) 6 (I i6) rfl rfl rfl rfl ?_
                refine ru 235 (.bool false) rfl ?_
                exact J29 (l0, o3, t5, i6, false) _ _ H
         ·intro J20
          refine r_region ?_
          obtain ⟨p_156, hpp_156, H⟩ := H
          refine xp _ rfl (p_fieldAddr (off := 3) (ft := 3) (size := 1) rfl u67 rfl Try.ti3 (by decide) rfl hpp_156) ?_
          obtain ⟨adv_157, v_157, hev_157, hcv_157, H⟩ := H
          refine xr (I v_157) rfl (wo rfl) rfl u3 rfl rfl hev_157 hcv_157 ?_
          refine xp _ rfl (p_lt rfl rfl rfl) ?_
          refine xm (.bool (decide (v_157 < 0))) rfl rfl ?_
          refine ifB_cases H ?_ ?_
          ·clear H; intro hb43 H
           refine xo_skip rfl (wn 160 rfl rfl rfl hb43) ?_
           refine xo_skip rfl (wn 160 rfl rfl rfl hb43) ?_
           refine xo_skip rfl (wn 160 rfl rfl rfl hb43) ?_
           refine xp (.bool true) rfl (p_pickT rfl rfl hb43 rfl) ?_
           refine xe ?_
           refine ru4 0 (Sl.v l0) 3 (.pointer o3) 5 (.pointer t5) 6 (I i6) rfl rfl rfl rfl ?_
           refine ru 164 (.bool true) rfl ?_
           exact J20 (l0, o3, t5, i6, true) _ _ H
          ·clear H; intro hb43 H
           obtain ⟨p_158, hpp_158, H⟩ := H
           refine yp (.pointer (some (p_158.add 3))) rfl (wy 160 rfl rfl rfl hb43) (p_fieldAddr (off := 3) (ft := 3) (size := 1) rfl u67 rfl Try.ti3 (by decide) rfl hpp_158) ?_
           obtain ⟨adv_159, v_159, hev_159, hcv_159, H⟩ := H
           refine xr (I v_159) rfl (wy 160 rfl rfl rfl hb43) rfl u3 rfl rfl hev_159 hcv_159 ?_
           refine yp (.bool (decide (1048576 ≤ v_159))) rfl (wy 160 rfl rfl rfl hb43) (p_ge rfl rfl rfl) ?_
           refine xp (.bool (decide (1048576 ≤ v_159))) rfl (p_pickF rfl rfl hb43 rfl) ?_
           refine xe ?_
           refine ru4 0 (Sl.v l0) 3 (.pointer o3) 5 (.pointer t5) 6 (I i6) rfl rfl rfl rfl ?_
           refine ru 164 (.bool (decide (1048576 ≤ v_159))) rfl ?_
           exact J20 (l0, o3, t5, i6, (decide (1048576 ≤ v_159))) _ _ H
     ·intro J16
      refine r_region ?_
      obtain ⟨p_160, hpp_160, H⟩ := H
      refine xp _ rfl (p_fieldAddr (off := 0) (ft := 3) (size := 1) rfl u67 rfl Try.ti3 (by decide) rfl hpp_160) ?_
      obtain ⟨adv_161, v_161, hev_161, hcv_161, H⟩ := H
      refine xr (I v_161) rfl (wo rfl) rfl u3 rfl rfl hev_161 hcv_161 ?_
      refine xp _ rfl (p_lt rfl rfl rfl) ?_
      refine xm (.bool (decide (v_161 < 1))) rfl rfl ?_
      refine ifB_cases H ?_ ?_
      ·clear H; intro hb44 H
       refine xo_skip rfl (wn 132 rfl rfl rfl hb44) ?_
       refine xo_skip rfl (wn 132 rfl rfl rfl hb44) ?_
       refine xo_skip rfl (wn 132 rfl rfl rfl hb44) ?_
       refine xp (.bool true) rfl (p_pickT rfl rfl hb44 rfl) ?_
       refine xe ?_
       refine ru4 0 (Sl.v l0) 3 (.pointer o3) 5 (.pointer t5) 6 (I i6) rfl rfl rfl rfl ?_
       refine ru 136 (.bool true) rfl ?_
       exact J16 (l0, o3, t5, i6, true) _ _ H
      ·clear H; intro hb44 H
       obtain ⟨p_162, hpp_162, H⟩ := H
       refine yp (.pointer (some (p_162.add 0))) rfl (wy 132 rfl rfl rfl hb44) (p_fieldAddr (off := 0) (ft := 3) (size := 1) rfl u67 rfl Try.ti3 (by decide) rfl hpp_162) ?_
       obtain ⟨adv_163, v_163, hev_163, hcv_163, H⟩ := H
       refine xr (I v_163) rfl (wy 132 rfl rfl rfl hb44) rfl u3 rfl rfl hev_163 hcv_163 ?_
       refine yp (.bool (decide (8 < v_163))) rfl (wy 132 rfl rfl rfl hb44) (p_gt rfl rfl rfl) ?_
       refine xp (.bool (decide (8 < v_163))) rfl (p_pickF rfl rfl hb44 rfl) ?_
       refine xe ?_
       refine ru4 0 (Sl.v l0) 3 (.pointer o3) 5 (.pointer t5) 6 (I i6) rfl rfl rfl rfl ?_
       refine ru 136 (.bool (decide (8 < v_163))) rfl ?_
       exact J16 (l0, o3, t5, i6, (decide (8 < v_163))) _ _ H
   ·intro J7
    refine r_region ?_
    refine xp _ rfl (p_fieldAddr (off := 0) (ft := 3) (size := 1) rfl u67 rfl Try.ti3 (by decide) rfl rfl) ?_
    obtain ⟨adv_164, v_164, hev_164, hcv_164, H⟩ := H
    refine xr (I v_164) rfl (wo rfl) rfl u3 rfl rfl hev_164 hcv_164 ?_
    refine xp _ rfl (p_eq rfl rfl rfl) ?_
    refine xm (.bool (decide (v_164 = 6))) rfl rfl ?_
    refine ifB_cases H ?_ ?_
    ·clear H; intro hb45 H
     refine xo_skip rfl (wn 69 rfl rfl rfl hb45) ?_
     refine xo_skip rfl (wn 69 rfl rfl rfl hb45) ?_
     refine xo_skip rfl (wn 69 rfl rfl rfl hb45) ?_
     refine xp (.bool true) rfl (p_pickT rfl rfl hb45 rfl) ?_
     refine xe ?_
     refine ru4 0 (Sl.v l0) 3 (.pointer (some a_1)) 5 (.pointer (some a_2)) 6 (I v_5) rfl rfl rfl rfl ?_
     refine ru 73 (.bool true) rfl ?_
     exact J7 (l0, (some a_1), (some a_2), v_5, true) _ _ H
    ·clear H; intro hb45 H
     refine yp (.pointer (some (a_1.add 0))) rfl (wy 69 rfl rfl rfl hb45) (p_fieldAddr (off := 0) (ft := 3) (size := 1) rfl u67 rfl Try.ti3 (by decide) rfl rfl) ?_
     obtain ⟨adv_165, v_165, hev_165, hcv_165, H⟩ := H
     refine xr (I v_165) rfl (wy 69 rfl rfl rfl hb45) rfl u3 rfl rfl hev_165 hcv_165 ?_
     refine yp (.bool (decide (v_165 = 7))) rfl (wy 69 rfl rfl rfl hb45) (p_eq rfl rfl rfl) ?_
     refine xp (.bool (decide (v_165 = 7))) rfl (p_pickF rfl rfl hb45 rfl) ?_
     refine xe ?_
     refine ru4 0 (Sl.v l0) 3 (.pointer (some a_1)) 5 (.pointer (some a_2)) 6 (I v_5) rfl rfl rfl rfl ?_
     refine ru 73 (.bool (decide (v_165 = 7))) rfl ?_
     exact J7 (l0, (some a_1), (some a_2), v_5, (decide (v_165 = 7))) _ _ H

/-! 64 (*sporran/model.Model).Distinct -/
def f64_b1 (R : Value → World → Prop) (ag1 : (Option Nat × Value) → World → Prop) (ag3 : (Option Nat × Value × Value) → World → Prop) (all3 : Option Nat) (t13 : Value) (t22 : Value) (w : World) : Prop :=
 Ef Try.prog (Instr.next t22 false 0) id w fun u_16 w_6 => AsNext u_16 fun vs_14 b_15 =>
 IfB b_15 (
  Ef Try.prog (Instr.entry t22) id w_6 fun u_19 w_7 => AsT2 (Value.int .i64) Value.agg u_19 fun v_17 v_18 =>
  New Try.z65 65 w_7 fun a_20 w_8 =>
  StN 48 (some a_20) v_18 w_8 fun w_9 =>
  LdN 48 (some a_20) w_9 fun v_21 =>
  EfU Try.prog (Instr.mapUpdate 230 (.map all3) (.agg v_21) (.bool true)) w_9 fun w_10 =>
  ag3 (all3, t13, t22) w_10) (
  ag1 (all3, t13) w_6)
def f64_b0 (R : Value → World → Prop) (ag1 : (Option Nat × Value) → World → Prop) (all3 : Option Nat) (t13 : Value) (w : World) : Prop :=
 Ef Try.prog (Instr.next t13 false 0) id w fun u_7 w_3 => AsNext u_7 fun vs_5 b_6 =>
 IfB b_6 (
  Ef Try.prog (Instr.entry t13) id w_3 fun u_10 w_4 => AsT2 Value.string Value.pointer u_10 fun v_8 v_9 =>
  NotNil v_9 fun p_11 =>
  Ld Value.map (some (p_11.add 2)) w_4 fun v_12 =>
  Ef Try.prog (Instr.range 168 (.map v_12)) id w_4 fun v_13 w_5 =>
  Lp (fun ag (s : Option Nat × Value × Value) w => f64_b1 R ag1 ag s.1 s.2.1 s.2.2 w) (all3, t13, v_13) w_5) (
  Ef Try.prog (Builtin.len_ #[230] 3 #[(.map all3)]) (Value.int .i64) w_3 fun v_22 w_11 =>
  R (.int .i64 v_22) w_11)
def f64 (R : Value → World → Prop) (m0 : Option Addr) (w : World) : Prop :=
 Ef Try.prog (Instr.makeMap 230 none) Value.map w fun v_1 w_1 =>
 NotNil m0 fun p_2 =>
 Ld Value.map (some (p_2.add 0)) w_1 fun v_3 =>
 Ef Try.prog (Instr.range 163 (.map v_3)) id w_1 fun v_4 w_2 =>
 Lp (fun ag (s : Option Nat × Value) w => f64_b0 R ag s.1 s.2 w) (v_1, v_4) w_2
theorem f64_ok (R : Value → World → Prop) (m0 : Option Addr) (w : World) (H : f64 R m0 w) : CallF Try.prog 64 #[(.pointer m0)] w R := by
 refine calls_of_runs (fn := Try.f64) Try.func64 rfl (Nat.le_of_ble_eq_true rfl) ?_
 show Runs _ _ 31 _ _ _ _
 unfold f64 at H
 refine ru 0 (.pointer m0) rfl ?_
 refine sr ?_
 refine xs (I 0) rfl rfl ?_
 refine xe ?_
 refine sr ?_
 refine xo_eff rfl (wo rfl) (e_gen (s := Instr.makeMap 230 none) (enc := Value.map) rfl H) ?_
 rintro _ w_1 ⟨v_1, rfl, H⟩
 refine xs (.map v_1) rfl rfl ?_
 refine xe ?_
 refine r_seq ?_
 refine sr ?_
 refine xm (.pointer m0) rfl rfl ?_
 obtain ⟨p_2, hpp_2, H⟩ := H
 refine xp (.pointer (some p_2)) rfl (p_nilCheck rfl rfl hpp_2) ?_
 refine xp _ rfl (p_fieldAddr (off := 0) (ft := 163) (size := 1) rfl u165 rfl Try.ti163 (by decide) rfl rfl) ?_
 obtain ⟨adv_3, v_3, hev_3, hcv_3, H⟩ := H
 refine xr (.map v_3) rfl (wo rfl) rfl u163 rfl rfl hev_3 hcv_3 ?_
 refine xo_eff rfl (wo rfl) (e_genV (s := Instr.range 163 (.map v_3)) rfl H) ?_
 intro v_4 w_2 H
 refine xe ?_
 refine r_block ?_
 refine ru2 3 (.map v_1) 13 v_4 rfl rfl ?_
 refine r_loopJ (fun (s : Option Nat × Value) σ => upd 13 s.2 (upd 3 (.map s.1) (σ))) (s := (v_1, v_4)) H ?_
 clear H
 rintro ag1 ⟨all3, t13⟩ σ w H hag1
 replace H : f64_b0 R ag1 all3 t13 w := H
 try dsimp only
 unfold f64_b0 at H
 refine sr ?_
 refine xo_eff rfl (wo rfl) (e_genV (s := Instr.next t13 false 0) rfl H) ?_
 rintro _ w_3 ⟨vs_5, b_6, rfl, hxb_6, H⟩
 refine xp (.bool b_6) rfl (p_extract (vs := vs_5) rfl rfl hxb_6) ?_
 refine xe ?_
 refine r_seq ?_
 refine r_condB (b := b_6) rfl H ?_ ?_
 ·clear H; intro hb2 H
  refine r_skip ?_
  refine r_block ?_
  refine sr ?_
  refine xo_eff rfl (wo rfl) (e_genV (s := Instr.entry t13) rfl H) ?_
  rintro _ w_4 ⟨v_8, v_9, rfl, H⟩
  refine xp (.pointer v_9) rfl (p_extract (vs := #[(.string v_8), (.pointer v_9)]) rfl rfl rfl) ?_
  refine xs (.pointer v_9) rfl rfl ?_
  refine xe ?_
  refine sr ?_
  refine xm (.pointer v_9) rfl rfl ?_
  obtain ⟨p_11, hpp_11, H⟩ := H
  refine xp (.pointer (some p_11)) rfl (p_nilCheck rfl rfl hpp_11) ?_
  refine xp _ rfl (p_fieldAddr (off := 2) (ft := 168) (size := 1) rfl u170 rfl Try.ti168 (by decide) rfl rfl) ?_
  obtain ⟨adv_12, v_12, hev_12, hcv_12, H⟩ := H
  refine xr (.map v_12) rfl (wo rfl) rfl u168 rfl rfl hev_12 hcv_12 ?_
  refine xo_eff rfl (wo rfl) (e_genV (s := Instr.range 168 (.map v_12)) rfl H) ?_
  intro v_13 w_5 H
  refine xe ?_
  refine r_block ?_
  refine ru3 3 (.map all3) 13 t13 22 v_13 rfl rfl rfl ?_
  refine r_loopJ (fun (s : Option Nat × Value × Value) σ => upd 22 s.2.2 (upd 13 s.2.1 (upd 3 (.map s.1) (σ)))) (s := (all3, t13, v_13)) H ?_
  clear H
  rintro ag3 ⟨all3, t13, t22⟩ σ w H hag3
  replace H : f64_b1 R ag1 ag3 all3 t13 t22 w := H
  try dsimp only
  unfold f64_b1 at H
  refine sr ?_
  refine xo_eff rfl (wo rfl) (e_genV (s := Instr.next t22 false 0) rfl H) ?_
  rintro _ w_6 ⟨vs_14, b_15, rfl, hxb_15, H⟩
  refine xp (.bool b_15) rfl (p_extract (vs := vs_14) rfl rfl hxb_15) ?_
  refine xe ?_
  refine r_seq ?_
  refine r_condB (b := b_15) rfl H ?_ ?_
  ·clear H; intro hb4 H
   refine r_skip ?_
   refine r_block ?_
   refine sr ?_
   refine xo_eff rfl (wo rfl) (e_genV (s := Instr.entry t22) rfl H) ?_
   rintro _ w_7 ⟨v_17, v_18, rfl, H⟩
   refine xp (.agg v_18) rfl (p_extract (vs := #[(I v_17), (.agg v_18)]) rfl rfl rfl) ?_
   refine xo_eff rfl (wo rfl) (e_alloc rfl Try.ti65 H) ?_
   rintro _ w_8 ⟨a_20, rfl, H⟩
   refine xo_effN rfl (wo rfl) (e_storeN rfl Try.ti65 rfl rfl H) ?_
   intro _ w_9 H
   refine xe ?_
   refine r_region ?_
   refine xm (.map all3) rfl rfl ?_
   obtain ⟨adv_21, v_21, hev_21, hnv_21, hcv_21, H⟩ := H
   refine xo_read (v := (.agg v_21)) rfl (wo rfl) (rd_loadN (ad := adv_21) rfl u65 rfl Try.ti65 (by show Value.pointer _ = _; rw [hev_21]) hnv_21 hcv_21) ?_
   refine xo_effN rfl (wo rfl) (e_genU rfl H) ?_
   intro _ w_10 H
   refine xe ?_
   refine r_inBlock ?_
   refine ru3 3 (.map all3) 13 t13 22 t22 rfl rfl rfl ?_
   exact hag3 (all3, t13, t22) _ _ H
  ·clear H; intro hb4 H
   refine r_exit rfl ?_
   refine r_inBlock ?_
   refine ru2 3 (.map all3) 13 t13 rfl rfl ?_
   exact hag1 (all3, t13) _ _ H
 ·clear H; intro hb2 H
  refine r_exit rfl ?_
  refine sr ?_
  refine xm (.map all3) rfl rfl ?_
  refine xo_eff rfl (wo rfl) (e_bi (b := .len) (enc := Value.int .i64) H rfl rfl rfl) ?_
  rintro _ w_11 ⟨v_22, rfl, H⟩
  refine xs (I v_22) rfl rfl ?_
  refine xe ?_
  exact r_ret (fn := Try.f64) Try.func64 (res_1 rfl ⟨by decide, rfl⟩) H

/-! 65 sporran/sporranref15.Blocks -/
def f65_k2 (R : Value → World → Prop) (ag1 : (Sl × Sl × Int) → World → Prop) (ag3 : (Sl × Sl × Int × Int) → World → Prop) (l0 : Sl) (out3 : Sl) (i4 : Int) (k5 : Int) (w : World) : Prop :=
 ag3 (l0, out3, i4, (IntKind.i64.wrap (k5 + 1))) w
def f65_k4 (R : Value → World → Prop) (ag1 : (Sl × Sl × Int) → World → Prop) (ag3 : (Sl × Sl × Int × Int) → World → Prop) (ag6 : (Sl × Sl × Int × Int × Option Addr × Bool × Int) → World → Prop) (l0 : Sl) (out3 : Sl) (i4 : Int) (k5 : Int) (b6 : Option Addr) (there7 : Bool) (j8 : Int) (w : World) : Prop :=
 ag6 (l0, out3, i4, k5, b6, there7, (IntKind.i64.wrap (j8 + 1))) w
def f65_b3 (R : Value → World → Prop) (ag1 : (Sl × Sl × Int) → World → Prop) (ag3 : (Sl × Sl × Int × Int) → World → Prop) (ag6 : (Sl × Sl × Int × Int × Option Addr × Bool × Int) → World → Prop) (l0 : Sl) (out3 : Sl) (i4 : Int) (k5 : Int) (b6 : Option Addr) (there7 : Bool) (j8 : Int) (w : World) : Prop :=
 IfB (decide (j8 < (out3.len : Int))) (
  IfB there7 (
   f65_k4 R ag1 ag3 ag6 l0 out3 i4 k5 b6 true j8 (World.drew w)) (
   Ix out3 j8 fun p_9 =>
   LdN 48 (some (p_9.add (j8.toNat * 48))) (World.drew w) fun v_10 =>
   LdN 48 b6 (World.drew w) fun v_11 =>
   AggEq Try.prog 65 v_10 v_11 fun b_12 =>
   f65_k4 R ag1 ag3 ag6 l0 out3 i4 k5 b6 b_12 j8 (World.drew w))) (
  IfB (!there7) (
   LdN 48 b6 w fun v_13 =>
   v_13.size = 48 ∧ (
   New v_13 65 w fun a_14 w_5 =>
   Ef Try.prog (Builtin.append_ #[126, 126] 126 #[(Sl.v out3), (Sl.v ⟨some a_14, 1, 1⟩)]) Sl.v w_5 fun v_16 w_6 =>
   f65_k2 R ag1 ag3 l0 v_16 i4 k5 w_6)) (
   f65_k2 R ag1 ag3 l0 out3 i4 k5 w))
def f65_b1 (R : Value → World → Prop) (ag1 : (Sl × Sl × Int) → World → Prop) (ag3 : (Sl × Sl × Int × Int) → World → Prop) (l0 : Sl) (out3 : Sl) (i4 : Int) (k5 : Int) (w : World) : Prop :=
 Ix l0 i4 fun p_2 =>
 Ld Sl.v (some ((p_2.add (i4.toNat * 4)).add 3)) w fun v_3 =>
 IfB (decide (k5 < (v_3.len : Int))) (
  Ix l0 i4 fun p_4 =>
  Ld Sl.v (some ((p_4.add (i4.toNat * 4)).add 3)) w fun v_5 =>
  Ix v_5 k5 fun p_6 =>
  LdN 48 (some ((p_6.add (k5.toNat * 49)).add 1)) w fun v_7 =>
  New Try.z65 65 w fun a_8 w_2 =>
  StN 48 (some a_8) v_7 w_2 fun w_3 =>
  Lp (fun ag (s : Sl × Sl × Int × Int × Option Addr × Bool × Int) w => f65_b3 R ag1 ag3 ag s.1 s.2.1 s.2.2.1 s.2.2.2.1 s.2.2.2.2.1 s.2.2.2.2.2.1 s.2.2.2.2.2.2 w) (l0, out3, i4, k5, (some a_8), false, 0) w_3) (
  ag1 (l0, out3, (IntKind.i64.wrap (i4 + 1))) w)
def f65_b0 (R : Value → World → Prop) (ag1 : (Sl × Sl × Int) → World → Prop) (l0 : Sl) (out3 : Sl) (i4 : Int) (w : World) : Prop :=
 IfB (decide (i4 < (l0.len : Int))) (
  Lp (fun ag (s : Sl × Sl × Int × Int) w => f65_b1 R ag1 ag s.1 s.2.1 s.2.2.1 s.2.2.2 w) (l0, out3, i4, 0) w) (
  R (Sl.v out3) w)
def f65 (R : Value → World → Prop) (l0 : Sl) (w : World) : Prop :=
 New #[] 65 w fun a_1 w_1 =>
 Lp (fun ag (s : Sl × Sl × Int) w => f65_b0 R ag s.1 s.2.1 s.2.2 w) (l0, ⟨some a_1, 0, 0⟩, 0) w_1
theorem f65_ok (R : Value → World → Prop) (l0 : Sl) (w : World) (H : f65 R l0 w) : CallF Try.prog 65 #[(Sl.v l0)] w R := by
 refine calls_of_runs (fn := Try.f65) Try.func65 rfl (Nat.le_of_ble_eq_true rfl) ?_
 show Runs _ _ 57 _ _ _ _
 unfold f65 at H
 refine ru 0 (Sl.v l0) rfl ?_
 refine sr ?_
 refine xs (Sl.v Sl.nil) rfl rfl ?_
 refine xe ?_
 refine sr ?_
 refine xo_eff rfl (wo rfl) (e_buildSlice0 rfl u126 Try.ti65 H) ?_
 rintro _ w_1 ⟨a_1, rfl, H⟩
 refine xs (Sl.v ⟨some a_1, 0, 0⟩) rfl rfl ?_
 refine xe ?_
 refine r_seq ?_
 refine sr ?_
 refine xs (I 0) rfl rfl ?_
 refine xe ?_
 refine r_block ?_
 refine ru3 0 (Sl.v l0) 3 (Sl.v ⟨some a_1, 0, 0⟩) 4 (I 0) rfl rfl rfl ?_
 refine r_loopJ (fun (s : Sl × Sl × Int) σ => upd 4 (I s.2.2) (upd 3 (Sl.v s.2.1) (upd 0 (Sl.v s.1) (σ)))) (s := (l0, ⟨some a_1, 0, 0⟩, 0)) H ?_
 clear H
 rintro ag1 ⟨l0, out3, i4⟩ σ w H hag1
 replace H : f65_b0 R ag1 l0 out3 i4 w := H
 try dsimp only
 unfold f65_b0 at H
 refine r_seq ?_
 refine sr ?_
 refine xm (I i4) rfl rfl ?_
 refine xm (Sl.v l0) rfl rfl ?_
 refine xp (I (l0.len : Int)) rfl (p_len rfl u100 rfl) ?_
 refine xp _ rfl (p_lt rfl rfl rfl) ?_
 refine xe ?_
 refine r_condB (b := (decide (i4 < (l0.len : Int)))) rfl H ?_ ?_
 ·clear H; intro hb2 H
  refine r_skip ?_
  refine sb ?_
  refine sr ?_
  refine xs (I 0) rfl rfl ?_
  refine xe ?_
  refine r_block ?_
  refine ru4 0 (Sl.v l0) 3 (Sl.v out3) 4 (I i4) 5 (I 0) rfl rfl rfl rfl ?_
  refine r_loopJ (fun (s : Sl × Sl × Int × Int) σ => upd 5 (I s.2.2.2) (upd 4 (I s.2.2.1) (upd 3 (Sl.v s.2.1) (upd 0 (Sl.v s.1) (σ))))) (s := (l0, out3, i4, 0)) H ?_
  clear H
  rintro ag3 ⟨l0, out3, i4, k5⟩ σ w H hag3
  replace H : f65_b1 R ag1 ag3 l0 out3 i4 k5 w := H
  try dsimp only
  unfold f65_b1 at H
  refine r_seq ?_
  refine sr ?_
  refine xm (I k5) rfl rfl ?_
  refine xm (Sl.v l0) rfl rfl ?_
  refine xm (I i4) rfl rfl ?_
  obtain ⟨p_2, hap_2, hlp_2, hup_2, H⟩ := H
  refine xp _ rfl (p_indexAddr (s := l0) (ad := p_2) (size := 4) rfl u100 Try.ti104 rfl rfl hap_2 hlp_2 hup_2) ?_
  refine xp _ rfl (p_fieldAddr (off := 3) (ft := 102) (size := 1) rfl u104 rfl Try.ti102 (by decide) rfl rfl) ?_
  obtain ⟨adv_3, v_3, hev_3, hcv_3, H⟩ := H
  refine xr (Sl.v v_3) rfl (wo rfl) rfl u102 rfl rfl hev_3 hcv_3 ?_
  refine xp (I (v_3.len : Int)) rfl (p_len rfl u102 rfl) ?_
  refine xp _ rfl (p_lt rfl rfl rfl) ?_
  refine xe ?_
  refine r_condB (b := (decide (k5 < (v_3.len : Int)))) rfl H ?_ ?_
  ·clear H; intro hb4 H
   refine r_skip ?_
   refine r_seqJ (fun (s : Sl × Sl × Int × Int) σ => upd 5 (I s.2.2.2) (upd 4 (I s.2.2.1) (upd 3 (Sl.v s.2.1) (upd 0 (Sl.v s.1) (σ))))) (fun (s : Sl × Sl × Int × Int) w => f65_k2 R ag1 ag3 s.1 s.2.1 s.2.2.1 s.2.2.2 w) ?_ ?_
   ·rintro ⟨l0, out3, i4, k5⟩ σ w H
    replace H : f65_k2 R ag1 ag3 l0 out3 i4 k5 w := H
    try dsimp only
    unfold f65_k2 at H
    refine r_region ?_
    refine xm (I k5) rfl rfl ?_
    refine xp _ rfl (p_add rfl rfl rfl) ?_
    refine xs (I (W (k5 + 1))) rfl rfl ?_
    refine xe ?_
    refine ru4 0 (Sl.v l0) 3 (Sl.v out3) 4 (I i4) 5 (I (W (k5 + 1))) rfl rfl rfl rfl ?_
    exact hag3 (l0, out3, i4, (W (k5 + 1))) _ _ H
   ·intro J5
    refine r_block ?_
    refine sr ?_
    refine xm (Sl.v l0) rfl rfl ?_
    refine xm (I i4) rfl rfl ?_
    obtain ⟨p_4, hap_4, hlp_4, hup_4, H⟩ := H
    refine xp _ rfl (p_indexAddr (s := l0) (ad := p_4) (size := 4) rfl u100 Try.ti104 rfl rfl hap_4 hlp_4 hup_4) ?_
    refine xp _ rfl (p_fieldAddr (off := 3) (ft := 102) (size := 1) rfl u104 rfl Try.ti102 (by decide) rfl rfl) ?_
    obtain ⟨adv_5, v_5, hev_5, hcv_5, H⟩ := H
    refine xr (Sl.v v_5) rfl (wo rfl) rfl u102 rfl rfl hev_5 hcv_5 ?_
    refine xm (I k5) rfl rfl ?_
    obtain ⟨p_6, hap_6, hlp_6, hup_6, H⟩ := H
    refine xp _ rfl (p_indexAddr (s := v_5) (ad := p_6) (size := 49) rfl u102 Try.ti199 rfl rfl hap_6 hlp_6 hup_6) ?_
    refine xp _ rfl (p_fieldAddr (off := 1) (ft := 65) (size := 48) rfl u199 rfl Try.ti65 (by decide) rfl rfl) ?_
    obtain ⟨adv_7, v_7, hev_7, hnv_7, hcv_7, H⟩ := H
    refine xo_read (v := (.agg v_7)) rfl (wo rfl) (rd_loadN (ad := adv_7) rfl u65 rfl Try.ti65 (by show Value.pointer _ = _; rw [hev_7]) hnv_7 hcv_7) ?_
    refine xo_eff rfl (wo rfl) (e_alloc rfl Try.ti65 H) ?_
    rintro _ w_2 ⟨a_8, rfl, H⟩
    refine xo_effN rfl (wo rfl) (e_storeN rfl Try.ti65 rfl rfl H) ?_
    intro _ w_3 H
    refine xe ?_
    refine sr ?_
    refine xs (.bool false) rfl rfl ?_
    refine xe ?_
    refine r_seq ?_
    refine sr ?_
    refine xs (I 0) rfl rfl ?_
    refine xe ?_
    refine r_block ?_
    refine ru4 0 (Sl.v l0) 3 (Sl.v out3) 4 (I i4) 5 (I k5) rfl rfl rfl rfl ?_
    refine ru3 6 (.pointer (some a_8)) 7 (.bool false) 8 (I 0) rfl rfl rfl ?_
    refine r_loopJ (fun (s : Sl × Sl × Int × Int × Option Addr × Bool × Int) σ => upd 8 (I s.2.2.2.2.2.2) (upd 7 (.bool s.2.2.2.2.2.1) (upd 6 (.pointer s.2.2.2.2.1) (upd 5 (I s.2.2.2.1) (upd 4 (I s.2.2.1) (upd 3 (Sl.v s.2.1) (upd 0 (Sl.v s.1) (σ)))))))) (s := (l0, out3, i4, k5, (some a_8), false, 0)) H ?_
    clear H
    rintro ag6 ⟨l0, out3, i4, k5, b6, there7, j8⟩ σ w H hag6
    replace H : f65_b3 R ag1 ag3 ag6 l0 out3 i4 k5 b6 there7 j8 w := H
    try dsimp only
    unfold f65_b3 at H
    refine r_seq ?_
    refine sr ?_
    refine xm (I j8) rfl rfl ?_
    refine xm (Sl.v out3) rfl rfl ?_
    refine xp (I (out3.len : Int)) rfl (p_len rfl u126 rfl) ?_
    refine xp _ rfl (p_lt rfl rfl rfl) ?_
    refine xe ?_
    refine r_condB (b := (decide (j8 < (out3.len : Int)))) rfl H ?_ ?_
    ·clear H; intro hb7 H
     refine r_skip ?_
     refine sb ?_
     refine r_topJ (fun (s : Sl × Sl × Int × Int × Option Addr × Bool × Int) σ => upd 8 (I s.2.2.2.2.2.2) (upd 7 (.bool s.2.2.2.2.2.1) (upd 6 (.pointer s.2.2.2.2.1) (upd 5 (I s.2.2.2.1) (upd 4 (I s.2.2.1) (upd 3 (Sl.v s.2.1) (upd 0 (Sl.v s.1) (σ)))))))) (fun (s : Sl × Sl × Int × Int × Option Addr × Bool × Int) w => f65_k4 R ag1 ag3 ag6 s.1 s.2.1 s.2.2.1 s.2.2.2.1 s.2.2.2.2.1 s.2.2.2.2.2.1 s.2.2.2.2.2.2 w) ?_ ?_
     ·rintro ⟨l0, out3, i4, k5, b6, there7, j8⟩ σ w H
      replace H : f65_k4 R ag1 ag3 ag6 l0 out3 i4 k5 b6 there7 j8 w := H
      try dsimp only
      unfold f65_k4 at H
      refine r_inBlock ?_
      refine r_region ?_
      refine xm (I j8) rfl rfl ?_
      refine xp _ rfl (p_add rfl rfl rfl) ?_
      refine xs (I (W (j8 + 1))) rfl rfl ?_
      refine xe ?_
      refine ru4 0 (Sl.v l0) 3 (Sl.v out3) 4 (I i4) 5 (I k5) rfl rfl rfl rfl ?_
      refine ru3 6 (.pointer b6) 7 (.bool there7) 8 (I (W (j8 + 1))) rfl rfl rfl ?_
      exact hag6 (l0, out3, i4, k5, b6, there7, (W (j8 + 1))) _ _ H
     ·intro J8
      refine r_draw #[[], [0], [0, 1], [0, 1], [0, 1, 2, 3], [0, 1, 2, 3, 4], [0, 1], [0, 1, 2, 3, 4, 5, 6], [0, 1, 2, 3, 4, 5, 6, 7], [0, 1, 2, 3, 4, 5, 6, 7, 8]] 10 rfl rfl ?_
      refine am 0 (.bool there7) rfl rfl rfl ?_
      refine am 1 (.bool there7) rfl rfl rfl ?_
      refine ifB_cases H ?_ ?_
      ·clear H; intro hb9 H
       refine ak 2 rfl rfl (wn 42 rfl rfl rfl hb9) ?_
       refine ak 3 rfl rfl (wn 42 rfl rfl rfl hb9) ?_
       refine ak 4 rfl rfl (wn 42 rfl rfl rfl hb9) ?_
       refine ak 5 rfl rfl (wn 42 rfl rfl rfl hb9) ?_
       refine ak 6 rfl rfl (wn 42 rfl rfl rfl hb9) ?_
       refine ak 7 rfl rfl (wn 42 rfl rfl rfl hb9) ?_
       refine ap 8 (.bool true) rfl rfl (p_pickT rfl rfl hb9 rfl) ?_
       refine as_ 9 (.bool true) rfl rfl rfl ?_
       refine ax ?_
       refine ru4 0 (Sl.v l0) 3 (Sl.v out3) 4 (I i4) 5 (I k5) rfl rfl rfl rfl ?_
       refine ru3 6 (.pointer b6) 7 (.bool true) 8 (I j8) rfl rfl rfl ?_
       exact J8 (l0, out3, i4, k5, b6, true, j8) _ _ H
      ·clear H; intro hb9 H
       refine ay 2 (Sl.v out3) rfl rfl (wy 42 rfl rfl rfl hb9) (p_move rfl rfl) ?_
       refine ay 3 (I j8) rfl rfl (wy 42 rfl rfl rfl hb9) (p_move rfl rfl) ?_
       obtain ⟨p_9, hap_9, hlp_9, hup_9, H⟩ := H
       refine ay 4 (.pointer (some (p_9.add (j8.toNat * 48)))) rfl rfl (wy 42 rfl rfl rfl hb9) (p_indexAddr (s := out3) (ad := p_9) (size := 48) rfl u126 Try.ti65 rfl rfl hap_9 hlp_9 hup_9) ?_
       obtain ⟨adv_10, v_10, hev_10, hnv_10, hcv_10, H⟩ := H
       refine xa_read (v := (.agg v_10)) (S := (fun w => Row w adv_10 v_10)) 5 (by decide +kernel) rfl rfl (wy 42 rfl rfl rfl hb9) (fun w hc => rd_loadN (ad := adv_10) rfl u65 rfl Try.ti65 (by show Value.pointer _ = _; rw [hev_10]) hnv_10 hc) hcv_10 ?_
       obtain ⟨adv_11, v_11, hev_11, hnv_11, hcv_11, H⟩ := H
       refine xa_read (v := (.agg v_11)) (S := (fun w => Row w adv_11 v_11)) 6 (by decide +kernel) rfl rfl (wy 42 rfl rfl rfl hb9) (fun w hc => rd_loadN (ad := adv_11) rfl u65 rfl Try.ti65 (by show Value.pointer _ = _; rw [hev_11]) hnv_11 hc) hcv_11 ?_
       obtain ⟨b_12, hqb_12, H⟩ := H
       refine ay 7 (.bool b_12) rfl rfl (wy 42 rfl rfl rfl hb9) (p_aggEq rfl hqb_12 rfl rfl) ?_
       refine ap 8 (.bool b_12) rfl rfl (p_pickF rfl rfl hb9 rfl) ?_
       refine as_ 9 (.bool b_12) rfl rfl rfl ?_
       refine ax ?_
       refine ru4 0 (Sl.v l0) 3 (Sl.v out3) 4 (I i4) 5 (I k5) rfl rfl rfl rfl ?_
       refine ru3 6 (.pointer b6) 7 (.bool b_12) 8 (I j8) rfl rfl rfl ?_
       exact J8 (l0, out3, i4, k5, b6, b_12, j8) _ _ H
    ·clear H; intro hb7 H
     refine r_exit rfl ?_
     refine sr ?_
     refine xm (.bool there7) rfl rfl ?_
     refine xp (.bool (!there7)) rfl (p_not rfl rfl) ?_
     refine xe ?_
     refine r_condB (b := (!there7)) rfl H ?_ ?_
     ·clear H; intro hb10 H
      refine r_region ?_
      refine xm (Sl.v out3) rfl rfl ?_
      obtain ⟨adv_13, v_13, hev_13, hnv_13, hcv_13, H⟩ := H
      refine xo_read (v := (.agg v_13)) rfl (wo rfl) (rd_loadN (ad := adv_13) rfl u65 rfl Try.ti65 (by show Value.pointer _ = _; rw [hev_13]) hnv_13 hcv_13) ?_
      obtain ⟨hzq_15, H⟩ := H
      refine xo_eff rfl (wo rfl) (e_buildAgg (size := 48) H rfl u126 Try.ti65 (by decide) (by decide) rfl hzq_15) ?_
      rintro _ w_5 ⟨a_14, rfl, H⟩
      refine xo_eff rfl (wo rfl) (e_app H rfl rfl rfl) ?_
      rintro _ w_6 ⟨v_16, rfl, H⟩
      refine xs (Sl.v v_16) rfl rfl ?_
      refine xe ?_
      refine r_inBlock ?_
      refine ru4 0 (Sl.v l0) 3 (Sl.v v_16) 4 (I i4) 5 (I k5) rfl rfl rfl rfl ?_
      exact J5 (l0, v_16, i4, k5) _ _ H
     ·clear H; intro hb10 H
      refine r_skip ?_
      refine r_inBlock ?_
      refine ru4 0 (Sl.v l0) 3 (Sl.v out3) 4 (I i4) 5 (I k5) rfl rfl rfl rfl ?_
      exact J5 (l0, out3, i4, k5) _ _ H
  ·clear H; intro hb4 H
   refine r_exit rfl ?_
   refine r_inBlock ?_
   refine r_region ?_
   refine xm (I i4) rfl rfl ?_
   refine xp _ rfl (p_add rfl rfl rfl) ?_
   refine xs (I (W (i4 + 1))) rfl rfl ?_
   refine xe ?_
   refine ru3 0 (Sl.v l0) 3 (Sl.v out3) 4 (I (W (i4 + 1))) rfl rfl rfl ?_
   exact hag1 (l0, out3, (W (i4 + 1))) _ _ H
 ·clear H; intro hb2 H
  refine r_exit rfl ?_
  refine sr ?_
  refine xm (Sl.v out3) rfl rfl ?_
  refine xs (Sl.v out3) rfl rfl ?_
  refine xe ?_
  exact r_ret (fn := Try.f65) Try.func65 (res_1 rfl ⟨by decide, rfl⟩) H

/-! 66 sporran/sporranref15.Changes -/
def f66 (R : Value → World → Prop) (kind0 : Int) (w : World) : Prop :=
 IfB (decide (kind0 = 1)) (
  R (.bool true) w) (
  IfB (decide (kind0 = 2)) (
   R (.bool true) w) (
   IfB (decide (kind0 = 3)) (
    R (.bool true) w) (
    IfB (decide (kind0 = 4)) (
     R (.bool true) w) (
     IfB (decide (kind0 = 6)) (
      R (.bool true) w) (
      R (.bool (decide (kind0 = 7))) w)))))
theorem f66_ok (R : Value → World → Prop) (kind0 : Int) (w : World) (H : f66 R kind0 w) : CallF Try.prog 66 #[(.int .i64 kind0)] w R := by
 refine calls_of_runs (fn := Try.f66) Try.func66 rfl (Nat.le_of_ble_eq_true rfl) ?_
 show Runs _ _ 25 _ _ _ _
 unfold f66 at H
 refine ru 0 (I kind0) rfl ?_
 refine sr ?_
 refine xs (.bool false) rfl rfl ?_
 refine xe ?_
 refine sr ?_
 refine xm (I kind0) rfl rfl ?_
 refine xp _ rfl (p_eq rfl rfl rfl) ?_
 refine xm (.bool (decide (kind0 = 1))) rfl rfl ?_
 refine ifB_cases H ?_ ?_
 ·clear H; intro hb1 H
  refine xo_skip rfl (wn 5 rfl rfl rfl hb1) ?_
  refine xo_skip rfl (wn 5 rfl rfl rfl hb1) ?_
  refine xp (.bool true) rfl (p_pickT rfl rfl hb1 rfl) ?_
  refine xm (.bool true) rfl rfl ?_
  refine xo_skip rfl (wn 9 rfl rfl rfl rfl) ?_
  refine xo_skip rfl (wn 9 rfl rfl rfl rfl) ?_
  refine xp (.bool true) rfl (p_pickT rfl rfl rfl rfl) ?_
  refine xm (.bool true) rfl rfl ?_
  refine xo_skip rfl (wn 13 rfl rfl rfl rfl) ?_
  refine xo_skip rfl (wn 13 rfl rfl rfl rfl) ?_
  refine xp (.bool true) rfl (p_pickT rfl rfl rfl rfl) ?_
  refine xm (.bool true) rfl rfl ?_
  refine xo_skip rfl (wn 17 rfl rfl rfl rfl) ?_
  refine xo_skip rfl (wn 17 rfl rfl rfl rfl) ?_
  refine xp (.bool true) rfl (p_pickT rfl rfl rfl rfl) ?_
  refine xm (.bool true) rfl rfl ?_
  refine xo_skip rfl (wn 21 rfl rfl rfl rfl) ?_
  refine xo_skip rfl (wn 21 rfl rfl rfl rfl) ?_
  refine xp (.bool true) rfl (p_pickT rfl rfl rfl rfl) ?_
  refine xs (.bool true) rfl rfl ?_
  refine xe ?_
  exact r_ret (fn := Try.f66) Try.func66 (res_1 rfl ⟨by decide, rfl⟩) H
 ·clear H; intro hb1 H
  refine yp (I kind0) rfl (wy 5 rfl rfl rfl hb1) (p_move rfl rfl) ?_
  refine yp (.bool (decide (kind0 = 2))) rfl (wy 5 rfl rfl rfl hb1) (p_eq rfl rfl rfl) ?_
  refine xp (.bool (decide (kind0 = 2))) rfl (p_pickF rfl rfl hb1 rfl) ?_
  refine xm (.bool (decide (kind0 = 2))) rfl rfl ?_
  refine ifB_cases H ?_ ?_
  ·clear H; intro hb2 H
   refine xo_skip rfl (wn 9 rfl rfl rfl hb2) ?_
   refine xo_skip rfl (wn 9 rfl rfl rfl hb2) ?_
   refine xp (.bool true) rfl (p_pickT rfl rfl hb2 rfl) ?_
   refine xm (.bool true) rfl rfl ?_
   refine xo_skip rfl (wn 13 rfl rfl rfl rfl) ?_
   refine xo_skip rfl (wn 13 rfl rfl rfl rfl) ?_
   refine xp (.bool true) rfl (p_pickT rfl rfl rfl rfl) ?_
   refine xm (.bool true) rfl rfl ?_
   refine xo_skip rfl (wn 17 rfl rfl rfl rfl) ?_
   refine xo_skip rfl (wn 17 rfl rfl rfl rfl) ?_
   refine xp (.bool true) rfl (p_pickT rfl rfl rfl rfl) ?_
   refine xm (.bool true) rfl rfl ?_
   refine xo_skip rfl (wn 21 rfl rfl rfl rfl) ?_
   refine xo_skip rfl (wn 21 rfl rfl rfl rfl) ?_
   refine xp (.bool true) rfl (p_pickT rfl rfl rfl rfl) ?_
   refine xs (.bool true) rfl rfl ?_
   refine xe ?_
   exact r_ret (fn := Try.f66) Try.func66 (res_1 rfl ⟨by decide, rfl⟩) H
  ·clear H; intro hb2 H
   refine yp (I kind0) rfl (wy 9 rfl rfl rfl hb2) (p_move rfl rfl) ?_
   refine yp (.bool (decide (kind0 = 3))) rfl (wy 9 rfl rfl rfl hb2) (p_eq rfl rfl rfl) ?_
   refine xp (.bool (decide (kind0 = 3))) rfl (p_pickF rfl rfl hb2 rfl) ?_
   refine xm (.bool (decide (kind0 = 3))) rfl rfl ?_
   refine ifB_cases H ?_ ?_
   ·clear H; intro hb3 H
    refine xo_skip rfl (wn 13 rfl rfl rfl hb3) ?_
    refine xo_skip rfl (wn 13 rfl rfl rfl hb3) ?_
    refine xp (.bool true) rfl (p_pickT rfl rfl hb3 rfl) ?_
    refine xm (.bool true) rfl rfl ?_
    refine xo_skip rfl (wn 17 rfl rfl rfl rfl) ?_
    refine xo_skip rfl (wn 17 rfl rfl rfl rfl) ?_
    refine xp (.bool true) rfl (p_pickT rfl rfl rfl rfl) ?_
    refine xm (.bool true) rfl rfl ?_
    refine xo_skip rfl (wn 21 rfl rfl rfl rfl) ?_
    refine xo_skip rfl (wn 21 rfl rfl rfl rfl) ?_
    refine xp (.bool true) rfl (p_pickT rfl rfl rfl rfl) ?_
    refine xs (.bool true) rfl rfl ?_
    refine xe ?_
    exact r_ret (fn := Try.f66) Try.func66 (res_1 rfl ⟨by decide, rfl⟩) H
   ·clear H; intro hb3 H
    refine yp (I kind0) rfl (wy 13 rfl rfl rfl hb3) (p_move rfl rfl) ?_
    refine yp (.bool (decide (kind0 = 4))) rfl (wy 13 rfl rfl rfl hb3) (p_eq rfl rfl rfl) ?_
    refine xp (.bool (decide (kind0 = 4))) rfl (p_pickF rfl rfl hb3 rfl) ?_
    refine xm (.bool (decide (kind0 = 4))) rfl rfl ?_
    refine ifB_cases H ?_ ?_
    ·clear H; intro hb4 H
     refine xo_skip rfl (wn 17 rfl rfl rfl hb4) ?_
     refine xo_skip rfl (wn 17 rfl rfl rfl hb4) ?_
     refine xp (.bool true) rfl (p_pickT rfl rfl hb4 rfl) ?_
     refine xm (.bool true) rfl rfl ?_
     refine xo_skip rfl (wn 21 rfl rfl rfl rfl) ?_
     refine xo_skip rfl (wn 21 rfl rfl rfl rfl) ?_
     refine xp (.bool true) rfl (p_pickT rfl rfl rfl rfl) ?_
     refine xs (.bool true) rfl rfl ?_
     refine xe ?_
     exact r_ret (fn := Try.f66) Try.func66 (res_1 rfl ⟨by decide, rfl⟩) H
    ·clear H; intro hb4 H
     refine yp (I kind0) rfl (wy 17 rfl rfl rfl hb4) (p_move rfl rfl) ?_
     refine yp (.bool (decide (kind0 = 6))) rfl (wy 17 rfl rfl rfl hb4) (p_eq rfl rfl rfl) ?_
     refine xp (.bool (decide (kind0 = 6))) rfl (p_pickF rfl rfl hb4 rfl) ?_
     refine xm (.bool (decide (kind0 = 6))) rfl rfl ?_
     refine ifB_cases H ?_ ?_
     ·clear H; intro hb5 H
      refine xo_skip rfl (wn 21 rfl rfl rfl hb5) ?_
      refine xo_skip rfl (wn 21 rfl rfl rfl hb5) ?_
      refine xp (.bool true) rfl (p_pickT rfl rfl hb5 rfl) ?_
      refine xs (.bool true) rfl rfl ?_
      refine xe ?_
      exact r_ret (fn := Try.f66) Try.func66 (res_1 rfl ⟨by decide, rfl⟩) H
     ·clear H; intro hb5 H
      refine yp (I kind0) rfl (wy 21 rfl rfl rfl hb5) (p_move rfl rfl) ?_
      refine yp (.bool (decide (kind0 = 7))) rfl (wy 21 rfl rfl rfl hb5) (p_eq rfl rfl rfl) ?_
      refine xp (.bool (decide (kind0 = 7))) rfl (p_pickF rfl rfl hb5 rfl) ?_
      refine xs (.bool (decide (kind0 = 7))) rfl rfl ?_
      refine xe ?_
      exact r_ret (fn := Try.f66) Try.func66 (res_1 rfl ⟨by decide, rfl⟩) H
end Go.Proofs
