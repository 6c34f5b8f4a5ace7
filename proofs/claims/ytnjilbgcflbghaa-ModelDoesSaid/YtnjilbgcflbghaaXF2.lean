/- Laid by program. -/
import Derived.Test.YtnjilbgcflbghaaXFT
set_option linter.all false
set_option linter.unusedVariables false
set_option linter.unusedSimpArgs false
set_option maxRecDepth 20000
set_option maxHeartbeats 4000000
namespace Go.Proofs
open Go Go.X
/-! 67 sporran/sporranref15.Event -/
def f67_k0 (R : Value → World → Prop) (out3 : Sl) (w : World) : Prop :=
 R (Sl.v out3) w
def f67 (R : Value → World → Prop) (o0 : Array Value) (w : World) : Prop :=
 New o0 67 w fun a_1 w_1 =>
 New #[] 5 w_1 fun a_2 w_2 =>
 Ld (Value.int .i64) (some (a_1.add 0)) w_2 fun v_3 =>
 CallF Try.prog 129 #[(Sl.v ⟨some a_2, 0, 0⟩), (.int .u64 (IntKind.u64.wrap v_3))] w_2 fun u_4 w_3 => As Sl.v u_4 fun v_5 =>
 Ld (Value.int .i64) (some (a_1.add 3)) w_3 fun v_6 =>
 CallF Try.prog 129 #[(Sl.v v_5), (.int .u64 (IntKind.u64.wrap v_6))] w_3 fun u_7 w_4 => As Sl.v u_7 fun v_8 =>
 Ld (Value.int .i64) (some (a_1.add 4)) w_4 fun v_9 =>
 CallF Try.prog 129 #[(Sl.v v_8), (.int .u64 (IntKind.u64.wrap v_9))] w_4 fun u_10 w_5 => As Sl.v u_10 fun v_11 =>
 Ld Value.string (some (a_1.add 1)) w_5 fun v_12 =>
 Ef Try.prog (convert 9 39 (.string v_12)) Sl.v w_5 fun v_13 w_6 =>
 CallF Try.prog 130 #[(Sl.v v_11), (Sl.v v_13)] w_6 fun u_14 w_7 => As Sl.v u_14 fun v_15 =>
 Ld Value.string (some (a_1.add 2)) w_7 fun v_16 =>
 Ef Try.prog (convert 9 39 (.string v_16)) Sl.v w_7 fun v_17 w_8 =>
 CallF Try.prog 130 #[(Sl.v v_15), (Sl.v v_17)] w_8 fun u_18 w_9 => As Sl.v u_18 fun v_19 =>
 Ld (Value.int .i64) (some (a_1.add 0)) w_9 fun v_20 =>
 IfB (decide (v_20 = 3)) (
  Cut ⟨some (a_1.add 5), 48, 48⟩ 1 none none none fun s_21 =>
  Ef Try.prog (Builtin.append_ #[39, 39] 39 #[(Sl.v v_19), (Sl.v s_21)]) Sl.v w_9 fun v_22 w_10 =>
  f67_k0 R v_22 w_10) (
  f67_k0 R v_19 w_9)
theorem f67_ok (R : Value → World → Prop) (o0 : Array Value) (w : World) (H : f67 R o0 w) : CallF Try.prog 67 #[(.agg o0)] w R := by
 refine calls_of_runs (fn := Try.f67) Try.func67 rfl (Nat.le_of_ble_eq_true rfl) ?_
 show Runs _ _ 37 _ _ _ _
 unfold f67 at H
 refine ru 0 (.agg o0) rfl ?_
 refine sr ?_
 refine xo_eff rfl (wo rfl) (e_box (v := (.agg o0)) rfl rfl H) ?_
 rintro _ w_1 ⟨a_1, rfl, H⟩
 refine xs (Sl.v Sl.nil) rfl rfl ?_
 refine xe ?_
 refine sr ?_
 refine xo_eff rfl (wo rfl) (e_buildSlice0 rfl u39 Try.ti5 H) ?_
 rintro _ w_2 ⟨a_2, rfl, H⟩
 refine xp _ rfl (p_fieldAddr (off := 0) (ft := 3) (size := 1) rfl u67 rfl Try.ti3 (by decide) rfl rfl) ?_
 obtain ⟨adv_3, v_3, hev_3, hcv_3, H⟩ := H
 refine xr (I v_3) rfl (wo rfl) rfl u3 rfl rfl hev_3 hcv_3 ?_
 refine xp (.int .u64 (IntKind.u64.wrap v_3)) rfl (p_conv rfl u3 u22 rfl) ?_
 refine xo_eff rfl (wo rfl) (e_call (fn := Try.f129) H rfl rfl Try.func129 rfl rfl rfl) ?_
 rintro _ w_3 ⟨v_5, rfl, H⟩
 refine xs (Sl.v v_5) rfl rfl ?_
 refine xe ?_
 refine sr ?_
 refine xm (Sl.v v_5) rfl rfl ?_
 refine xp _ rfl (p_fieldAddr (off := 3) (ft := 3) (size := 1) rfl u67 rfl Try.ti3 (by decide) rfl rfl) ?_
 obtain ⟨adv_6, v_6, hev_6, hcv_6, H⟩ := H
 refine xr (I v_6) rfl (wo rfl) rfl u3 rfl rfl hev_6 hcv_6 ?_
 refine xp (.int .u64 (IntKind.u64.wrap v_6)) rfl (p_conv rfl u3 u22 rfl) ?_
 refine xo_eff rfl (wo rfl) (e_call (fn := Try.f129) H rfl rfl Try.func129 rfl rfl rfl) ?_
 rintro _ w_4 ⟨v_8, rfl, H⟩
 refine xs (Sl.v v_8) rfl rfl ?_
 refine xe ?_
 refine sr ?_
 refine xm (Sl.v v_8) rfl rfl ?_
 refine xp _ rfl (p_fieldAddr (off := 4) (ft := 3) (size := 1) rfl u67 rfl Try.ti3 (by decide) rfl rfl) ?_
 obtain ⟨adv_9, v_9, hev_9, hcv_9, H⟩ := H
 refine xr (I v_9) rfl (wo rfl) rfl u3 rfl rfl hev_9 hcv_9 ?_
 refine xp (.int .u64 (IntKind.u64.wrap v_9)) rfl (p_conv rfl u3 u22 rfl) ?_
 refine xo_eff rfl (wo rfl) (e_call (fn := Try.f129) H rfl rfl Try.func129 rfl rfl rfl) ?_
 rintro _ w_5 ⟨v_11, rfl, H⟩
 refine xs (Sl.v v_11) rfl rfl ?_
 refine xe ?_
 refine sr ?_
 refine xm (Sl.v v_11) rfl rfl ?_
 refine xp _ rfl (p_fieldAddr (off := 1) (ft := 9) (size := 1) rfl u67 rfl Try.ti9 (by decide) rfl rfl) ?_
 obtain ⟨adv_12, v_12, hev_12, hcv_12, H⟩ := H
 refine xr (.string v_12) rfl (wo rfl) rfl u9 rfl rfl hev_12 hcv_12 ?_
 refine xo_eff rfl (wo rfl) (e_gen (s := convert 9 39 (.string v_12)) (enc := Sl.v) rfl H) ?_
 rintro _ w_6 ⟨v_13, rfl, H⟩
 refine xo_eff rfl (wo rfl) (e_call (fn := Try.f130) H rfl rfl Try.func130 rfl rfl rfl) ?_
 rintro _ w_7 ⟨v_15, rfl, H⟩
 refine xs (Sl.v v_15) rfl rfl ?_
 refine xe ?_
 refine sr ?_
 refine xm (Sl.v v_15) rfl rfl ?_
 refine xp _ rfl (p_fieldAddr (off := 2) (ft := 9) (size := 1) rfl u67 rfl Try.ti9 (by decide) rfl rfl) ?_
 obtain ⟨adv_16, v_16, hev_16, hcv_16, H⟩ := H
 refine xr (.string v_16) rfl (wo rfl) rfl u9 rfl rfl hev_16 hcv_16 ?_
 refine xo_eff rfl (wo rfl) (e_gen (s := convert 9 39 (.string v_16)) (enc := Sl.v) rfl H) ?_
 rintro _ w_8 ⟨v_17, rfl, H⟩
 refine xo_eff rfl (wo rfl) (e_call (fn := Try.f130) H rfl rfl Try.func130 rfl rfl rfl) ?_
 rintro _ w_9 ⟨v_19, rfl, H⟩
 refine xs (Sl.v v_19) rfl rfl ?_
 refine xe ?_
 refine r_seqJ (fun (s : Sl) σ => upd 3 (Sl.v s) (σ)) (fun (s : Sl) w => f67_k0 R s w) ?_ ?_
 ·rintro out3 σ w H
  replace H : f67_k0 R out3 w := H
  try dsimp only
  unfold f67_k0 at H
  refine sr ?_
  refine xm (Sl.v out3) rfl rfl ?_
  refine xs (Sl.v out3) rfl rfl ?_
  refine xe ?_
  exact r_ret (fn := Try.f67) Try.func67 (res_1 rfl ⟨by decide, rfl⟩) H
 ·intro J1
  refine sr ?_
  refine xp _ rfl (p_fieldAddr (off := 0) (ft := 3) (size := 1) rfl u67 rfl Try.ti3 (by decide) rfl rfl) ?_
  obtain ⟨adv_20, v_20, hev_20, hcv_20, H⟩ := H
  refine xr (I v_20) rfl (wo rfl) rfl u3 rfl rfl hev_20 hcv_20 ?_
  refine xp _ rfl (p_eq rfl rfl rfl) ?_
  refine xe ?_
  refine r_condB (b := (decide (v_20 = 3))) rfl H ?_ ?_
  ·clear H; intro hb2 H
   refine r_region ?_
   refine xm (Sl.v v_19) rfl rfl ?_
   refine xp _ rfl (p_fieldAddr (off := 5) (ft := 65) (size := 48) rfl u67 rfl Try.ti65 (by decide) rfl rfl) ?_
   obtain ⟨ls_21, hs_21, ms_21, c3s_21, c4s_21, c5s_21, c6s_21, c7s_21, H⟩ := H
   obtain ⟨s_21, hds_21⟩ : ∃ q : Sl, q = ⟨if ms_21 = ls_21 then some (a_1.add 5) else (some (a_1.add 5)).map (·.add (ls_21 * 1)), hs_21 - ls_21, ms_21 - ls_21⟩ := ⟨_, rfl⟩
   rw [← hds_21] at H
   refine xp (Sl.v s_21) rfl (by rw [hds_21]; exact p_sliceA (ad := (a_1.add 5)) (n := 48) (size := 1) (vl := none) (vh := none) (vm := none) rfl u65 Try.ti5 rfl OptI.none OptI.none OptI.none c3s_21 c4s_21 c5s_21 c6s_21 c7s_21) ?_
   refine xo_eff rfl (wo rfl) (e_app H rfl rfl rfl) ?_
   rintro _ w_10 ⟨v_22, rfl, H⟩
   refine xs (Sl.v v_22) rfl rfl ?_
   refine xe ?_
   refine ru 3 (Sl.v v_22) rfl ?_
   exact J1 v_22 _ _ H
  ·clear H; intro hb2 H
   refine r_skip ?_
   refine ru 3 (Sl.v v_19) rfl ?_
   exact J1 v_19 _ _ H

/-! 92 (*sporran/model.Model).add -/
def f92_k0 (R : Value → World → Prop) (m0 : Option Addr) (name1 : ByteArray) (v2 : Option Addr) (code3 : Int) (there10 : Bool) (t20 : Bool) (w : World) : Prop :=
 IfB t20 (
  R (.int .i64 1) w) (
  IfB (!decide (code3 = 0)) (
   R (.int .i64 code3) w) (
   IfB there10 (
    R (.int .i64 6) w) (
    NotNil v2 fun p_6 =>
    Ld Value.map (some (p_6.add 2)) (World.drew w) fun v_7 =>
    NotNil v2 fun p_8 =>
    LdH (Value.int .i64) (some (p_8.add 0)) (World.drew w) fun adv_9 v_9 =>
    Ef Try.prog (Builtin.len_ #[168] 3 #[(.map v_7)]) (Value.int .i64) (World.drew w) fun v_10 w_3 =>
    ((w_3).cell? adv_9 = some (.int .i64 v_9)) ∧
    IfB (decide (v_9 < v_10)) (
     R (.int .i64 8) w_3) (
     NotNil m0 fun p_11 =>
     Ld Value.map (some (p_11.add 0)) w_3 fun v_12 =>
     EfU Try.prog (Instr.mapUpdate 163 (.map v_12) (.string name1) (.pointer v2)) w_3 fun w_4 =>
     R (.int .i64 0) w_4))))
def f92 (R : Value → World → Prop) (m0 : Option Addr) (name1 : ByteArray) (v2 : Option Addr) (code3 : Int) (w : World) : Prop :=
 NotNil m0 fun p_1 =>
 Ld Value.map (some (p_1.add 0)) w fun v_2 =>
 Ef Try.prog (Instr.lookup 163 (.map v_2) (.string name1) true) id w fun u_5 w_1 => AsT2 Value.pointer Value.bool u_5 fun v_3 v_4 =>
 CallF Try.prog 150 #[(.string name1)] w_1 fun u_13 w_5 => As Value.bool u_13 fun v_14 =>
 IfB (!v_14) (
  f92_k0 R m0 name1 v2 code3 v_4 true w_5) (
  NotNil v2 fun p_15 =>
  Ld (Value.int .i64) (some (p_15.add 0)) w_5 fun v_16 =>
  IfB (decide (v_16 < 0)) (
   f92_k0 R m0 name1 v2 code3 v_4 true w_5) (
   NotNil v2 fun p_17 =>
   Ld (Value.int .i64) (some (p_17.add 0)) w_5 fun v_18 =>
   f92_k0 R m0 name1 v2 code3 v_4 (decide (1048576 < v_18)) w_5))
theorem f92_ok (R : Value → World → Prop) (m0 : Option Addr) (name1 : ByteArray) (v2 : Option Addr) (code3 : Int) (w : World) (H : f92 R m0 name1 v2 code3 w) : CallF Try.prog 92 #[(.pointer m0), (.string name1), (.pointer v2), (.int .i64 code3)] w R := by
 refine calls_of_runs (fn := Try.f92) Try.func92 rfl (Nat.le_of_ble_eq_true rfl) ?_
 show Runs _ _ 61 _ _ _ _
 unfold f92 at H
 refine ru4 0 (.pointer m0) 1 (.string name1) 2 (.pointer v2) 3 (I code3) rfl rfl rfl rfl ?_
 refine sr ?_
 refine xs (I 0) rfl rfl ?_
 refine xe ?_
 refine sr ?_
 refine xm (.pointer m0) rfl rfl ?_
 obtain ⟨p_1, hpp_1, H⟩ := H
 refine xp (.pointer (some p_1)) rfl (p_nilCheck rfl rfl hpp_1) ?_
 refine xp _ rfl (p_fieldAddr (off := 0) (ft := 163) (size := 1) rfl u165 rfl Try.ti163 (by decide) rfl rfl) ?_
 obtain ⟨adv_2, v_2, hev_2, hcv_2, H⟩ := H
 refine xr (.map v_2) rfl (wo rfl) rfl u163 rfl rfl hev_2 hcv_2 ?_
 refine xm (.string name1) rfl rfl ?_
 refine xo_eff rfl (wo rfl) (e_genV (s := Instr.lookup 163 (.map v_2) (.string name1) true) rfl H) ?_
 rintro _ w_1 ⟨v_3, v_4, rfl, H⟩
 refine xm (.tuple #[(.pointer v_3), (.bool v_4)]) rfl rfl ?_
 refine xp (.pointer v_3) rfl (p_extract (vs := #[(.pointer v_3), (.bool v_4)]) rfl rfl rfl) ?_
 refine xp (.bool v_4) rfl (p_extract (vs := #[(.pointer v_3), (.bool v_4)]) rfl rfl rfl) ?_
 refine xs (.pointer v_3) rfl rfl ?_
 refine xs (.bool v_4) rfl rfl ?_
 refine xe ?_
 refine sb ?_
 refine r_seq ?_
 refine r_topJ (fun (s : Option Addr × ByteArray × Option Addr × Int × Bool × Bool) σ => upd 20 (.bool s.2.2.2.2.2) (upd 10 (.bool s.2.2.2.2.1) (upd 3 (I s.2.2.2.1) (upd 2 (.pointer s.2.2.1) (upd 1 (.string s.2.1) (upd 0 (.pointer s.1) (σ))))))) (fun (s : Option Addr × ByteArray × Option Addr × Int × Bool × Bool) w => f92_k0 R s.1 s.2.1 s.2.2.1 s.2.2.2.1 s.2.2.2.2.1 s.2.2.2.2.2 w) ?_ ?_
 ·rintro ⟨m0, name1, v2, code3, there10, t20⟩ σ w H
  replace H : f92_k0 R m0 name1 v2 code3 there10 t20 w := H
  try dsimp only
  unfold f92_k0 at H
  refine r_condB (b := t20) rfl H ?_ ?_
  ·clear H; intro hb2 H
   refine sr ?_
   refine xs (I 1) rfl rfl ?_
   refine xe ?_
   exact r_ret (fn := Try.f92) Try.func92 (res_1 rfl ⟨by decide, rfl⟩) H
  ·clear H; intro hb2 H
   refine sr ?_
   refine xm (I code3) rfl rfl ?_
   refine xp _ rfl (p_ne rfl rfl rfl) ?_
   refine xs (.bool (!decide (code3 = 0))) rfl rfl ?_
   refine xe ?_
   refine r_condB (b := (!decide (code3 = 0))) rfl H ?_ ?_
   ·clear H; intro hb3 H
    refine sr ?_
    refine xm (I code3) rfl rfl ?_
    refine xs (I code3) rfl rfl ?_
    refine xe ?_
    exact r_ret (fn := Try.f92) Try.func92 (res_1 rfl ⟨by decide, rfl⟩) H
   ·clear H; intro hb3 H
    refine sr ?_
    refine xm (.bool there10) rfl rfl ?_
    refine xs (.bool there10) rfl rfl ?_
    refine xe ?_
    refine r_condB (b := there10) rfl H ?_ ?_
    ·clear H; intro hb4 H
     refine sr ?_
     refine xs (I 6) rfl rfl ?_
     refine xe ?_
     exact r_ret (fn := Try.f92) Try.func92 (res_1 rfl ⟨by decide, rfl⟩) H
    ·clear H; intro hb4 H
     refine r_seq ?_
     refine r_draw #[[], [0], [0, 1], [0, 1, 2], [0, 1, 2, 3], [], [5], [5, 6], [5, 6, 7], [0, 1, 2, 3, 4, 5, 6, 7, 8], [0, 1, 2, 3, 4, 5, 6, 7, 8, 9]] 11 rfl rfl ?_
     refine am 0 (.pointer v2) rfl rfl rfl ?_
     obtain ⟨p_6, hpp_6, H⟩ := H
     refine ap 1 (.pointer (some p_6)) rfl rfl (p_nilCheck rfl rfl hpp_6) ?_
     refine ap 2 _ rfl rfl (p_fieldAddr (off := 2) (ft := 168) (size := 1) rfl u170 rfl Try.ti168 (by decide) rfl rfl) ?_
     obtain ⟨adv_7, v_7, hev_7, hcv_7, H⟩ := H
     refine ar 3 (.map v_7) rfl rfl (wo rfl) rfl u168 rfl rfl hev_7 hcv_7 ?_
     refine am 5 (.pointer v2) rfl rfl rfl ?_
     obtain ⟨p_8, hpp_8, H⟩ := H
     refine ap 6 (.pointer (some p_8)) rfl rfl (p_nilCheck rfl rfl hpp_8) ?_
     refine ap 7 _ rfl rfl (p_fieldAddr (off := 0) (ft := 3) (size := 1) rfl u170 rfl Try.ti3 (by decide) rfl rfl) ?_
     obtain ⟨adv_9, v_9, hev_9, hcv_9, H⟩ := H
     refine ar 8 (I v_9) rfl rfl (wo rfl) rfl u3 rfl rfl hev_9 hcv_9 ?_
     refine ae 4 [(8, (fun w => w.cell? adv_9 = some (I v_9)))] rfl rfl rfl (wo rfl) (e_bi (b := .len) (enc := Value.int .i64) H rfl rfl rfl) ?_
     rintro _ w_3 ⟨v_10, rfl, H⟩
     obtain ⟨hk4_8, H⟩ := H
     refine ⟨(.cons hk4_8 AllHeld.nil), ?_⟩
     refine ap 9 _ rfl rfl (p_gt rfl rfl rfl) ?_
     refine as_ 10 (.bool (decide (v_9 < v_10))) rfl rfl rfl ?_
     refine ax ?_
     refine r_condB (b := (decide (v_9 < v_10))) rfl H ?_ ?_
     ·clear H; intro hb5 H
      refine sr ?_
      refine xs (I 8) rfl rfl ?_
      refine xe ?_
      exact r_ret (fn := Try.f92) Try.func92 (res_1 rfl ⟨by decide, rfl⟩) H
     ·clear H; intro hb5 H
      refine r_skip ?_
      refine r_inBlock ?_
      refine sr ?_
      refine xm (.pointer m0) rfl rfl ?_
      obtain ⟨p_11, hpp_11, H⟩ := H
      refine xp (.pointer (some p_11)) rfl (p_nilCheck rfl rfl hpp_11) ?_
      refine xp _ rfl (p_fieldAddr (off := 0) (ft := 163) (size := 1) rfl u165 rfl Try.ti163 (by decide) rfl rfl) ?_
      obtain ⟨adv_12, v_12, hev_12, hcv_12, H⟩ := H
      refine xr (.map v_12) rfl (wo rfl) rfl u163 rfl rfl hev_12 hcv_12 ?_
      refine xm (.string name1) rfl rfl ?_
      refine xm (.pointer v2) rfl rfl ?_
      refine xo_effN rfl (wo rfl) (e_genU rfl H) ?_
      intro _ w_4 H
      refine xe ?_
      refine sr ?_
      refine xs (I 0) rfl rfl ?_
      refine xe ?_
      exact r_ret (fn := Try.f92) Try.func92 (res_1 rfl ⟨by decide, rfl⟩) H
 ·intro J1
  refine r_region ?_
  refine xm (.string name1) rfl rfl ?_
  refine xo_eff rfl (wo rfl) (e_call (fn := Try.f150) H rfl rfl Try.func150 rfl rfl rfl) ?_
  rintro _ w_5 ⟨v_14, rfl, H⟩
  refine xp (.bool (!v_14)) rfl (p_not rfl rfl) ?_
  refine xm (.bool (!v_14)) rfl rfl ?_
  refine ifB_cases H ?_ ?_
  ·clear H; intro hb6 H
   refine xo_skip rfl (wn 24 rfl rfl rfl hb6) ?_
   refine xo_skip rfl (wn 24 rfl rfl rfl hb6) ?_
   refine xo_skip rfl (wn 24 rfl rfl rfl hb6) ?_
   refine xo_skip rfl (wn 24 rfl rfl rfl hb6) ?_
   refine xo_skip rfl (wn 24 rfl rfl rfl hb6) ?_
   refine xp (.bool true) rfl (p_pickT rfl rfl hb6 rfl) ?_
   refine xm (.bool true) rfl rfl ?_
   refine xo_skip rfl (wn 31 rfl rfl rfl rfl) ?_
   refine xo_skip rfl (wn 31 rfl rfl rfl rfl) ?_
   refine xo_skip rfl (wn 31 rfl rfl rfl rfl) ?_
   refine xo_skip rfl (wn 31 rfl rfl rfl rfl) ?_
   refine xo_skip rfl (wn 31 rfl rfl rfl rfl) ?_
   refine xp (.bool true) rfl (p_pickT rfl rfl rfl rfl) ?_
   refine xs (.bool true) rfl rfl ?_
   refine xe ?_
   refine ru4 0 (.pointer m0) 1 (.string name1) 2 (.pointer v2) 3 (I code3) rfl rfl rfl rfl ?_
   refine ru2 10 (.bool v_4) 20 (.bool true) rfl rfl ?_
   exact J1 (m0, name1, v2, code3, v_4, true) _ _ H
  ·clear H; intro hb6 H
   refine yp (.pointer v2) rfl (wy 24 rfl rfl rfl hb6) (p_move rfl rfl) ?_
   obtain ⟨p_15, hpp_15, H⟩ := H
   refine yp (.pointer (some p_15)) rfl (wy 24 rfl rfl rfl hb6) (p_nilCheck rfl rfl hpp_15) ?_
   refine yp (.pointer (some (p_15.add 0))) rfl (wy 24 rfl rfl rfl hb6) (p_fieldAddr (off := 0) (ft := 3) (size := 1) rfl u170 rfl Try.ti3 (by decide) rfl rfl) ?_
   obtain ⟨adv_16, v_16, hev_16, hcv_16, H⟩ := H
   refine xr (I v_16) rfl (wy 24 rfl rfl rfl hb6) rfl u3 rfl rfl hev_16 hcv_16 ?_
   refine yp (.bool (decide (v_16 < 0))) rfl (wy 24 rfl rfl rfl hb6) (p_lt rfl rfl rfl) ?_
   refine xp (.bool (decide (v_16 < 0))) rfl (p_pickF rfl rfl hb6 rfl) ?_
   refine xm (.bool (decide (v_16 < 0))) rfl rfl ?_
   refine ifB_cases H ?_ ?_
   ·clear H; intro hb7 H
    refine xo_skip rfl (wn 31 rfl rfl rfl hb7) ?_
    refine xo_skip rfl (wn 31 rfl rfl rfl hb7) ?_
    refine xo_skip rfl (wn 31 rfl rfl rfl hb7) ?_
    refine xo_skip rfl (wn 31 rfl rfl rfl hb7) ?_
    refine xo_skip rfl (wn 31 rfl rfl rfl hb7) ?_
    refine xp (.bool true) rfl (p_pickT rfl rfl hb7 rfl) ?_
    refine xs (.bool true) rfl rfl ?_
    refine xe ?_
    refine ru4 0 (.pointer m0) 1 (.string name1) 2 (.pointer v2) 3 (I code3) rfl rfl rfl rfl ?_
    refine ru2 10 (.bool v_4) 20 (.bool true) rfl rfl ?_
    exact J1 (m0, name1, v2, code3, v_4, true) _ _ H
   ·clear H; intro hb7 H
    refine yp (.pointer v2) rfl (wy 31 rfl rfl rfl hb7) (p_move rfl rfl) ?_
    obtain ⟨p_17, hpp_17, H⟩ := H
    refine yp (.pointer (some p_17)) rfl (wy 31 rfl rfl rfl hb7) (p_nilCheck rfl rfl hpp_17) ?_
    refine yp (.pointer (some (p_17.add 0))) rfl (wy 31 rfl rfl rfl hb7) (p_fieldAddr (off := 0) (ft := 3) (size := 1) rfl u170 rfl Try.ti3 (by decide) rfl rfl) ?_
    obtain ⟨adv_18, v_18, hev_18, hcv_18, H⟩ := H
    refine xr (I v_18) rfl (wy 31 rfl rfl rfl hb7) rfl u3 rfl rfl hev_18 hcv_18 ?_
    refine yp (.bool (decide (1048576 < v_18))) rfl (wy 31 rfl rfl rfl hb7) (p_gt rfl rfl rfl) ?_
    refine xp (.bool (decide (1048576 < v_18))) rfl (p_pickF rfl rfl hb7 rfl) ?_
    refine xs (.bool (decide (1048576 < v_18))) rfl rfl ?_
    refine xe ?_
    refine ru4 0 (.pointer m0) 1 (.string name1) 2 (.pointer v2) 3 (I code3) rfl rfl rfl rfl ?_
    refine ru2 10 (.bool v_4) 20 (.bool (decide (1048576 < v_18))) rfl rfl ?_
    exact J1 (m0, name1, v2, code3, v_4, (decide (1048576 < v_18))) _ _ H

/-! 93 (*sporran/model.Model).block -/
def f93_k1 (R : Value → World → Prop) (a4 : Option Addr) (w : World) : Prop :=
 LdN 51 a4 w fun v_9 =>
 StN 51 a4 v_9 w fun w_5 =>
 LdN 51 a4 w_5 fun r_10 =>
 R (.agg r_10) w_5
def f93_k2 (R : Value → World → Prop) (o3 : Option Addr) (a4 : Option Addr) (v5 : Option Addr) (t54 : Bool) (w : World) : Prop :=
 IfB t54 (
  Built #[(0, 1), (1, 1), (2, 48), (50, 1)] Try.z73 [(0, (.int .i64 8))] fun c_23 =>
  StN 51 a4 c_23 w fun w_9 =>
  LdN 51 a4 w_9 fun r_24 =>
  R (.agg r_24) w_9) (
  NotNil v5 fun p_25 =>
  Ld Value.map (some (p_25.add 2)) (World.drew w) fun v_26 =>
  NotNil o3 fun p_27 =>
  Ld (Value.int .i64) (some (p_27.add 3)) (World.drew w) fun v_28 =>
  NotNil o3 fun p_29 =>
  LdN 48 (some (p_29.add 5)) (World.drew w) fun v_30 =>
  EfU Try.prog (Instr.mapUpdate 168 (.map v_26) (.int .i64 v_28) (.agg v_30)) (World.drew w) fun w_11 =>
  f93_k1 R a4 w_11)
def f93_k0 (R : Value → World → Prop) (o3 : Option Addr) (a4 : Option Addr) (v5 : Option Addr) (b7 : Option Addr) (there8 : Bool) (w : World) : Prop :=
 NotNil o3 fun p_11 =>
 Ld (Value.int .i64) (some (p_11.add 0)) w fun v_12 =>
 IfB (decide (v_12 = 5)) (
  LdN 48 b7 w fun v_13 =>
  Built #[(0, 1), (1, 1), (2, 48), (50, 1)] Try.z73 [(1, (.bool there8)), (2, (.agg v_13))] fun c_14 =>
  StN 51 a4 c_14 w fun w_6 =>
  LdN 51 a4 w_6 fun r_15 =>
  R (.agg r_15) w_6) (
  NotNil o3 fun p_16 =>
  Ld (Value.int .i64) (some (p_16.add 0)) w fun v_17 =>
  IfB (decide (v_17 = 4)) (
   NotNil v5 fun p_18 =>
   Ld Value.map (some (p_18.add 2)) (World.drew w) fun v_19 =>
   NotNil o3 fun p_20 =>
   Ld (Value.int .i64) (some (p_20.add 3)) (World.drew w) fun v_21 =>
   Ef Try.prog (Builtin.delete_ #[168, 3] 0 #[(.map v_19), (.int .i64 v_21)]) id (World.drew w) fun v_22 w_8 =>
   f93_k1 R a4 w_8) (
   IfB (!there8) (
    NotNil v5 fun p_31 =>
    Ld Value.map (some (p_31.add 2)) (World.drew w) fun v_32 =>
    NotNil v5 fun p_33 =>
    LdH (Value.int .i64) (some (p_33.add 0)) (World.drew w) fun adv_34 v_34 =>
    Ef Try.prog (Builtin.len_ #[168] 3 #[(.map v_32)]) (Value.int .i64) (World.drew w) fun v_35 w_13 =>
    ((w_13).cell? adv_34 = some (.int .i64 v_34)) ∧
    f93_k2 R o3 a4 v5 (decide (v_34 ≤ v_35)) w_13) (
    f93_k2 R o3 a4 v5 false (World.drew w))))
def f93 (R : Value → World → Prop) (m0 : Option Addr) (o1 : Array Value) (w : World) : Prop :=
 New o1 67 w fun a_1 w_1 =>
 New Try.z73 73 w_1 fun a_2 w_2 =>
 LdN 53 (some a_1) w_2 fun v_3 =>
 CallF Try.prog 151 #[(.pointer m0), (.agg v_3)] w_2 fun u_4 w_3 => AsT2 Value.pointer (Value.int .i64) u_4 fun v_5 v_6 =>
 IfB (!decide (v_6 = 0)) (
  Built #[(0, 1), (1, 1), (2, 48), (50, 1)] Try.z73 [(0, (.int .i64 v_6))] fun c_7 =>
  StN 51 (some a_2) c_7 w_3 fun w_4 =>
  LdN 51 (some a_2) w_4 fun r_8 =>
  R (.agg r_8) w_4) (
  NotNil v_5 fun p_36 =>
  LdH Value.map (some (p_36.add 2)) (World.drew w_3) fun adv_37 v_37 =>
  LdH (Value.int .i64) (some (a_1.add 3)) (World.drew w_3) fun adv_38 v_38 =>
  (
   Ef Try.prog (Instr.lookup 168 (.map v_37) (.int .i64 v_38) true) id (World.drew w_3) fun u_41 w_15 => AsT2 Value.agg Value.bool u_41 fun v_39 v_40 =>
   New Try.z65 65 w_15 fun a_42 w_16 =>
   StN 48 (some a_42) v_39 w_16 fun w_17 =>
   f93_k0 R (some a_1) (some a_2) v_5 (some a_42) v_40 w_17) ∧ (
   New Try.z65 65 (World.drew w_3) fun a_43 w_18 =>
   ((w_18).cell? adv_38 = some (.int .i64 v_38)) ∧
   ((w_18).cell? adv_37 = some (.map v_37)) ∧
   Ef Try.prog (Instr.lookup 168 (.map v_37) (.int .i64 v_38) true) id w_18 fun u_46 w_19 => AsT2 Value.agg Value.bool u_46 fun v_44 v_45 =>
   StN 48 (some a_43) v_44 w_19 fun w_20 =>
   f93_k0 R (some a_1) (some a_2) v_5 (some a_43) v_45 w_20))
theorem f93_ok (R : Value → World → Prop) (m0 : Option Addr) (o1 : Array Value) (w : World) (H : f93 R m0 o1 w) : CallF Try.prog 93 #[(.pointer m0), (.agg o1)] w R := by
 refine calls_of_runs (fn := Try.f93) Try.func93 rfl (Nat.le_of_ble_eq_true rfl) ?_
 show Runs _ _ 71 _ _ _ _
 unfold f93 at H
 refine ru2 0 (.pointer m0) 1 (.agg o1) rfl rfl ?_
 refine sr ?_
 refine xo_eff rfl (wo rfl) (e_box (v := (.agg o1)) rfl rfl H) ?_
 rintro _ w_1 ⟨a_1, rfl, H⟩
 refine xo_eff rfl (wo rfl) (e_alloc rfl Try.ti73 H) ?_
 rintro _ w_2 ⟨a_2, rfl, H⟩
 refine xe ?_
 refine sr ?_
 refine xm (.pointer m0) rfl rfl ?_
 obtain ⟨adv_3, v_3, hev_3, hnv_3, hcv_3, H⟩ := H
 refine xo_read (v := (.agg v_3)) rfl (wo rfl) (rd_loadN (ad := adv_3) rfl u67 rfl Try.ti67 (by show Value.pointer _ = _; rw [hev_3]) hnv_3 hcv_3) ?_
 refine xo_eff rfl (wo rfl) (e_call (fn := Try.f151) H rfl rfl Try.func151 rfl rfl rfl) ?_
 rintro _ w_3 ⟨v_5, v_6, rfl, H⟩
 refine xm (.tuple #[(.pointer v_5), (I v_6)]) rfl rfl ?_
 refine xp (.pointer v_5) rfl (p_extract (vs := #[(.pointer v_5), (I v_6)]) rfl rfl rfl) ?_
 refine xp (I v_6) rfl (p_extract (vs := #[(.pointer v_5), (I v_6)]) rfl rfl rfl) ?_
 refine xs (.pointer v_5) rfl rfl ?_
 refine xs (I v_6) rfl rfl ?_
 refine xe ?_
 refine r_seq ?_
 refine sr ?_
 refine xm (I v_6) rfl rfl ?_
 refine xp _ rfl (p_ne rfl rfl rfl) ?_
 refine xe ?_
 refine r_condB (b := (!decide (v_6 = 0))) rfl H ?_ ?_
 ·clear H; intro hb1 H
  refine sr ?_
  refine xm (I v_6) rfl rfl ?_
  obtain ⟨c_7, hflc_7, H⟩ := H
  refine xp (.agg c_7) rfl (p_buildS (places := #[(0, 1), (1, 1), (2, 48), (50, 1)]) rfl Try.pl73 Try.ti73 hflc_7 rfl) ?_
  refine xo_effN rfl (wo rfl) (e_storeN rfl Try.ti73 rfl rfl H) ?_
  intro _ w_4 H
  refine xe ?_
  obtain ⟨adr_8, r_8, her_8, hnr_8, hrr_8, H⟩ := H
  exact r_ret (fn := Try.f93) Try.func93 (res_1 rfl (resV_cellN (by decide) (by show Value.pointer _ = _; rw [her_8]) u73 rfl Try.ti73 hnr_8 hrr_8)) H
 ·clear H; intro hb1 H
  refine r_skip ?_
  refine r_seq ?_
  refine r_topJ (fun (s : Option Addr × Option Addr × Option Addr × Option Addr × Bool) σ => upd 8 (.bool s.2.2.2.2) (upd 7 (.pointer s.2.2.2.1) (upd 5 (.pointer s.2.2.1) (upd 4 (.pointer s.2.1) (upd 3 (.pointer s.1) (σ)))))) (fun (s : Option Addr × Option Addr × Option Addr × Option Addr × Bool) w => f93_k0 R s.1 s.2.1 s.2.2.1 s.2.2.2.1 s.2.2.2.2 w) ?_ ?_
  ·rintro ⟨o3, a4, v5, b7, there8⟩ σ w H
   replace H : f93_k0 R o3 a4 v5 b7 there8 w := H
   try dsimp only
   unfold f93_k0 at H
   refine r_seqJ (fun (s : Option Addr) σ => upd 4 (.pointer s) (σ)) (fun (s : Option Addr) w => f93_k1 R s w) ?_ ?_
   ·rintro a4 σ w H
    replace H : f93_k1 R a4 w := H
    try dsimp only
    unfold f93_k1 at H
    refine sr ?_
    obtain ⟨adv_9, v_9, hev_9, hnv_9, hcv_9, H⟩ := H
    refine xo_read (v := (.agg v_9)) rfl (wo rfl) (rd_loadN (ad := adv_9) rfl u73 rfl Try.ti73 (by show Value.pointer _ = _; rw [hev_9]) hnv_9 hcv_9) ?_
    refine xo_effN rfl (wo rfl) (e_storeN rfl Try.ti73 rfl rfl H) ?_
    intro _ w_5 H
    refine xe ?_
    obtain ⟨adr_10, r_10, her_10, hnr_10, hrr_10, H⟩ := H
    exact r_ret (fn := Try.f93) Try.func93 (res_1 rfl (resV_cellN (by decide) (by show Value.pointer _ = _; rw [her_10]) u73 rfl Try.ti73 hnr_10 hrr_10)) H
   ·intro J3
    refine r_block ?_
    refine sr ?_
    obtain ⟨p_11, hpp_11, H⟩ := H
    refine xp _ rfl (p_fieldAddr (off := 0) (ft := 3) (size := 1) rfl u67 rfl Try.ti3 (by decide) rfl hpp_11) ?_
    obtain ⟨adv_12, v_12, hev_12, hcv_12, H⟩ := H
    refine xr (I v_12) rfl (wo rfl) rfl u3 rfl rfl hev_12 hcv_12 ?_
    refine xp _ rfl (p_eq rfl rfl rfl) ?_
    refine xs (.bool (decide (v_12 = 5))) rfl rfl ?_
    refine xe ?_
    refine r_condB (b := (decide (v_12 = 5))) rfl H ?_ ?_
    ·clear H; intro hb4 H
     refine sr ?_
     refine xm (.bool there8) rfl rfl ?_
     obtain ⟨adv_13, v_13, hev_13, hnv_13, hcv_13, H⟩ := H
     refine xo_read (v := (.agg v_13)) rfl (wo rfl) (rd_loadN (ad := adv_13) rfl u65 rfl Try.ti65 (by show Value.pointer _ = _; rw [hev_13]) hnv_13 hcv_13) ?_
     obtain ⟨c_14, hflc_14, H⟩ := H
     refine xp (.agg c_14) rfl (p_buildS (places := #[(0, 1), (1, 1), (2, 48), (50, 1)]) rfl Try.pl73 Try.ti73 hflc_14 rfl) ?_
     refine xo_effN rfl (wo rfl) (e_storeN rfl Try.ti73 rfl rfl H) ?_
     intro _ w_6 H
     refine xe ?_
     obtain ⟨adr_15, r_15, her_15, hnr_15, hrr_15, H⟩ := H
     exact r_ret (fn := Try.f93) Try.func93 (res_1 rfl (resV_cellN (by decide) (by show Value.pointer _ = _; rw [her_15]) u73 rfl Try.ti73 hnr_15 hrr_15)) H
    ·clear H; intro hb4 H
     refine sr ?_
     obtain ⟨p_16, hpp_16, H⟩ := H
     refine xp _ rfl (p_fieldAddr (off := 0) (ft := 3) (size := 1) rfl u67 rfl Try.ti3 (by decide) rfl hpp_16) ?_
     obtain ⟨adv_17, v_17, hev_17, hcv_17, H⟩ := H
     refine xr (I v_17) rfl (wo rfl) rfl u3 rfl rfl hev_17 hcv_17 ?_
     refine xp _ rfl (p_eq rfl rfl rfl) ?_
     refine xs (.bool (decide (v_17 = 4))) rfl rfl ?_
     refine xe ?_
     refine r_condB (b := (decide (v_17 = 4))) rfl H ?_ ?_
     ·clear H; intro hb5 H
      refine r_draw #[[], [0], [0, 1], [0, 1, 2], [], [4], [0, 1, 2, 3, 4, 5]] 7 rfl rfl ?_
      refine am 0 (.pointer v5) rfl rfl rfl ?_
      obtain ⟨p_18, hpp_18, H⟩ := H
      refine ap 1 (.pointer (some p_18)) rfl rfl (p_nilCheck rfl rfl hpp_18) ?_
      refine ap 2 _ rfl rfl (p_fieldAddr (off := 2) (ft := 168) (size := 1) rfl u170 rfl Try.ti168 (by decide) rfl rfl) ?_
      obtain ⟨adv_19, v_19, hev_19, hcv_19, H⟩ := H
      refine ar 3 (.map v_19) rfl rfl (wo rfl) rfl u168 rfl rfl hev_19 hcv_19 ?_
      obtain ⟨p_20, hpp_20, H⟩ := H
      refine ap 4 _ rfl rfl (p_fieldAddr (off := 3) (ft := 3) (size := 1) rfl u67 rfl Try.ti3 (by decide) rfl hpp_20) ?_
      obtain ⟨adv_21, v_21, hev_21, hcv_21, H⟩ := H
      refine ar 5 (I v_21) rfl rfl (wo rfl) rfl u3 rfl rfl hev_21 hcv_21 ?_
      refine an 6 rfl rfl rfl (wo rfl) (e_biV (b := .delete) H rfl rfl rfl) fun v_22 w_8 H => ?_
      refine ax ?_
      refine r_inBlock ?_
      refine ru 4 (.pointer a4) rfl ?_
      exact J3 a4 _ _ H
     ·clear H; intro hb5 H
      refine r_seq ?_
      refine r_topJ (fun (s : Option Addr × Option Addr × Option Addr × Bool) σ => upd 54 (.bool s.2.2.2) (upd 5 (.pointer s.2.2.1) (upd 4 (.pointer s.2.1) (upd 3 (.pointer s.1) (σ))))) (fun (s : Option Addr × Option Addr × Option Addr × Bool) w => f93_k2 R s.1 s.2.1 s.2.2.1 s.2.2.2 w) ?_ ?_
      ·rintro ⟨o3, a4, v5, t54⟩ σ w H
       replace H : f93_k2 R o3 a4 v5 t54 w := H
       try dsimp only
       unfold f93_k2 at H
       refine r_condB (b := t54) rfl H ?_ ?_
       ·clear H; intro hb7 H
        refine sr ?_
        obtain ⟨c_23, hflc_23, H⟩ := H
        refine xp (.agg c_23) rfl (p_buildS (places := #[(0, 1), (1, 1), (2, 48), (50, 1)]) rfl Try.pl73 Try.ti73 hflc_23 rfl) ?_
        refine xo_effN rfl (wo rfl) (e_storeN rfl Try.ti73 rfl rfl H) ?_
        intro _ w_9 H
        refine xe ?_
        obtain ⟨adr_24, r_24, her_24, hnr_24, hrr_24, H⟩ := H
        exact r_ret (fn := Try.f93) Try.func93 (res_1 rfl (resV_cellN (by decide) (by show Value.pointer _ = _; rw [her_24]) u73 rfl Try.ti73 hnr_24 hrr_24)) H
       ·clear H; intro hb7 H
        refine r_draw #[[], [0], [0, 1], [0, 1, 2], [], [4], [], [6], [0, 1, 2, 3, 4, 5, 6, 7]] 9 rfl rfl ?_
        refine am 0 (.pointer v5) rfl rfl rfl ?_
        obtain ⟨p_25, hpp_25, H⟩ := H
        refine ap 1 (.pointer (some p_25)) rfl rfl (p_nilCheck rfl rfl hpp_25) ?_
        refine ap 2 _ rfl rfl (p_fieldAddr (off := 2) (ft := 168) (size := 1) rfl u170 rfl Try.ti168 (by decide) rfl rfl) ?_
        obtain ⟨adv_26, v_26, hev_26, hcv_26, H⟩ := H
        refine ar 3 (.map v_26) rfl rfl (wo rfl) rfl u168 rfl rfl hev_26 hcv_26 ?_
        obtain ⟨p_27, hpp_27, H⟩ := H
        refine ap 4 _ rfl rfl (p_fieldAddr (off := 3) (ft := 3) (size := 1) rfl u67 rfl Try.ti3 (by decide) rfl hpp_27) ?_
        obtain ⟨adv_28, v_28, hev_28, hcv_28, H⟩ := H
        refine ar 5 (I v_28) rfl rfl (wo rfl) rfl u3 rfl rfl hev_28 hcv_28 ?_
        obtain ⟨p_29, hpp_29, H⟩ := H
        refine ap 6 _ rfl rfl (p_fieldAddr (off := 5) (ft := 65) (size := 48) rfl u67 rfl Try.ti65 (by decide) rfl hpp_29) ?_
        obtain ⟨adv_30, v_30, hev_30, hnv_30, hcv_30, H⟩ := H
        refine xa_read (v := (.agg v_30)) (S := (fun w => Row w adv_30 v_30)) 7 (by decide +kernel) rfl rfl (wo rfl) (fun w hc => rd_loadN (ad := adv_30) rfl u65 rfl Try.ti65 (by show Value.pointer _ = _; rw [hev_30]) hnv_30 hc) hcv_30 ?_
        refine an 8 rfl rfl rfl (wo rfl) (e_genU rfl H) fun _ w_11 H => ?_
        refine ax ?_
        refine r_inBlock ?_
        refine ru 4 (.pointer a4) rfl ?_
        exact J3 a4 _ _ H
      ·intro J6
       refine r_draw #[[], [0], [0, 1], [0, 1, 2], [0, 1, 2, 3], [0, 1, 2, 3, 4], [0, 1, 2, 3, 4, 5], [0, 1, 2, 3, 4, 5, 6], [0, 1, 2], [0, 1, 2, 8], [0, 1, 2, 8, 9], [0, 1, 2, 8, 9, 10], [0, 1, 2, 3, 4, 5, 6, 7, 8, 9, 10, 11], [0, 1, 2, 3, 4, 5, 6, 7, 8, 9, 10, 11, 12], [0, 1, 2, 3, 4, 5, 6, 7, 8, 9, 10, 11, 12, 13]] 15 rfl rfl ?_
       refine am 0 (.bool there8) rfl rfl rfl ?_
       refine ap 1 (.bool (!there8)) rfl rfl (p_not rfl rfl) ?_
       refine am 2 (.bool (!there8)) rfl rfl rfl ?_
       refine ifB_cases H ?_ ?_
       ·clear H; intro hb8 H
        refine ay 3 (.pointer v5) rfl rfl (wy 57 rfl rfl rfl hb8) (p_move rfl rfl) ?_
        obtain ⟨p_31, hpp_31, H⟩ := H
        refine ay 4 (.pointer (some p_31)) rfl rfl (wy 57 rfl rfl rfl hb8) (p_nilCheck rfl rfl hpp_31) ?_
        refine ay 5 (.pointer (some (p_31.add 2))) rfl rfl (wy 57 rfl rfl rfl hb8) (p_fieldAddr (off := 2) (ft := 168) (size := 1) rfl u170 rfl Try.ti168 (by decide) rfl rfl) ?_
        obtain ⟨adv_32, v_32, hev_32, hcv_32, H⟩ := H
        refine ar 6 (.map v_32) rfl rfl (wy 57 rfl rfl rfl hb8) rfl u168 rfl rfl hev_32 hcv_32 ?_
        refine ay 8 (.pointer v5) rfl rfl (wy 57 rfl rfl rfl hb8) (p_move rfl rfl) ?_
        obtain ⟨p_33, hpp_33, H⟩ := H
        refine ay 9 (.pointer (some p_33)) rfl rfl (wy 57 rfl rfl rfl hb8) (p_nilCheck rfl rfl hpp_33) ?_
        refine ay 10 (.pointer (some (p_33.add 0))) rfl rfl (wy 57 rfl rfl rfl hb8) (p_fieldAddr (off := 0) (ft := 3) (size := 1) rfl u170 rfl Try.ti3 (by decide) rfl rfl) ?_
        obtain ⟨adv_34, v_34, hev_34, hcv_34, H⟩ := H
        refine ar 11 (I v_34) rfl rfl (wy 57 rfl rfl rfl hb8) rfl u3 rfl rfl hev_34 hcv_34 ?_
        refine ae 7 [(11, (fun w => w.cell? adv_34 = some (I v_34)))] rfl rfl rfl (wy 57 rfl rfl rfl hb8) (e_bi (b := .len) (enc := Value.int .i64) H rfl rfl rfl) ?_
        rintro _ w_13 ⟨v_35, rfl, H⟩
        obtain ⟨hk7_11, H⟩ := H
        refine ⟨(.cons hk7_11 AllHeld.nil), ?_⟩
        refine ay 12 (.bool (decide (v_34 ≤ v_35))) rfl rfl (wy 57 rfl rfl rfl hb8) (p_ge rfl rfl rfl) ?_
        refine ap 13 (.bool (decide (v_34 ≤ v_35))) rfl rfl (p_pickT rfl rfl hb8 rfl) ?_
        refine as_ 14 (.bool (decide (v_34 ≤ v_35))) rfl rfl rfl ?_
        refine ax ?_
        refine ru4 3 (.pointer o3) 4 (.pointer a4) 5 (.pointer v5) 54 (.bool (decide (v_34 ≤ v_35))) rfl rfl rfl rfl ?_
        exact J6 (o3, a4, v5, (decide (v_34 ≤ v_35))) _ _ H
       ·clear H; intro hb8 H
        refine ak 3 rfl rfl (wn 57 rfl rfl rfl hb8) ?_
        refine ak 4 rfl rfl (wn 57 rfl rfl rfl hb8) ?_
        refine ak 5 rfl rfl (wn 57 rfl rfl rfl hb8) ?_
        refine ak 6 rfl rfl (wn 57 rfl rfl rfl hb8) ?_
        refine ak 8 rfl rfl (wn 57 rfl rfl rfl hb8) ?_
        refine ak 9 rfl rfl (wn 57 rfl rfl rfl hb8) ?_
        refine ak 10 rfl rfl (wn 57 rfl rfl rfl hb8) ?_
        refine ak 11 rfl rfl (wn 57 rfl rfl rfl hb8) ?_
        refine ak 7 rfl rfl (wn 57 rfl rfl rfl hb8) ?_
        refine ak 12 rfl rfl (wn 57 rfl rfl rfl hb8) ?_
        refine ap 13 (.bool false) rfl rfl (p_pickF rfl rfl hb8 rfl) ?_
        refine as_ 14 (.bool false) rfl rfl rfl ?_
        refine ax ?_
        refine ru4 3 (.pointer o3) 4 (.pointer a4) 5 (.pointer v5) 54 (.bool false) rfl rfl rfl rfl ?_
        exact J6 (o3, a4, v5, false) _ _ H
  ·intro J2
   refine r_draw #[[], [0], [0, 1], [0, 1, 2], [], [4], [0, 1, 2, 3, 4, 5], [0, 1, 2, 3, 4, 5, 6], [0, 1, 2, 3, 4, 5, 6, 7], [0, 1, 2, 3, 4, 5, 6, 7], [], [0, 1, 2, 3, 4, 5, 6, 7, 8, 10], [0, 1, 2, 3, 4, 5, 6, 7, 8, 9, 10, 11]] 13 rfl rfl ?_
   refine am 0 (.pointer v_5) rfl rfl rfl ?_
   obtain ⟨p_36, hpp_36, H⟩ := H
   refine ap 1 (.pointer (some p_36)) rfl rfl (p_nilCheck rfl rfl hpp_36) ?_
   refine ap 2 _ rfl rfl (p_fieldAddr (off := 2) (ft := 168) (size := 1) rfl u170 rfl Try.ti168 (by decide) rfl rfl) ?_
   obtain ⟨adv_37, v_37, hev_37, hcv_37, H⟩ := H
   refine ar 3 (.map v_37) rfl rfl (wo rfl) rfl u168 rfl rfl hev_37 hcv_37 ?_
   refine ap 4 _ rfl rfl (p_fieldAddr (off := 3) (ft := 3) (size := 1) rfl u67 rfl Try.ti3 (by decide) rfl rfl) ?_
   obtain ⟨adv_38, v_38, hev_38, hcv_38, H⟩ := H
   refine ar 5 (I v_38) rfl rfl (wo rfl) rfl u3 rfl rfl hev_38 hcv_38 ?_
   refine xa_two (i := 6) (j := 10) (by decide +kernel) ?_ ?_
   ·replace H := H.1
    refine xone_eff 6 [] rfl rfl rfl (wo rfl) (e_genV (s := Instr.lookup 168 (.map v_37) (I v_38) true) rfl H) ?_
    rintro _ w_15 ⟨v_39, v_40, rfl, H⟩
    refine ⟨AllHeld.nil, ?_⟩
    refine am 7 (.tuple #[(.agg v_39), (.bool v_40)]) rfl rfl rfl ?_
    refine ap 8 (.agg v_39) rfl rfl (p_extract (vs := #[(.agg v_39), (.bool v_40)]) rfl rfl rfl) ?_
    refine ap 9 (.bool v_40) rfl rfl (p_extract (vs := #[(.agg v_39), (.bool v_40)]) rfl rfl rfl) ?_
    refine ae 10 [] rfl rfl rfl (wo rfl) (e_alloc rfl Try.ti65 H) ?_
    rintro _ w_16 ⟨a_42, rfl, H⟩
    refine ⟨AllHeld.nil, ?_⟩
    refine an 11 rfl rfl rfl (wo rfl) (e_storeN rfl Try.ti65 rfl rfl H) fun _ w_17 H => ?_
    refine as_ 12 (.bool v_40) rfl rfl rfl ?_
    refine ax ?_
    refine ru4 3 (.pointer (some a_1)) 4 (.pointer (some a_2)) 5 (.pointer v_5) 7 (.pointer (some a_42)) rfl rfl rfl rfl ?_
    refine ru 8 (.bool v_40) rfl ?_
    exact J2 ((some a_1), (some a_2), v_5, (some a_42), v_40) _ _ H
   ·replace H := H.2
    refine xone_eff 10 [(5, (fun w => w.cell? adv_38 = some (I v_38))), (3, (fun w => w.cell? adv_37 = some (.map v_37)))] rfl rfl rfl (wo rfl) (e_alloc rfl Try.ti65 H) ?_
    rintro _ w_18 ⟨a_43, rfl, H⟩
    obtain ⟨hk10_5, hk10_3, H⟩ := H
    refine ⟨(.cons hk10_5 (.cons hk10_3 AllHeld.nil)), ?_⟩
    refine ae 6 [] rfl rfl rfl (wo rfl) (e_genV (s := Instr.lookup 168 (.map v_37) (I v_38) true) rfl H) ?_
    rintro _ w_19 ⟨v_44, v_45, rfl, H⟩
    refine ⟨AllHeld.nil, ?_⟩
    refine am 7 (.tuple #[(.agg v_44), (.bool v_45)]) rfl rfl rfl ?_
    refine ap 8 (.agg v_44) rfl rfl (p_extract (vs := #[(.agg v_44), (.bool v_45)]) rfl rfl rfl) ?_
    refine ap 9 (.bool v_45) rfl rfl (p_extract (vs := #[(.agg v_44), (.bool v_45)]) rfl rfl rfl) ?_
    refine an 11 rfl rfl rfl (wo rfl) (e_storeN rfl Try.ti65 rfl rfl H) fun _ w_20 H => ?_
    refine as_ 12 (.bool v_45) rfl rfl rfl ?_
    refine ax ?_
    refine ru4 3 (.pointer (some a_1)) 4 (.pointer (some a_2)) 5 (.pointer v_5) 7 (.pointer (some a_43)) rfl rfl rfl rfl ?_
    refine ru 8 (.bool v_45) rfl ?_
    exact J2 ((some a_1), (some a_2), v_5, (some a_43), v_45) _ _ H

/-! 94 (*sporran/model.Model).copied -/
def f94_k0 (R : Value → World → Prop) (m0 : Option Addr) (o3 : Option Addr) (c7 : Option Addr) (w : World) : Prop :=
 NotNil o3 fun p_12 =>
 Ld Value.string (some (p_12.add 2)) w fun v_13 =>
 CallF Try.prog 92 #[(.pointer m0), (.string v_13), (.pointer c7), (.int .i64 5)] w fun u_14 w_5 => As (Value.int .i64) u_14 fun v_15 =>
 R (.int .i64 v_15) w_5
def f94_k1 (R : Value → World → Prop) (m0 : Option Addr) (o3 : Option Addr) (v5 : Option Addr) (c7 : Option Addr) (w : World) : Prop :=
 NotNil v5 fun p_17 =>
 Ld Value.map (some (p_17.add 2)) w fun v_18 =>
 CallF Try.prog 152 #[(.map v_18)] w fun u_19 w_7 => As Value.map u_19 fun v_20 =>
 NotNil c7 fun p_21 =>
 St (some (p_21.add 2)) (.map v_20) w_7 fun w_8 =>
 NotNil o3 fun p_22 =>
 Ld Value.string (some (p_22.add 2)) w_8 fun v_23 =>
 CallF Try.prog 92 #[(.pointer m0), (.string v_23), (.pointer c7), (.int .i64 0)] w_8 fun u_24 w_9 => As (Value.int .i64) u_24 fun v_25 =>
 R (.int .i64 v_25) w_9
def f94 (R : Value → World → Prop) (m0 : Option Addr) (o1 : Array Value) (w : World) : Prop :=
 New o1 67 w fun a_1 w_1 =>
 NotNil m0 fun p_2 =>
 Ld Value.map (some (p_2.add 0)) (World.drew w_1) fun v_3 =>
 Ld Value.string (some (a_1.add 1)) (World.drew w_1) fun v_4 =>
 Ef Try.prog (Instr.lookup 163 (.map v_3) (.string v_4) true) id (World.drew w_1) fun u_7 w_3 => AsT2 Value.pointer Value.bool u_7 fun v_5 v_6 =>
 Ld (Value.int .i64) (some (a_1.add 4)) w_3 fun v_8 =>
 Ld (Value.int .i64) (some (a_1.add 0)) w_3 fun v_9 =>
 Built #[(0, 1), (1, 1), (2, 1)] #[(.int .i64 0), (.bool false), (.map none)] [(0, (.int .i64 v_8)), (1, (.bool (decide (v_9 = 6))))] fun c_10 =>
 New c_10 170 w_3 fun a_11 w_4 =>
 IfB (!v_6) (
  Ld Value.bool (some (a_11.add 1)) w_4 fun v_16 =>
  IfB v_16 (
   St (some (a_11.add 0)) (.int .i64 0) w_4 fun w_6 =>
   f94_k0 R m0 (some a_1) (some a_11) w_6) (
   f94_k0 R m0 (some a_1) (some a_11) w_4)) (
  Ld Value.bool (some (a_11.add 1)) w_4 fun v_26 =>
  IfB v_26 (
   NotNil v_5 fun p_27 =>
   Ld (Value.int .i64) (some (p_27.add 0)) w_4 fun v_28 =>
   St (some (a_11.add 0)) (.int .i64 v_28) w_4 fun w_10 =>
   f94_k1 R m0 (some a_1) v_5 (some a_11) w_10) (
   f94_k1 R m0 (some a_1) v_5 (some a_11) w_4))
theorem f94_ok (R : Value → World → Prop) (m0 : Option Addr) (o1 : Array Value) (w : World) (H : f94 R m0 o1 w) : CallF Try.prog 94 #[(.pointer m0), (.agg o1)] w R := by
 refine calls_of_runs (fn := Try.f94) Try.func94 rfl (Nat.le_of_ble_eq_true rfl) ?_
 show Runs _ _ 63 _ _ _ _
 unfold f94 at H
 refine ru2 0 (.pointer m0) 1 (.agg o1) rfl rfl ?_
 refine sr ?_
 refine xo_eff rfl (wo rfl) (e_box (v := (.agg o1)) rfl rfl H) ?_
 rintro _ w_1 ⟨a_1, rfl, H⟩
 refine xs (I 0) rfl rfl ?_
 refine xe ?_
 refine r_seq ?_
 refine r_draw #[[], [0], [0, 1], [0, 1, 2], [], [4], [0, 1, 2, 3, 4, 5], [0, 1, 2, 3, 4, 5, 6], [0, 1, 2, 3, 4, 5, 6, 7], [0, 1, 2, 3, 4, 5, 6, 7], [0, 1, 2, 3, 4, 5, 6, 7, 8], [0, 1, 2, 3, 4, 5, 6, 7, 8, 9, 10]] 12 rfl rfl ?_
 refine am 0 (.pointer m0) rfl rfl rfl ?_
 obtain ⟨p_2, hpp_2, H⟩ := H
 refine ap 1 (.pointer (some p_2)) rfl rfl (p_nilCheck rfl rfl hpp_2) ?_
 refine ap 2 _ rfl rfl (p_fieldAddr (off := 0) (ft := 163) (size := 1) rfl u165 rfl Try.ti163 (by decide) rfl rfl) ?_
 obtain ⟨adv_3, v_3, hev_3, hcv_3, H⟩ := H
 refine ar 3 (.map v_3) rfl rfl (wo rfl) rfl u163 rfl rfl hev_3 hcv_3 ?_
 refine ap 4 _ rfl rfl (p_fieldAddr (off := 1) (ft := 9) (size := 1) rfl u67 rfl Try.ti9 (by decide) rfl rfl) ?_
 obtain ⟨adv_4, v_4, hev_4, hcv_4, H⟩ := H
 refine ar 5 (.string v_4) rfl rfl (wo rfl) rfl u9 rfl rfl hev_4 hcv_4 ?_
 refine ae 6 [] rfl rfl rfl (wo rfl) (e_genV (s := Instr.lookup 163 (.map v_3) (.string v_4) true) rfl H) ?_
 rintro _ w_3 ⟨v_5, v_6, rfl, H⟩
 refine ⟨AllHeld.nil, ?_⟩
 refine am 7 (.tuple #[(.pointer v_5), (.bool v_6)]) rfl rfl rfl ?_
 refine ap 8 (.pointer v_5) rfl rfl (p_extract (vs := #[(.pointer v_5), (.bool v_6)]) rfl rfl rfl) ?_
 refine ap 9 (.bool v_6) rfl rfl (p_extract (vs := #[(.pointer v_5), (.bool v_6)]) rfl rfl rfl) ?_
 refine as_ 10 (.pointer v_5) rfl rfl rfl ?_
 refine as_ 11 (.bool v_6) rfl rfl rfl ?_
 refine ax ?_
 refine sr ?_
 refine xp _ rfl (p_fieldAddr (off := 4) (ft := 3) (size := 1) rfl u67 rfl Try.ti3 (by decide) rfl rfl) ?_
 obtain ⟨adv_8, v_8, hev_8, hcv_8, H⟩ := H
 refine xr (I v_8) rfl (wo rfl) rfl u3 rfl rfl hev_8 hcv_8 ?_
 refine xp _ rfl (p_fieldAddr (off := 0) (ft := 3) (size := 1) rfl u67 rfl Try.ti3 (by decide) rfl rfl) ?_
 obtain ⟨adv_9, v_9, hev_9, hcv_9, H⟩ := H
 refine xr (I v_9) rfl (wo rfl) rfl u3 rfl rfl hev_9 hcv_9 ?_
 refine xp _ rfl (p_eq rfl rfl rfl) ?_
 obtain ⟨c_10, hflc_10, H⟩ := H
 refine xp (.agg c_10) rfl (p_buildS (places := #[(0, 1), (1, 1), (2, 1)]) rfl Try.pl170 Try.ti170 hflc_10 rfl) ?_
 refine xo_eff rfl (wo rfl) (e_box (v := (.agg c_10)) rfl rfl H) ?_
 rintro _ w_4 ⟨a_11, rfl, H⟩
 refine xs (.pointer (some a_11)) rfl rfl ?_
 refine xe ?_
 refine r_seq ?_
 refine sr ?_
 refine xm (.bool v_6) rfl rfl ?_
 refine xp (.bool (!v_6)) rfl (p_not rfl rfl) ?_
 refine xe ?_
 refine r_condB (b := (!v_6)) rfl H ?_ ?_
 ·clear H; intro hb1 H
  refine r_seqJ (fun (s : Option Addr × Option Addr × Option Addr) σ => upd 7 (.pointer s.2.2) (upd 3 (.pointer s.2.1) (upd 0 (.pointer s.1) (σ)))) (fun (s : Option Addr × Option Addr × Option Addr) w => f94_k0 R s.1 s.2.1 s.2.2 w) ?_ ?_
  ·rintro ⟨m0, o3, c7⟩ σ w H
   replace H : f94_k0 R m0 o3 c7 w := H
   try dsimp only
   unfold f94_k0 at H
   refine sr ?_
   refine xm (.pointer m0) rfl rfl ?_
   obtain ⟨p_12, hpp_12, H⟩ := H
   refine xp _ rfl (p_fieldAddr (off := 2) (ft := 9) (size := 1) rfl u67 rfl Try.ti9 (by decide) rfl hpp_12) ?_
   obtain ⟨adv_13, v_13, hev_13, hcv_13, H⟩ := H
   refine xr (.string v_13) rfl (wo rfl) rfl u9 rfl rfl hev_13 hcv_13 ?_
   refine xm (.pointer c7) rfl rfl ?_
   refine xo_eff rfl (wo rfl) (e_call (fn := Try.f92) H rfl rfl Try.func92 rfl rfl rfl) ?_
   rintro _ w_5 ⟨v_15, rfl, H⟩
   refine xs (I v_15) rfl rfl ?_
   refine xe ?_
   exact r_ret (fn := Try.f94) Try.func94 (res_1 rfl ⟨by decide, rfl⟩) H
  ·intro J2
   refine sr ?_
   refine xm (.pointer (some a_11)) rfl rfl ?_
   refine xp (.pointer (some a_11)) rfl (p_nilCheck rfl rfl rfl) ?_
   refine xp _ rfl (p_fieldAddr (off := 1) (ft := 4) (size := 1) rfl u170 rfl Try.ti4 (by decide) rfl rfl) ?_
   obtain ⟨adv_16, v_16, hev_16, hcv_16, H⟩ := H
   refine xr (.bool v_16) rfl (wo rfl) rfl u4 rfl rfl hev_16 hcv_16 ?_
   refine xe ?_
   refine r_condB (b := v_16) rfl H ?_ ?_
   ·clear H; intro hb3 H
    refine r_region ?_
    refine xm (.pointer (some a_11)) rfl rfl ?_
    refine xp (.pointer (some a_11)) rfl (p_nilCheck rfl rfl rfl) ?_
    refine xp _ rfl (p_fieldAddr (off := 0) (ft := 3) (size := 1) rfl u170 rfl Try.ti3 (by decide) rfl rfl) ?_
    refine xo_effN rfl (wo rfl) (e_store rfl Try.ti3 rfl rfl rfl H) ?_
    intro _ w_6 H
    refine xe ?_
    refine ru3 0 (.pointer m0) 3 (.pointer (some a_1)) 7 (.pointer (some a_11)) rfl rfl rfl ?_
    exact J2 (m0, (some a_1), (some a_11)) _ _ H
   ·clear H; intro hb3 H
    refine r_skip ?_
    refine ru3 0 (.pointer m0) 3 (.pointer (some a_1)) 7 (.pointer (some a_11)) rfl rfl rfl ?_
    exact J2 (m0, (some a_1), (some a_11)) _ _ H
 ·clear H; intro hb1 H
  refine r_skip ?_
  refine r_seqJ (fun (s : Option Addr × Option Addr × Option Addr × Option Addr) σ => upd 7 (.pointer s.2.2.2) (upd 5 (.pointer s.2.2.1) (upd 3 (.pointer s.2.1) (upd 0 (.pointer s.1) (σ))))) (fun (s : Option Addr × Option Addr × Option Addr × Option Addr) w => f94_k1 R s.1 s.2.1 s.2.2.1 s.2.2.2 w) ?_ ?_
  ·rintro ⟨m0, o3, v5, c7⟩ σ w H
   replace H : f94_k1 R m0 o3 v5 c7 w := H
   try dsimp only
   unfold f94_k1 at H
   refine sr ?_
   refine xm (.pointer c7) rfl rfl ?_
   refine xm (.pointer v5) rfl rfl ?_
   obtain ⟨p_17, hpp_17, H⟩ := H
   refine xp (.pointer (some p_17)) rfl (p_nilCheck rfl rfl hpp_17) ?_
   refine xp _ rfl (p_fieldAddr (off := 2) (ft := 168) (size := 1) rfl u170 rfl Try.ti168 (by decide) rfl rfl) ?_
   obtain ⟨adv_18, v_18, hev_18, hcv_18, H⟩ := H
   refine xr (.map v_18) rfl (wo rfl) rfl u168 rfl rfl hev_18 hcv_18 ?_
   refine xo_eff rfl (wo rfl) (e_call (fn := Try.f152) H rfl rfl Try.func152 rfl rfl rfl) ?_
   rintro _ w_7 ⟨v_20, rfl, H⟩
   obtain ⟨p_21, hpp_21, H⟩ := H
   refine xp (.pointer (some p_21)) rfl (p_nilCheck rfl rfl hpp_21) ?_
   refine xp _ rfl (p_fieldAddr (off := 2) (ft := 168) (size := 1) rfl u170 rfl Try.ti168 (by decide) rfl rfl) ?_
   refine xo_effN rfl (wo rfl) (e_store rfl Try.ti168 rfl rfl rfl H) ?_
   intro _ w_8 H
   refine xe ?_
   refine sr ?_
   refine xm (.pointer m0) rfl rfl ?_
   obtain ⟨p_22, hpp_22, H⟩ := H
   refine xp _ rfl (p_fieldAddr (off := 2) (ft := 9) (size := 1) rfl u67 rfl Try.ti9 (by decide) rfl hpp_22) ?_
   obtain ⟨adv_23, v_23, hev_23, hcv_23, H⟩ := H
   refine xr (.string v_23) rfl (wo rfl) rfl u9 rfl rfl hev_23 hcv_23 ?_
   refine xm (.pointer c7) rfl rfl ?_
   refine xo_eff rfl (wo rfl) (e_call (fn := Try.f92) H rfl rfl Try.func92 rfl rfl rfl) ?_
   rintro _ w_9 ⟨v_25, rfl, H⟩
   refine xs (I v_25) rfl rfl ?_
   refine xe ?_
   exact r_ret (fn := Try.f94) Try.func94 (res_1 rfl ⟨by decide, rfl⟩) H
  ·intro J4
   refine sr ?_
   refine xm (.pointer (some a_11)) rfl rfl ?_
   refine xp (.pointer (some a_11)) rfl (p_nilCheck rfl rfl rfl) ?_
   refine xp _ rfl (p_fieldAddr (off := 1) (ft := 4) (size := 1) rfl u170 rfl Try.ti4 (by decide) rfl rfl) ?_
   obtain ⟨adv_26, v_26, hev_26, hcv_26, H⟩ := H
   refine xr (.bool v_26) rfl (wo rfl) rfl u4 rfl rfl hev_26 hcv_26 ?_
   refine xe ?_
   refine r_condB (b := v_26) rfl H ?_ ?_
   ·clear H; intro hb5 H
    refine r_region ?_
    refine xm (.pointer (some a_11)) rfl rfl ?_
    refine xm (.pointer v_5) rfl rfl ?_
    obtain ⟨p_27, hpp_27, H⟩ := H
    refine xp (.pointer (some p_27)) rfl (p_nilCheck rfl rfl hpp_27) ?_
    refine xp _ rfl (p_fieldAddr (off := 0) (ft := 3) (size := 1) rfl u170 rfl Try.ti3 (by decide) rfl rfl) ?_
    obtain ⟨adv_28, v_28, hev_28, hcv_28, H⟩ := H
    refine xr (I v_28) rfl (wo rfl) rfl u3 rfl rfl hev_28 hcv_28 ?_
    refine xp (.pointer (some a_11)) rfl (p_nilCheck rfl rfl rfl) ?_
    refine xp _ rfl (p_fieldAddr (off := 0) (ft := 3) (size := 1) rfl u170 rfl Try.ti3 (by decide) rfl rfl) ?_
    refine xo_effN rfl (wo rfl) (e_store rfl Try.ti3 rfl rfl rfl H) ?_
    intro _ w_10 H
    refine xe ?_
    refine ru4 0 (.pointer m0) 3 (.pointer (some a_1)) 5 (.pointer v_5) 7 (.pointer (some a_11)) rfl rfl rfl rfl ?_
    exact J4 (m0, (some a_1), v_5, (some a_11)) _ _ H
   ·clear H; intro hb5 H
    refine r_skip ?_
    refine ru4 0 (.pointer m0) 3 (.pointer (some a_1)) 5 (.pointer v_5) 7 (.pointer (some a_11)) rfl rfl rfl rfl ?_
    exact J4 (m0, (some a_1), v_5, (some a_11)) _ _ H

/-! 95 slices.Sorted[string] -/
def f95 (R : Value → World → Prop) (seq0 : Value) (w : World) : Prop :=
 CallF Try.prog 153 #[seq0] w fun u_1 w_1 => As Sl.v u_1 fun v_2 =>
 CallF Try.prog 154 #[(Sl.v v_2)] w_1 fun _ w_2 =>
 R (Sl.v v_2) w_2
theorem f95_ok (R : Value → World → Prop) (seq0 : Value) (w : World) (H : f95 R seq0 w) : CallF Try.prog 95 #[seq0] w R := by
 refine calls_of_runs (fn := Try.f95) Try.func95 rfl (Nat.le_of_ble_eq_true rfl) ?_
 show Runs _ _ 9 _ _ _ _
 unfold f95 at H
 refine ru 0 seq0 rfl ?_
 refine sr ?_
 refine xs (Sl.v Sl.nil) rfl rfl ?_
 refine xe ?_
 refine sr ?_
 refine xm seq0 rfl rfl ?_
 refine xo_eff rfl (wo rfl) (e_call (fn := Try.f153) H rfl rfl Try.func153 rfl rfl rfl) ?_
 rintro _ w_1 ⟨v_2, rfl, H⟩
 refine xs (Sl.v v_2) rfl rfl ?_
 refine xe ?_
 refine sr ?_
 refine xm (Sl.v v_2) rfl rfl ?_
 refine xo_eff rfl (wo rfl) (e_call (fn := Try.f154) H rfl rfl Try.func154 rfl rfl rfl) ?_
 intro _ w_2 H
 refine xe ?_
 refine sr ?_
 refine xm (Sl.v v_2) rfl rfl ?_
 refine xs (Sl.v v_2) rfl rfl ?_
 refine xe ?_
 exact r_ret (fn := Try.f95) Try.func95 (res_1 rfl ⟨by decide, rfl⟩) H

/-! 96 maps.Keys[map[string]*sporran/model.volume,string,*sporran/model.volume] -/
def f96 (R : Value → World → Prop) (m0 : Option Nat) (w : World) : Prop :=
 New #[(.map m0)] 163 w fun a_1 w_1 =>
 R (.func (.func 155) #[] #[(.pointer (some a_1))]) w_1
theorem f96_ok (R : Value → World → Prop) (m0 : Option Nat) (w : World) (H : f96 R m0 w) : CallF Try.prog 96 #[(.map m0)] w R := by
 refine calls_of_runs (fn := Try.f96) Try.func96 rfl (Nat.le_of_ble_eq_true rfl) ?_
 show Runs _ _ 4 _ _ _ _
 unfold f96 at H
 refine ru 0 (.map m0) rfl ?_
 refine sr ?_
 refine xo_eff rfl (wo rfl) (e_box (v := (.map m0)) rfl rfl H) ?_
 rintro _ w_1 ⟨a_1, rfl, H⟩
 refine xs .nilFunc rfl rfl ?_
 refine xe ?_
 refine sr ?_
 refine xp (.func (.func 155) #[] #[(.pointer (some a_1))]) rfl (p_makeFunc rfl rfl rfl) ?_
 refine xs (.func (.func 155) #[] #[(.pointer (some a_1))]) rfl rfl ?_
 refine xe ?_
 exact r_ret (fn := Try.f96) Try.func96 (res_1 rfl ⟨by decide, rfl⟩) H

/-! 98 slices.Sorted[int] -/
def f98 (R : Value → World → Prop) (seq0 : Value) (w : World) : Prop :=
 CallF Try.prog 157 #[seq0] w fun u_1 w_1 => As Sl.v u_1 fun v_2 =>
 CallF Try.prog 158 #[(Sl.v v_2)] w_1 fun _ w_2 =>
 R (Sl.v v_2) w_2
theorem f98_ok (R : Value → World → Prop) (seq0 : Value) (w : World) (H : f98 R seq0 w) : CallF Try.prog 98 #[seq0] w R := by
 refine calls_of_runs (fn := Try.f98) Try.func98 rfl (Nat.le_of_ble_eq_true rfl) ?_
 show Runs _ _ 9 _ _ _ _
 unfold f98 at H
 refine ru 0 seq0 rfl ?_
 refine sr ?_
 refine xs (Sl.v Sl.nil) rfl rfl ?_
 refine xe ?_
 refine sr ?_
 refine xm seq0 rfl rfl ?_
 refine xo_eff rfl (wo rfl) (e_call (fn := Try.f157) H rfl rfl Try.func157 rfl rfl rfl) ?_
 rintro _ w_1 ⟨v_2, rfl, H⟩
 refine xs (Sl.v v_2) rfl rfl ?_
 refine xe ?_
 refine sr ?_
 refine xm (Sl.v v_2) rfl rfl ?_
 refine xo_eff rfl (wo rfl) (e_call (fn := Try.f158) H rfl rfl Try.func158 rfl rfl rfl) ?_
 intro _ w_2 H
 refine xe ?_
 refine sr ?_
 refine xm (Sl.v v_2) rfl rfl ?_
 refine xs (Sl.v v_2) rfl rfl ?_
 refine xe ?_
 exact r_ret (fn := Try.f98) Try.func98 (res_1 rfl ⟨by decide, rfl⟩) H

/-! 108 maps.Keys[map[int]sporran/api.Block,int,sporran/api.Block] -/
def f108 (R : Value → World → Prop) (m0 : Option Nat) (w : World) : Prop :=
 New #[(.map m0)] 168 w fun a_1 w_1 =>
 R (.func (.func 166) #[] #[(.pointer (some a_1))]) w_1
theorem f108_ok (R : Value → World → Prop) (m0 : Option Nat) (w : World) (H : f108 R m0 w) : CallF Try.prog 108 #[(.map m0)] w R := by
 refine calls_of_runs (fn := Try.f108) Try.func108 rfl (Nat.le_of_ble_eq_true rfl) ?_
 show Runs _ _ 4 _ _ _ _
 unfold f108 at H
 refine ru 0 (.map m0) rfl ?_
 refine sr ?_
 refine xo_eff rfl (wo rfl) (e_box (v := (.map m0)) rfl rfl H) ?_
 rintro _ w_1 ⟨a_1, rfl, H⟩
 refine xs .nilFunc rfl rfl ?_
 refine xe ?_
 refine sr ?_
 refine xp (.func (.func 166) #[] #[(.pointer (some a_1))]) rfl (p_makeFunc rfl rfl rfl) ?_
 refine xs (.func (.func 166) #[] #[(.pointer (some a_1))]) rfl rfl ?_
 refine xe ?_
 exact r_ret (fn := Try.f108) Try.func108 (res_1 rfl ⟨by decide, rfl⟩) H

/-! 125 sporran/pack.Number -/
def f125_b0 (R : Value → World → Prop) (ag1 : (Sl × Int) → World → Prop) (out0 : Sl) (v1 : Int) (w : World) : Prop :=
 IfB (decide (128 ≤ v1)) (
  New #[(.int .u8 (orK .u8 (IntKind.u8.wrap v1) 128))] 5 w fun a_1 w_1 =>
  Ef Try.prog (Builtin.append_ #[39, 39] 39 #[(Sl.v out0), (Sl.v ⟨some a_1, 1, 1⟩)]) Sl.v w_1 fun v_2 w_2 =>
  ag1 (v_2, (shrK .u64 v1 7)) w_2) (
  New #[(.int .u8 (IntKind.u8.wrap v1))] 5 w fun a_3 w_3 =>
  Ef Try.prog (Builtin.append_ #[39, 39] 39 #[(Sl.v out0), (Sl.v ⟨some a_3, 1, 1⟩)]) Sl.v w_3 fun v_4 w_4 =>
  R (Sl.v v_4) w_4)
def f125 (R : Value → World → Prop) (out0 : Sl) (v1 : Int) (w : World) : Prop :=
 Lp (fun ag (s : Sl × Int) w => f125_b0 R ag s.1 s.2 w) (out0, v1) w
theorem f125_ok (R : Value → World → Prop) (out0 : Sl) (v1 : Int) (w : World) (H : f125 R out0 v1 w) : CallF Try.prog 125 #[(Sl.v out0), (.int .u64 v1)] w R := by
 refine calls_of_runs (fn := Try.f125) Try.func125 rfl (Nat.le_of_ble_eq_true rfl) ?_
 show Runs _ _ 20 _ _ _ _
 unfold f125 at H
 refine ru2 0 (Sl.v out0) 1 (.int .u64 v1) rfl rfl ?_
 refine sr ?_
 refine xs (Sl.v Sl.nil) rfl rfl ?_
 refine xe ?_
 refine sb ?_
 refine ru2 0 (Sl.v out0) 1 (.int .u64 v1) rfl rfl ?_
 refine r_loopJ (fun (s : Sl × Int) σ => upd 1 (.int .u64 s.2) (upd 0 (Sl.v s.1) (σ))) (s := (out0, v1)) H ?_
 clear H
 rintro ag1 ⟨out0, v1⟩ σ w H hag1
 replace H : f125_b0 R ag1 out0 v1 w := H
 try dsimp only
 unfold f125_b0 at H
 refine r_seq ?_
 refine sr ?_
 refine xm (.int .u64 v1) rfl rfl ?_
 refine xp _ rfl (p_ge rfl rfl rfl) ?_
 refine xe ?_
 refine r_condB (b := (decide (128 ≤ v1))) rfl H ?_ ?_
 ·clear H; intro hb2 H
  refine r_skip ?_
  refine r_block ?_
  refine sr ?_
  refine xm (Sl.v out0) rfl rfl ?_
  refine xm (.int .u64 v1) rfl rfl ?_
  refine xp (.int .u8 (IntKind.u8.wrap v1)) rfl (p_conv rfl u22 u5 rfl) ?_
  refine xp (.int .u8 (orK .u8 (IntKind.u8.wrap v1) 128)) rfl (p_or rfl rfl rfl) ?_
  refine xo_eff rfl (wo rfl) (e_buildRow H rfl u39 Try.ti5 (by decide) (by decide) rfl rfl (by simp [Value.oneCell', Sl.v])) ?_
  rintro _ w_1 ⟨a_1, rfl, H⟩
  refine xo_eff rfl (wo rfl) (e_app H rfl rfl rfl) ?_
  rintro _ w_2 ⟨v_2, rfl, H⟩
  refine xs (Sl.v v_2) rfl rfl ?_
  refine xe ?_
  refine r_region ?_
  refine xm (.int .u64 v1) rfl rfl ?_
  refine xp (.int .u64 (shrK .u64 v1 7)) rfl (p_shr rfl rfl rfl (by decide)) ?_
  refine xs (.int .u64 (shrK .u64 v1 7)) rfl rfl ?_
  refine xe ?_
  refine r_inBlock ?_
  refine ru2 0 (Sl.v v_2) 1 (.int .u64 (shrK .u64 v1 7)) rfl rfl ?_
  exact hag1 (v_2, (shrK .u64 v1 7)) _ _ H
 ·clear H; intro hb2 H
  refine r_exit rfl ?_
  refine sr ?_
  refine xm (Sl.v out0) rfl rfl ?_
  refine xm (.int .u64 v1) rfl rfl ?_
  refine xp (.int .u8 (IntKind.u8.wrap v1)) rfl (p_conv rfl u22 u5 rfl) ?_
  refine xo_eff rfl (wo rfl) (e_buildRow H rfl u39 Try.ti5 (by decide) (by decide) rfl rfl (by simp [Value.oneCell', Sl.v])) ?_
  rintro _ w_3 ⟨a_3, rfl, H⟩
  refine xo_eff rfl (wo rfl) (e_app H rfl rfl rfl) ?_
  rintro _ w_4 ⟨v_4, rfl, H⟩
  refine xs (Sl.v v_4) rfl rfl ?_
  refine xe ?_
  exact r_ret (fn := Try.f125) Try.func125 (res_1 rfl ⟨by decide, rfl⟩) H

/-! 126 sporran/pack.Bytes -/
def f126 (R : Value → World → Prop) (out0 : Sl) (b1 : Sl) (w : World) : Prop :=
 CallF Try.prog 125 #[(Sl.v out0), (.int .u64 (IntKind.u64.wrap (b1.len : Int)))] w fun u_1 w_1 => As Sl.v u_1 fun v_2 =>
 Ef Try.prog (Builtin.append_ #[39, 39] 39 #[(Sl.v v_2), (Sl.v b1)]) Sl.v w_1 fun v_3 w_2 =>
 R (Sl.v v_3) w_2
theorem f126_ok (R : Value → World → Prop) (out0 : Sl) (b1 : Sl) (w : World) (H : f126 R out0 b1 w) : CallF Try.prog 126 #[(Sl.v out0), (Sl.v b1)] w R := by
 refine calls_of_runs (fn := Try.f126) Try.func126 rfl (Nat.le_of_ble_eq_true rfl) ?_
 show Runs _ _ 12 _ _ _ _
 unfold f126 at H
 refine ru2 0 (Sl.v out0) 1 (Sl.v b1) rfl rfl ?_
 refine sr ?_
 refine xs (Sl.v Sl.nil) rfl rfl ?_
 refine xe ?_
 refine sr ?_
 refine xm (Sl.v out0) rfl rfl ?_
 refine xm (Sl.v b1) rfl rfl ?_
 refine xp (I (b1.len : Int)) rfl (p_len rfl u39 rfl) ?_
 refine xp (.int .u64 (IntKind.u64.wrap (b1.len : Int))) rfl (p_conv rfl u3 u22 rfl) ?_
 refine xo_eff rfl (wo rfl) (e_call (fn := Try.f125) H rfl rfl Try.func125 rfl rfl rfl) ?_
 rintro _ w_1 ⟨v_2, rfl, H⟩
 refine xm (Sl.v b1) rfl rfl ?_
 refine xo_eff rfl (wo rfl) (e_app H rfl rfl rfl) ?_
 rintro _ w_2 ⟨v_3, rfl, H⟩
 refine xs (Sl.v v_3) rfl rfl ?_
 refine xe ?_
 exact r_ret (fn := Try.f126) Try.func126 (res_1 rfl ⟨by decide, rfl⟩) H

/-! 127 sporran/sporranref15.may -/
def f127 (R : Value → World → Prop) (name0 : ByteArray) (quota1 : Int) (w : World) : Prop :=
 CallF Try.prog 134 #[(.string name0)] w fun u_1 w_1 => As Value.bool u_1 fun v_2 =>
 IfB v_2 (
  IfB (decide (0 ≤ quota1)) (
   R (.bool (decide (quota1 ≤ 1048576))) w_1) (
   R (.bool false) w_1)) (
  R (.bool false) w_1)
theorem f127_ok (R : Value → World → Prop) (name0 : ByteArray) (quota1 : Int) (w : World) (H : f127 R name0 quota1 w) : CallF Try.prog 127 #[(.string name0), (.int .i64 quota1)] w R := by
 refine calls_of_runs (fn := Try.f127) Try.func127 rfl (Nat.le_of_ble_eq_true rfl) ?_
 show Runs _ _ 15 _ _ _ _
 unfold f127 at H
 refine ru2 0 (.string name0) 1 (I quota1) rfl rfl ?_
 refine sr ?_
 refine xs (.bool false) rfl rfl ?_
 refine xe ?_
 refine sr ?_
 refine xm (.string name0) rfl rfl ?_
 refine xo_eff rfl (wo rfl) (e_call (fn := Try.f134) H rfl rfl Try.func134 rfl rfl rfl) ?_
 rintro _ w_1 ⟨v_2, rfl, H⟩
 refine xm (.bool v_2) rfl rfl ?_
 refine ifB_cases H ?_ ?_
 ·clear H; intro hb1 H
  refine yp (I quota1) rfl (wy 7 rfl rfl rfl hb1) (p_move rfl rfl) ?_
  refine yp (.bool (decide (0 ≤ quota1))) rfl (wy 7 rfl rfl rfl hb1) (p_ge rfl rfl rfl) ?_
  refine xp (.bool (decide (0 ≤ quota1))) rfl (p_pickT rfl rfl hb1 rfl) ?_
  refine xm (.bool (decide (0 ≤ quota1))) rfl rfl ?_
  refine ifB_cases H ?_ ?_
  ·clear H; intro hb2 H
   refine yp (I quota1) rfl (wy 11 rfl rfl rfl hb2) (p_move rfl rfl) ?_
   refine yp (.bool (decide (quota1 ≤ 1048576))) rfl (wy 11 rfl rfl rfl hb2) (p_le rfl rfl rfl) ?_
   refine xp (.bool (decide (quota1 ≤ 1048576))) rfl (p_pickT rfl rfl hb2 rfl) ?_
   refine xs (.bool (decide (quota1 ≤ 1048576))) rfl rfl ?_
   refine xe ?_
   exact r_ret (fn := Try.f127) Try.func127 (res_1 rfl ⟨by decide, rfl⟩) H
  ·clear H; intro hb2 H
   refine xo_skip rfl (wn 11 rfl rfl rfl hb2) ?_
   refine xo_skip rfl (wn 11 rfl rfl rfl hb2) ?_
   refine xp (.bool false) rfl (p_pickF rfl rfl hb2 rfl) ?_
   refine xs (.bool false) rfl rfl ?_
   refine xe ?_
   exact r_ret (fn := Try.f127) Try.func127 (res_1 rfl ⟨by decide, rfl⟩) H
 ·clear H; intro hb1 H
  refine xo_skip rfl (wn 7 rfl rfl rfl hb1) ?_
  refine xo_skip rfl (wn 7 rfl rfl rfl hb1) ?_
  refine xp (.bool false) rfl (p_pickF rfl rfl hb1 rfl) ?_
  refine xm (.bool false) rfl rfl ?_
  refine xo_skip rfl (wn 11 rfl rfl rfl rfl) ?_
  refine xo_skip rfl (wn 11 rfl rfl rfl rfl) ?_
  refine xp (.bool false) rfl (p_pickF rfl rfl rfl rfl) ?_
  refine xs (.bool false) rfl rfl ?_
  refine xe ?_
  exact r_ret (fn := Try.f127) Try.func127 (res_1 rfl ⟨by decide, rfl⟩) H

/-! 128 sporran/sporranref15.add -/
def f128_k1 (R : Value → World → Prop) (ag1 : (Sl × Option Addr × Int) → World → Prop) (l0 : Sl) (x3 : Option Addr) (at5 : Int) (t20 : Bool) (w : World) : Prop :=
 IfB t20 (
  ag1 (l0, x3, (IntKind.i64.wrap (at5 + 1))) w) (
  New #[] 104 w fun a_2 w_2 =>
  Cut l0 4 none (some at5) none fun s_3 =>
  Ef Try.prog (Builtin.append_ #[100, 100] 100 #[(Sl.v ⟨some a_2, 0, 0⟩), (Sl.v s_3)]) Sl.v w_2 fun v_4 w_3 =>
  LdN 4 x3 w_3 fun v_5 =>
  v_5.size = 4 ∧ (
  New v_5 104 w_3 fun a_6 w_4 =>
  Ef Try.prog (Builtin.append_ #[100, 100] 100 #[(Sl.v v_4), (Sl.v ⟨some a_6, 1, 1⟩)]) Sl.v w_4 fun v_8 w_5 =>
  Cut l0 4 (some at5) none none fun s_9 =>
  Ef Try.prog (Builtin.append_ #[100, 100] 100 #[(Sl.v v_8), (Sl.v s_9)]) Sl.v w_5 fun v_10 w_6 =>
  R (Sl.v v_10) w_6))
def f128_b0 (R : Value → World → Prop) (ag1 : (Sl × Option Addr × Int) → World → Prop) (l0 : Sl) (x3 : Option Addr) (at5 : Int) (w : World) : Prop :=
 IfB (decide (at5 < (l0.len : Int))) (
  Ix l0 at5 fun p_11 =>
  Ld Value.string (some ((p_11.add (at5.toNat * 4)).add 0)) (World.drew w) fun v_12 =>
  NotNil x3 fun p_13 =>
  Ld Value.string (some (p_13.add 0)) (World.drew w) fun v_14 =>
  f128_k1 R ag1 l0 x3 at5 (slt v_12 v_14) (World.drew w)) (
  f128_k1 R ag1 l0 x3 at5 false (World.drew w))
def f128 (R : Value → World → Prop) (l0 : Sl) (x1 : Array Value) (w : World) : Prop :=
 New x1 104 w fun a_1 w_1 =>
 Lp (fun ag (s : Sl × Option Addr × Int) w => f128_b0 R ag s.1 s.2.1 s.2.2 w) (l0, (some a_1), 0) w_1
theorem f128_ok (R : Value → World → Prop) (l0 : Sl) (x1 : Array Value) (w : World) (H : f128 R l0 x1 w) : CallF Try.prog 128 #[(Sl.v l0), (.agg x1)] w R := by
 refine calls_of_runs (fn := Try.f128) Try.func128 rfl (Nat.le_of_ble_eq_true rfl) ?_
 show Runs _ _ 37 _ _ _ _
 unfold f128 at H
 refine ru2 0 (Sl.v l0) 1 (.agg x1) rfl rfl ?_
 refine sr ?_
 refine xo_eff rfl (wo rfl) (e_box (v := (.agg x1)) rfl rfl H) ?_
 rintro _ w_1 ⟨a_1, rfl, H⟩
 refine xs (Sl.v Sl.nil) rfl rfl ?_
 refine xe ?_
 refine sr ?_
 refine xs (I 0) rfl rfl ?_
 refine xe ?_
 refine sb ?_
 refine ru3 0 (Sl.v l0) 3 (.pointer (some a_1)) 5 (I 0) rfl rfl rfl ?_
 refine r_loopJ (fun (s : Sl × Option Addr × Int) σ => upd 5 (I s.2.2) (upd 3 (.pointer s.2.1) (upd 0 (Sl.v s.1) (σ)))) (s := (l0, (some a_1), 0)) H ?_
 clear H
 rintro ag1 ⟨l0, x3, at5⟩ σ w H hag1
 replace H : f128_b0 R ag1 l0 x3 at5 w := H
 try dsimp only
 unfold f128_b0 at H
 refine r_seq ?_
 refine r_seq ?_
 refine r_topJ (fun (s : Sl × Option Addr × Int × Bool) σ => upd 20 (.bool s.2.2.2) (upd 5 (I s.2.2.1) (upd 3 (.pointer s.2.1) (upd 0 (Sl.v s.1) (σ))))) (fun (s : Sl × Option Addr × Int × Bool) w => f128_k1 R ag1 s.1 s.2.1 s.2.2.1 s.2.2.2 w) ?_ ?_
 ·rintro ⟨l0, x3, at5, t20⟩ σ w H
  replace H : f128_k1 R ag1 l0 x3 at5 t20 w := H
  try dsimp only
  unfold f128_k1 at H
  refine r_condB (b := t20) rfl H ?_ ?_
  ·clear H; intro hb3 H
   refine r_skip ?_
   refine r_block ?_
   refine r_region ?_
   refine xm (I at5) rfl rfl ?_
   refine xp _ rfl (p_add rfl rfl rfl) ?_
   refine xs (I (W (at5 + 1))) rfl rfl ?_
   refine xe ?_
   refine r_inBlock ?_
   refine ru3 0 (Sl.v l0) 3 (.pointer x3) 5 (I (W (at5 + 1))) rfl rfl rfl ?_
   exact hag1 (l0, x3, (W (at5 + 1))) _ _ H
  ·clear H; intro hb3 H
   refine r_exit rfl ?_
   refine sr ?_
   refine xo_eff rfl (wo rfl) (e_buildSlice0 rfl u100 Try.ti104 H) ?_
   rintro _ w_2 ⟨a_2, rfl, H⟩
   refine xm (Sl.v l0) rfl rfl ?_
   refine xm (I at5) rfl rfl ?_
   obtain ⟨ls_3, hs_3, ms_3, c3s_3, c4s_3, c5s_3, c6s_3, c7s_3, H⟩ := H
   obtain ⟨s_3, hds_3⟩ : ∃ q : Sl, q = ⟨if ms_3 = ls_3 then l0.a else l0.a.map (·.add (ls_3 * 4)), hs_3 - ls_3, ms_3 - ls_3⟩ := ⟨_, rfl⟩
   rw [← hds_3] at H
   refine xp (Sl.v s_3) rfl (by rw [hds_3]; exact p_slice (s := l0) (size := 4) (vl := none) (vh := some at5) (vm := none) rfl u100 Try.ti104 rfl OptI.none (OptI.some rfl) OptI.none c3s_3 c4s_3 c5s_3 c6s_3 c7s_3) ?_
   refine xo_eff rfl (wo rfl) (e_app H rfl rfl rfl) ?_
   rintro _ w_3 ⟨v_4, rfl, H⟩
   refine xs (Sl.v v_4) rfl rfl ?_
   refine xe ?_
   refine sr ?_
   refine xm (Sl.v v_4) rfl rfl ?_
   obtain ⟨adv_5, v_5, hev_5, hnv_5, hcv_5, H⟩ := H
   refine xo_read (v := (.agg v_5)) rfl (wo rfl) (rd_loadN (ad := adv_5) rfl u104 rfl Try.ti104 (by show Value.pointer _ = _; rw [hev_5]) hnv_5 hcv_5) ?_
   obtain ⟨hzq_7, H⟩ := H
   refine xo_eff rfl (wo rfl) (e_buildAgg (size := 4) H rfl u100 Try.ti104 (by decide) (by decide) rfl hzq_7) ?_
   rintro _ w_4 ⟨a_6, rfl, H⟩
   refine xo_eff rfl (wo rfl) (e_app H rfl rfl rfl) ?_
   rintro _ w_5 ⟨v_8, rfl, H⟩
   refine xs (Sl.v v_8) rfl rfl ?_
   refine xe ?_
   refine sr ?_
   refine xm (Sl.v v_8) rfl rfl ?_
   refine xm (Sl.v l0) rfl rfl ?_
   refine xm (I at5) rfl rfl ?_
   obtain ⟨ls_9, hs_9, ms_9, c3s_9, c4s_9, c5s_9, c6s_9, c7s_9, H⟩ := H
   obtain ⟨s_9, hds_9⟩ : ∃ q : Sl, q = ⟨if ms_9 = ls_9 then l0.a else l0.a.map (·.add (ls_9 * 4)), hs_9 - ls_9, ms_9 - ls_9⟩ := ⟨_, rfl⟩
   rw [← hds_9] at H
   refine xp (Sl.v s_9) rfl (by rw [hds_9]; exact p_slice (s := l0) (size := 4) (vl := some at5) (vh := none) (vm := none) rfl u100 Try.ti104 rfl (OptI.some rfl) OptI.none OptI.none c3s_9 c4s_9 c5s_9 c6s_9 c7s_9) ?_
   refine xo_eff rfl (wo rfl) (e_app H rfl rfl rfl) ?_
   rintro _ w_6 ⟨v_10, rfl, H⟩
   refine xs (Sl.v v_10) rfl rfl ?_
   refine xe ?_
   exact r_ret (fn := Try.f128) Try.func128 (res_1 rfl ⟨by decide, rfl⟩) H
 ·intro J2
  refine r_draw #[[], [], [1], [0, 1, 2], [0, 1, 2, 3], [0, 1, 2, 3, 4], [0, 1, 2, 3, 4], [0, 1, 2, 3, 4, 5, 6], [0, 1, 2, 3, 4, 5, 6, 7], [0, 1, 2, 3, 4, 5, 6, 7, 8], [0, 1, 2, 3, 4], [0, 1, 2, 3, 4, 10], [0, 1, 2, 3, 4, 5, 6, 7, 8, 9, 10, 11], [0, 1, 2, 3, 4, 5, 6, 7, 8, 9, 10, 11, 12]] 14 rfl rfl ?_
  refine am 0 (I at5) rfl rfl rfl ?_
  refine am 1 (Sl.v l0) rfl rfl rfl ?_
  refine ap 2 (I (l0.len : Int)) rfl rfl (p_len rfl u100 rfl) ?_
  refine ap 3 _ rfl rfl (p_lt rfl rfl rfl) ?_
  refine am 4 (.bool (decide (at5 < (l0.len : Int)))) rfl rfl rfl ?_
  refine ifB_cases H ?_ ?_
  ·clear H; intro hb4 H
   refine ay 5 (Sl.v l0) rfl rfl (wy 11 rfl rfl rfl hb4) (p_move rfl rfl) ?_
   refine ay 6 (I at5) rfl rfl (wy 11 rfl rfl rfl hb4) (p_move rfl rfl) ?_
   obtain ⟨p_11, hap_11, hlp_11, hup_11, H⟩ := H
   refine ay 7 (.pointer (some (p_11.add (at5.toNat * 4)))) rfl rfl (wy 11 rfl rfl rfl hb4) (p_indexAddr (s := l0) (ad := p_11) (size := 4) rfl u100 Try.ti104 rfl rfl hap_11 hlp_11 hup_11) ?_
   refine ay 8 (.pointer (some ((p_11.add (at5.toNat * 4)).add 0))) rfl rfl (wy 11 rfl rfl rfl hb4) (p_fieldAddr (off := 0) (ft := 9) (size := 1) rfl u104 rfl Try.ti9 (by decide) rfl rfl) ?_
   obtain ⟨adv_12, v_12, hev_12, hcv_12, H⟩ := H
   refine ar 9 (.string v_12) rfl rfl (wy 11 rfl rfl rfl hb4) rfl u9 rfl rfl hev_12 hcv_12 ?_
   obtain ⟨p_13, hpp_13, H⟩ := H
   refine ay 10 (.pointer (some (p_13.add 0))) rfl rfl (wy 11 rfl rfl rfl hb4) (p_fieldAddr (off := 0) (ft := 9) (size := 1) rfl u104 rfl Try.ti9 (by decide) rfl hpp_13) ?_
   obtain ⟨adv_14, v_14, hev_14, hcv_14, H⟩ := H
   refine ar 11 (.string v_14) rfl rfl (wy 11 rfl rfl rfl hb4) rfl u9 rfl rfl hev_14 hcv_14 ?_
   refine ay 12 (.bool (slt v_12 v_14)) rfl rfl (wy 11 rfl rfl rfl hb4) (p_slt rfl rfl rfl) ?_
   refine ap 13 (.bool (slt v_12 v_14)) rfl rfl (p_pickT rfl rfl hb4 rfl) ?_
   refine ax ?_
   refine ru4 0 (Sl.v l0) 3 (.pointer x3) 5 (I at5) 20 (.bool (slt v_12 v_14)) rfl rfl rfl rfl ?_
   exact J2 (l0, x3, at5, (slt v_12 v_14)) _ _ H
  ·clear H; intro hb4 H
   refine ak 5 rfl rfl (wn 11 rfl rfl rfl hb4) ?_
   refine ak 6 rfl rfl (wn 11 rfl rfl rfl hb4) ?_
   refine ak 7 rfl rfl (wn 11 rfl rfl rfl hb4) ?_
   refine ak 8 rfl rfl (wn 11 rfl rfl rfl hb4) ?_
   refine ak 9 rfl rfl (wn 11 rfl rfl rfl hb4) ?_
   refine ak 10 rfl rfl (wn 11 rfl rfl rfl hb4) ?_
   refine ak 11 rfl rfl (wn 11 rfl rfl rfl hb4) ?_
   refine ak 12 rfl rfl (wn 11 rfl rfl rfl hb4) ?_
   refine ap 13 (.bool false) rfl rfl (p_pickF rfl rfl hb4 rfl) ?_
   refine ax ?_
   refine ru4 0 (Sl.v l0) 3 (.pointer x3) 5 (I at5) 20 (.bool false) rfl rfl rfl rfl ?_
   exact J2 (l0, x3, at5, false) _ _ H

/-! 129 sporran/sporranref01.Number -/
def f129_b0 (R : Value → World → Prop) (ag1 : (Sl × Int × Int) → World → Prop) (out0 : Sl) (v1 : Int) (i5 : Int) (w : World) : Prop :=
 IfB (decide (i5 < 10)) (
  IfB (decide ((IntKind.u64.wrap (Int.tdiv v1 128)) = 0)) (
   New #[(.int .u8 (IntKind.u8.wrap (Int.tmod v1 128)))] 5 w fun a_1 w_1 =>
   Ef Try.prog (Builtin.append_ #[39, 39] 39 #[(Sl.v out0), (Sl.v ⟨some a_1, 1, 1⟩)]) Sl.v w_1 fun v_2 w_2 =>
   R (Sl.v v_2) w_2) (
   New #[(.int .u8 (IntKind.u8.wrap ((IntKind.u8.wrap (Int.tmod v1 128)) + 128)))] 5 w fun a_3 w_3 =>
   Ef Try.prog (Builtin.append_ #[39, 39] 39 #[(Sl.v out0), (Sl.v ⟨some a_3, 1, 1⟩)]) Sl.v w_3 fun v_4 w_4 =>
   ag1 (v_4, (IntKind.u64.wrap (Int.tdiv v1 128)), (IntKind.i64.wrap (i5 + 1))) w_4)) (
  R (Sl.v out0) w)
def f129 (R : Value → World → Prop) (out0 : Sl) (v1 : Int) (w : World) : Prop :=
 Lp (fun ag (s : Sl × Int × Int) w => f129_b0 R ag s.1 s.2.1 s.2.2 w) (out0, v1, 0) w
theorem f129_ok (R : Value → World → Prop) (out0 : Sl) (v1 : Int) (w : World) (H : f129 R out0 v1 w) : CallF Try.prog 129 #[(Sl.v out0), (.int .u64 v1)] w R := by
 refine calls_of_runs (fn := Try.f129) Try.func129 rfl (Nat.le_of_ble_eq_true rfl) ?_
 show Runs _ _ 28 _ _ _ _
 unfold f129 at H
 refine ru2 0 (Sl.v out0) 1 (.int .u64 v1) rfl rfl ?_
 refine sr ?_
 refine xs (Sl.v Sl.nil) rfl rfl ?_
 refine xe ?_
 refine r_seq ?_
 refine sr ?_
 refine xs (I 0) rfl rfl ?_
 refine xe ?_
 refine r_block ?_
 refine ru3 0 (Sl.v out0) 1 (.int .u64 v1) 5 (I 0) rfl rfl rfl ?_
 refine r_loopJ (fun (s : Sl × Int × Int) σ => upd 5 (I s.2.2) (upd 1 (.int .u64 s.2.1) (upd 0 (Sl.v s.1) (σ)))) (s := (out0, v1, 0)) H ?_
 clear H
 rintro ag1 ⟨out0, v1, i5⟩ σ w H hag1
 replace H : f129_b0 R ag1 out0 v1 i5 w := H
 try dsimp only
 unfold f129_b0 at H
 refine r_seq ?_
 refine sr ?_
 refine xm (I i5) rfl rfl ?_
 refine xp _ rfl (p_lt rfl rfl rfl) ?_
 refine xe ?_
 refine r_condB (b := (decide (i5 < 10))) rfl H ?_ ?_
 ·clear H; intro hb2 H
  refine r_skip ?_
  refine sb ?_
  refine sr ?_
  refine xm (.int .u64 v1) rfl rfl ?_
  refine xp (.int .u64 (Int.tmod v1 128)) rfl (p_rem rfl rfl rfl (by decide)) ?_
  refine xp (.int .u8 (IntKind.u8.wrap (Int.tmod v1 128))) rfl (p_conv rfl u22 u5 rfl) ?_
  refine xs (.int .u8 (IntKind.u8.wrap (Int.tmod v1 128))) rfl rfl ?_
  refine xe ?_
  refine sr ?_
  refine xm (.int .u64 v1) rfl rfl ?_
  refine xp (.int .u64 (IntKind.u64.wrap (Int.tdiv v1 128))) rfl (p_quo rfl rfl rfl (by decide)) ?_
  refine xs (.int .u64 (IntKind.u64.wrap (Int.tdiv v1 128))) rfl rfl ?_
  refine xe ?_
  refine r_seq ?_
  refine sr ?_
  refine xm (.int .u64 (IntKind.u64.wrap (Int.tdiv v1 128))) rfl rfl ?_
  refine xp _ rfl (p_eq rfl rfl rfl) ?_
  refine xe ?_
  refine r_condB (b := (decide ((IntKind.u64.wrap (Int.tdiv v1 128)) = 0))) rfl H ?_ ?_
  ·clear H; intro hb3 H
   refine sr ?_
   refine xm (Sl.v out0) rfl rfl ?_
   refine xm (.int .u8 (IntKind.u8.wrap (Int.tmod v1 128))) rfl rfl ?_
   refine xo_eff rfl (wo rfl) (e_buildRow H rfl u39 Try.ti5 (by decide) (by decide) rfl rfl (by simp [Value.oneCell', Sl.v])) ?_
   rintro _ w_1 ⟨a_1, rfl, H⟩
   refine xo_eff rfl (wo rfl) (e_app H rfl rfl rfl) ?_
   rintro _ w_2 ⟨v_2, rfl, H⟩
   refine xs (Sl.v v_2) rfl rfl ?_
   refine xe ?_
   exact r_ret (fn := Try.f129) Try.func129 (res_1 rfl ⟨by decide, rfl⟩) H
  ·clear H; intro hb3 H
   refine r_skip ?_
   refine r_region ?_
   refine xm (Sl.v out0) rfl rfl ?_
   refine xm (.int .u8 (IntKind.u8.wrap (Int.tmod v1 128))) rfl rfl ?_
   refine xp _ rfl (p_add rfl rfl rfl) ?_
   refine xo_eff rfl (wo rfl) (e_buildRow H rfl u39 Try.ti5 (by decide) (by decide) rfl rfl (by simp [Value.oneCell', Sl.v])) ?_
   rintro _ w_3 ⟨a_3, rfl, H⟩
   refine xo_eff rfl (wo rfl) (e_app H rfl rfl rfl) ?_
   rintro _ w_4 ⟨v_4, rfl, H⟩
   refine xs (Sl.v v_4) rfl rfl ?_
   refine xe ?_
   refine r_inBlock ?_
   refine r_region ?_
   refine xm (I i5) rfl rfl ?_
   refine xp _ rfl (p_add rfl rfl rfl) ?_
   refine xs (I (W (i5 + 1))) rfl rfl ?_
   refine xe ?_
   refine ru3 0 (Sl.v v_4) 1 (.int .u64 (IntKind.u64.wrap (Int.tdiv v1 128))) 5 (I (W (i5 + 1))) rfl rfl rfl ?_
   exact hag1 (v_4, (IntKind.u64.wrap (Int.tdiv v1 128)), (W (i5 + 1))) _ _ H
 ·clear H; intro hb2 H
  refine r_exit rfl ?_
  refine sr ?_
  refine xm (Sl.v out0) rfl rfl ?_
  refine xs (Sl.v out0) rfl rfl ?_
  refine xe ?_
  exact r_ret (fn := Try.f129) Try.func129 (res_1 rfl ⟨by decide, rfl⟩) H

/-! 130 sporran/sporranref01.Bytes -/
def f130 (R : Value → World → Prop) (out0 : Sl) (b1 : Sl) (w : World) : Prop :=
 CallF Try.prog 129 #[(Sl.v out0), (.int .u64 (IntKind.u64.wrap (b1.len : Int)))] w fun u_1 w_1 => As Sl.v u_1 fun v_2 =>
 Ef Try.prog (Builtin.append_ #[39, 39] 39 #[(Sl.v v_2), (Sl.v b1)]) Sl.v w_1 fun v_3 w_2 =>
 R (Sl.v v_3) w_2
theorem f130_ok (R : Value → World → Prop) (out0 : Sl) (b1 : Sl) (w : World) (H : f130 R out0 b1 w) : CallF Try.prog 130 #[(Sl.v out0), (Sl.v b1)] w R := by
 refine calls_of_runs (fn := Try.f130) Try.func130 rfl (Nat.le_of_ble_eq_true rfl) ?_
 show Runs _ _ 13 _ _ _ _
 unfold f130 at H
 refine ru2 0 (Sl.v out0) 1 (Sl.v b1) rfl rfl ?_
 refine sr ?_
 refine xs (Sl.v Sl.nil) rfl rfl ?_
 refine xe ?_
 refine sr ?_
 refine xm (Sl.v out0) rfl rfl ?_
 refine xm (Sl.v b1) rfl rfl ?_
 refine xp (I (b1.len : Int)) rfl (p_len rfl u39 rfl) ?_
 refine xp (.int .u64 (IntKind.u64.wrap (b1.len : Int))) rfl (p_conv rfl u3 u22 rfl) ?_
 refine xo_eff rfl (wo rfl) (e_call (fn := Try.f129) H rfl rfl Try.func129 rfl rfl rfl) ?_
 rintro _ w_1 ⟨v_2, rfl, H⟩
 refine xs (Sl.v v_2) rfl rfl ?_
 refine xe ?_
 refine sr ?_
 refine xm (Sl.v v_2) rfl rfl ?_
 refine xm (Sl.v b1) rfl rfl ?_
 refine xo_eff rfl (wo rfl) (e_app H rfl rfl rfl) ?_
 rintro _ w_2 ⟨v_3, rfl, H⟩
 refine xs (Sl.v v_3) rfl rfl ?_
 refine xe ?_
 exact r_ret (fn := Try.f130) Try.func130 (res_1 rfl ⟨by decide, rfl⟩) H

/-! 134 sporran/sporranref12.Named -/
def f134_k1 (R : Value → World → Prop) (ag1 : (ByteArray × Int) → World → Prop) (s0 : ByteArray) (i3 : Int) (t19 : Bool) (w : World) : Prop :=
 IfB t19 (
  R (.bool false) w) (
  ag1 (s0, (IntKind.i64.wrap (i3 + 1))) w)
def f134_b0 (R : Value → World → Prop) (ag1 : (ByteArray × Int) → World → Prop) (s0 : ByteArray) (i3 : Int) (w : World) : Prop :=
 IfB (decide (i3 < (s0.size : Int))) (
  IxA s0.size i3 (
  IfB (decide (((s0.data.toList.getD (i3).toNat 0).toNat : Int) < 33)) (
   f134_k1 R ag1 s0 i3 true w) (
   IxA s0.size i3 (
   f134_k1 R ag1 s0 i3 (decide (126 < ((s0.data.toList.getD (i3).toNat 0).toNat : Int))) w)))) (
  IfB (decide (1 ≤ (s0.size : Int))) (
   R (.bool (decide ((s0.size : Int) ≤ 20))) w) (
   R (.bool false) w))
def f134 (R : Value → World → Prop) (s0 : ByteArray) (w : World) : Prop :=
 Lp (fun ag (s : ByteArray × Int) w => f134_b0 R ag s.1 s.2 w) (s0, 0) w
theorem f134_ok (R : Value → World → Prop) (s0 : ByteArray) (w : World) (H : f134 R s0 w) : CallF Try.prog 134 #[(.string s0)] w R := by
 refine calls_of_runs (fn := Try.f134) Try.func134 rfl (Nat.le_of_ble_eq_true rfl) ?_
 show Runs _ _ 28 _ _ _ _
 unfold f134 at H
 refine ru 0 (.string s0) rfl ?_
 refine sr ?_
 refine xs (.bool false) rfl rfl ?_
 refine xe ?_
 refine r_seq ?_
 refine sr ?_
 refine xs (I 0) rfl rfl ?_
 refine xe ?_
 refine r_block ?_
 refine ru2 0 (.string s0) 3 (I 0) rfl rfl ?_
 refine r_loopJ (fun (s : ByteArray × Int) σ => upd 3 (I s.2) (upd 0 (.string s.1) (σ))) (s := (s0, 0)) H ?_
 clear H
 rintro ag1 ⟨s0, i3⟩ σ w H hag1
 replace H : f134_b0 R ag1 s0 i3 w := H
 try dsimp only
 unfold f134_b0 at H
 refine r_seq ?_
 refine sr ?_
 refine xm (I i3) rfl rfl ?_
 refine xm (.string s0) rfl rfl ?_
 refine xp (I (s0.size : Int)) rfl (p_lenS rfl u9 rfl) ?_
 refine xp _ rfl (p_lt rfl rfl rfl) ?_
 refine xe ?_
 refine r_condB (b := (decide (i3 < (s0.size : Int)))) rfl H ?_ ?_
 ·clear H; intro hb2 H
  refine r_skip ?_
  refine sb ?_
  refine r_seq ?_
  refine r_topJ (fun (s : ByteArray × Int × Bool) σ => upd 19 (.bool s.2.2) (upd 3 (I s.2.1) (upd 0 (.string s.1) (σ)))) (fun (s : ByteArray × Int × Bool) w => f134_k1 R ag1 s.1 s.2.1 s.2.2 w) ?_ ?_
  ·rintro ⟨s0, i3, t19⟩ σ w H
   replace H : f134_k1 R ag1 s0 i3 t19 w := H
   try dsimp only
   unfold f134_k1 at H
   refine r_condB (b := t19) rfl H ?_ ?_
   ·clear H; intro hb4 H
    refine sr ?_
    refine xs (.bool false) rfl rfl ?_
    refine xe ?_
    exact r_ret (fn := Try.f134) Try.func134 (res_1 rfl ⟨by decide, rfl⟩) H
   ·clear H; intro hb4 H
    refine r_skip ?_
    refine r_inBlock ?_
    refine r_region ?_
    refine xm (I i3) rfl rfl ?_
    refine xp _ rfl (p_add rfl rfl rfl) ?_
    refine xs (I (W (i3 + 1))) rfl rfl ?_
    refine xe ?_
    refine ru2 0 (.string s0) 3 (I (W (i3 + 1))) rfl rfl ?_
    exact hag1 (s0, (W (i3 + 1))) _ _ H
  ·intro J3
   refine r_region ?_
   refine xm (.string s0) rfl rfl ?_
   refine xm (I i3) rfl rfl ?_
   obtain ⟨hlq_1, huq_1, H⟩ := H
   refine xp (.int .u8 ((s0.data.toList.getD (i3).toNat 0).toNat : Int)) rfl (p_indexS rfl u9 rfl rfl hlq_1 huq_1) ?_
   refine xp _ rfl (p_lt rfl rfl rfl) ?_
   refine xm (.bool (decide (((s0.data.toList.getD (i3).toNat 0).toNat : Int) < 33))) rfl rfl ?_
   refine ifB_cases H ?_ ?_
   ·clear H; intro hb5 H
    refine xo_skip rfl (wn 14 rfl rfl rfl hb5) ?_
    refine xo_skip rfl (wn 14 rfl rfl rfl hb5) ?_
    refine xo_skip rfl (wn 14 rfl rfl rfl hb5) ?_
    refine xo_skip rfl (wn 14 rfl rfl rfl hb5) ?_
    refine xp (.bool true) rfl (p_pickT rfl rfl hb5 rfl) ?_
    refine xe ?_
    refine ru3 0 (.string s0) 3 (I i3) 19 (.bool true) rfl rfl rfl ?_
    exact J3 (s0, i3, true) _ _ H
   ·clear H; intro hb5 H
    refine yp (.string s0) rfl (wy 14 rfl rfl rfl hb5) (p_move rfl rfl) ?_
    refine yp (I i3) rfl (wy 14 rfl rfl rfl hb5) (p_move rfl rfl) ?_
    obtain ⟨hlq_2, huq_2, H⟩ := H
    refine yp (.int .u8 ((s0.data.toList.getD (i3).toNat 0).toNat : Int)) rfl (wy 14 rfl rfl rfl hb5) (p_indexS rfl u9 rfl rfl hlq_2 huq_2) ?_
    refine yp (.bool (decide (126 < ((s0.data.toList.getD (i3).toNat 0).toNat : Int)))) rfl (wy 14 rfl rfl rfl hb5) (p_gt rfl rfl rfl) ?_
    refine xp (.bool (decide (126 < ((s0.data.toList.getD (i3).toNat 0).toNat : Int)))) rfl (p_pickF rfl rfl hb5 rfl) ?_
    refine xe ?_
    refine ru3 0 (.string s0) 3 (I i3) 19 (.bool (decide (126 < ((s0.data.toList.getD (i3).toNat 0).toNat : Int)))) rfl rfl rfl ?_
    exact J3 (s0, i3, (decide (126 < ((s0.data.toList.getD (i3).toNat 0).toNat : Int)))) _ _ H
 ·clear H; intro hb2 H
  refine r_exit rfl ?_
  refine sr ?_
  refine xm (.string s0) rfl rfl ?_
  refine xp (I (s0.size : Int)) rfl (p_lenS rfl u9 rfl) ?_
  refine xp _ rfl (p_ge rfl rfl rfl) ?_
  refine xm (.bool (decide (1 ≤ (s0.size : Int)))) rfl rfl ?_
  refine ifB_cases H ?_ ?_
  ·clear H; intro hb6 H
   refine yp (.string s0) rfl (wy 23 rfl rfl rfl hb6) (p_move rfl rfl) ?_
   refine yp (I (s0.size : Int)) rfl (wy 23 rfl rfl rfl hb6) (p_lenS rfl u9 rfl) ?_
   refine yp (.bool (decide ((s0.size : Int) ≤ 20))) rfl (wy 23 rfl rfl rfl hb6) (p_le rfl rfl rfl) ?_
   refine xp (.bool (decide ((s0.size : Int) ≤ 20))) rfl (p_pickT rfl rfl hb6 rfl) ?_
   refine xs (.bool (decide ((s0.size : Int) ≤ 20))) rfl rfl ?_
   refine xe ?_
   exact r_ret (fn := Try.f134) Try.func134 (res_1 rfl ⟨by decide, rfl⟩) H
  ·clear H; intro hb6 H
   refine xo_skip rfl (wn 23 rfl rfl rfl hb6) ?_
   refine xo_skip rfl (wn 23 rfl rfl rfl hb6) ?_
   refine xo_skip rfl (wn 23 rfl rfl rfl hb6) ?_
   refine xp (.bool false) rfl (p_pickF rfl rfl hb6 rfl) ?_
   refine xs (.bool false) rfl rfl ?_
   refine xe ?_
   exact r_ret (fn := Try.f134) Try.func134 (res_1 rfl ⟨by decide, rfl⟩) H

/-! 150 sporran/model.named -/
def f150_k1 (R : Value → World → Prop) (ag1 : (ByteArray × Int × Int) → World → Prop) (s0 : ByteArray) (t5 : Int) (t6 : Int) (t18 : Bool) (w : World) : Prop :=
 IfB t18 (
  R (.bool false) w) (
  ag1 (s0, t5, (IntKind.i64.wrap (t6 + 1))) w)
def f150_b0 (R : Value → World → Prop) (ag1 : (ByteArray × Int × Int) → World → Prop) (s0 : ByteArray) (t5 : Int) (t6 : Int) (w : World) : Prop :=
 IfB (decide (t6 < t5)) (
  IxA s0.size t6 (
  IfB (decide (((s0.data.toList.getD (t6).toNat 0).toNat : Int) ≤ 32)) (
   f150_k1 R ag1 s0 t5 t6 true w) (
   IxA s0.size t6 (
   f150_k1 R ag1 s0 t5 t6 (decide (126 < ((s0.data.toList.getD (t6).toNat 0).toNat : Int))) w)))) (
  IfB (!seq s0 (ByteArray.mk #[])) (
   R (.bool (decide ((s0.size : Int) ≤ 20))) w) (
   R (.bool false) w))
def f150 (R : Value → World → Prop) (s0 : ByteArray) (w : World) : Prop :=
 Lp (fun ag (s : ByteArray × Int × Int) w => f150_b0 R ag s.1 s.2.1 s.2.2 w) (s0, (s0.size : Int), 0) w
theorem f150_ok (R : Value → World → Prop) (s0 : ByteArray) (w : World) (H : f150 R s0 w) : CallF Try.prog 150 #[(.string s0)] w R := by
 refine calls_of_runs (fn := Try.f150) Try.func150 rfl (Nat.le_of_ble_eq_true rfl) ?_
 show Runs _ _ 27 _ _ _ _
 unfold f150 at H
 refine ru 0 (.string s0) rfl ?_
 refine sr ?_
 refine xs (.bool false) rfl rfl ?_
 refine xe ?_
 refine r_seq ?_
 refine sr ?_
 refine xm (.string s0) rfl rfl ?_
 refine xp (I (s0.size : Int)) rfl (p_lenS rfl u9 rfl) ?_
 refine xm (I 0) rfl rfl ?_
 refine xe ?_
 refine r_block ?_
 refine ru3 0 (.string s0) 5 (I (s0.size : Int)) 6 (I 0) rfl rfl rfl ?_
 refine r_loopJ (fun (s : ByteArray × Int × Int) σ => upd 6 (I s.2.2) (upd 5 (I s.2.1) (upd 0 (.string s.1) (σ)))) (s := (s0, (s0.size : Int), 0)) H ?_
 clear H
 rintro ag1 ⟨s0, t5, t6⟩ σ w H hag1
 replace H : f150_b0 R ag1 s0 t5 t6 w := H
 try dsimp only
 unfold f150_b0 at H
 refine sr ?_
 refine xp _ rfl (p_lt rfl rfl rfl) ?_
 refine xe ?_
 refine r_seq ?_
 refine r_condB (b := (decide (t6 < t5))) rfl H ?_ ?_
 ·clear H; intro hb2 H
  refine r_skip ?_
  refine sb ?_
  refine sr ?_
  refine xm (I t6) rfl rfl ?_
  refine xs (I t6) rfl rfl ?_
  refine xe ?_
  refine r_seq ?_
  refine r_topJ (fun (s : ByteArray × Int × Int × Bool) σ => upd 18 (.bool s.2.2.2) (upd 6 (I s.2.2.1) (upd 5 (I s.2.1) (upd 0 (.string s.1) (σ))))) (fun (s : ByteArray × Int × Int × Bool) w => f150_k1 R ag1 s.1 s.2.1 s.2.2.1 s.2.2.2 w) ?_ ?_
  ·rintro ⟨s0, t5, t6, t18⟩ σ w H
   replace H : f150_k1 R ag1 s0 t5 t6 t18 w := H
   try dsimp only
   unfold f150_k1 at H
   refine r_condB (b := t18) rfl H ?_ ?_
   ·clear H; intro hb4 H
    refine sr ?_
    refine xs (.bool false) rfl rfl ?_
    refine xe ?_
    exact r_ret (fn := Try.f150) Try.func150 (res_1 rfl ⟨by decide, rfl⟩) H
   ·clear H; intro hb4 H
    refine r_skip ?_
    refine r_inBlock ?_
    refine r_region ?_
    refine xp _ rfl (p_add rfl rfl rfl) ?_
    refine xm (I (W (t6 + 1))) rfl rfl ?_
    refine xe ?_
    refine ru3 0 (.string s0) 5 (I t5) 6 (I (W (t6 + 1))) rfl rfl rfl ?_
    exact hag1 (s0, t5, (W (t6 + 1))) _ _ H
  ·intro J3
   refine r_region ?_
   refine xm (.string s0) rfl rfl ?_
   refine xm (I t6) rfl rfl ?_
   obtain ⟨hlq_1, huq_1, H⟩ := H
   refine xp (.int .u8 ((s0.data.toList.getD (t6).toNat 0).toNat : Int)) rfl (p_indexS rfl u9 rfl rfl hlq_1 huq_1) ?_
   refine xp _ rfl (p_le rfl rfl rfl) ?_
   refine xm (.bool (decide (((s0.data.toList.getD (t6).toNat 0).toNat : Int) ≤ 32))) rfl rfl ?_
   refine ifB_cases H ?_ ?_
   ·clear H; intro hb5 H
    refine xo_skip rfl (wn 13 rfl rfl rfl hb5) ?_
    refine xo_skip rfl (wn 13 rfl rfl rfl hb5) ?_
    refine xo_skip rfl (wn 13 rfl rfl rfl hb5) ?_
    refine xo_skip rfl (wn 13 rfl rfl rfl hb5) ?_
    refine xp (.bool true) rfl (p_pickT rfl rfl hb5 rfl) ?_
    refine xe ?_
    refine ru4 0 (.string s0) 5 (I t5) 6 (I t6) 18 (.bool true) rfl rfl rfl rfl ?_
    exact J3 (s0, t5, t6, true) _ _ H
   ·clear H; intro hb5 H
    refine yp (.string s0) rfl (wy 13 rfl rfl rfl hb5) (p_move rfl rfl) ?_
    refine yp (I t6) rfl (wy 13 rfl rfl rfl hb5) (p_move rfl rfl) ?_
    obtain ⟨hlq_2, huq_2, H⟩ := H
    refine yp (.int .u8 ((s0.data.toList.getD (t6).toNat 0).toNat : Int)) rfl (wy 13 rfl rfl rfl hb5) (p_indexS rfl u9 rfl rfl hlq_2 huq_2) ?_
    refine yp (.bool (decide (126 < ((s0.data.toList.getD (t6).toNat 0).toNat : Int)))) rfl (wy 13 rfl rfl rfl hb5) (p_gt rfl rfl rfl) ?_
    refine xp (.bool (decide (126 < ((s0.data.toList.getD (t6).toNat 0).toNat : Int)))) rfl (p_pickF rfl rfl hb5 rfl) ?_
    refine xe ?_
    refine ru4 0 (.string s0) 5 (I t5) 6 (I t6) 18 (.bool (decide (126 < ((s0.data.toList.getD (t6).toNat 0).toNat : Int)))) rfl rfl rfl rfl ?_
    exact J3 (s0, t5, t6, (decide (126 < ((s0.data.toList.getD (t6).toNat 0).toNat : Int)))) _ _ H
 ·clear H; intro hb2 H
  refine r_exit rfl ?_
  refine sr ?_
  refine xm (.string s0) rfl rfl ?_
  refine xp (.bool (!seq s0 (ByteArray.mk #[]))) rfl (p_sne rfl rfl rfl) ?_
  refine xm (.bool (!seq s0 (ByteArray.mk #[]))) rfl rfl ?_
  refine ifB_cases H ?_ ?_
  ·clear H; intro hb6 H
   refine yp (.string s0) rfl (wy 22 rfl rfl rfl hb6) (p_move rfl rfl) ?_
   refine yp (I (s0.size : Int)) rfl (wy 22 rfl rfl rfl hb6) (p_lenS rfl u9 rfl) ?_
   refine yp (.bool (decide ((s0.size : Int) ≤ 20))) rfl (wy 22 rfl rfl rfl hb6) (p_le rfl rfl rfl) ?_
   refine xp (.bool (decide ((s0.size : Int) ≤ 20))) rfl (p_pickT rfl rfl hb6 rfl) ?_
   refine xs (.bool (decide ((s0.size : Int) ≤ 20))) rfl rfl ?_
   refine xe ?_
   exact r_ret (fn := Try.f150) Try.func150 (res_1 rfl ⟨by decide, rfl⟩) H
  ·clear H; intro hb6 H
   refine xo_skip rfl (wn 22 rfl rfl rfl hb6) ?_
   refine xo_skip rfl (wn 22 rfl rfl rfl hb6) ?_
   refine xo_skip rfl (wn 22 rfl rfl rfl hb6) ?_
   refine xp (.bool false) rfl (p_pickF rfl rfl hb6 rfl) ?_
   refine xs (.bool false) rfl rfl ?_
   refine xe ?_
   exact r_ret (fn := Try.f150) Try.func150 (res_1 rfl ⟨by decide, rfl⟩) H

/-! 151 (*sporran/model.Model).find -/
def f151_k1 (R : Value → World → Prop) (v6 : Option Addr) (t30 : Bool) (w : World) : Prop :=
 IfB t30 (
  R (.tuple #[(.pointer none), (.int .i64 10)]) w) (
  R (.tuple #[(.pointer v6), (.int .i64 0)]) w)
def f151_k0 (R : Value → World → Prop) (o3 : Option Addr) (v6 : Option Addr) (t21 : Bool) (w : World) : Prop :=
 IfB t21 (
  R (.tuple #[(.pointer none), (.int .i64 2)]) w) (
  NotNil v6 fun p_8 =>
  Ld Value.bool (some (p_8.add 1)) w fun v_9 =>
  IfB v_9 (
   NotNil o3 fun p_10 =>
   Ld (Value.int .i64) (some (p_10.add 0)) w fun v_11 =>
   f151_k1 R v6 (!decide (v_11 = 5)) w) (
   f151_k1 R v6 false w))
def f151 (R : Value → World → Prop) (m0 : Option Addr) (o1 : Array Value) (w : World) : Prop :=
 New o1 67 w fun a_1 w_1 =>
 NotNil m0 fun p_2 =>
 Ld Value.map (some (p_2.add 0)) (World.drew w_1) fun v_3 =>
 Ld Value.string (some (a_1.add 1)) (World.drew w_1) fun v_4 =>
 Ef Try.prog (Instr.lookup 163 (.map v_3) (.string v_4) true) id (World.drew w_1) fun u_7 w_3 => AsT2 Value.pointer Value.bool u_7 fun v_5 v_6 =>
 IfB (!v_6) (
  R (.tuple #[(.pointer none), (.int .i64 5)]) w_3) (
  Ld (Value.int .i64) (some (a_1.add 3)) w_3 fun v_12 =>
  IfB (decide (v_12 < 0)) (
   f151_k0 R (some a_1) v_5 true w_3) (
   Ld (Value.int .i64) (some (a_1.add 3)) w_3 fun v_13 =>
   f151_k0 R (some a_1) v_5 (decide (1048576 ≤ v_13)) w_3))
theorem f151_ok (R : Value → World → Prop) (m0 : Option Addr) (o1 : Array Value) (w : World) (H : f151 R m0 o1 w) : CallF Try.prog 151 #[(.pointer m0), (.agg o1)] w R := by
 refine calls_of_runs (fn := Try.f151) Try.func151 rfl (Nat.le_of_ble_eq_true rfl) ?_
 show Runs _ _ 41 _ _ _ _
 unfold f151 at H
 refine ru2 0 (.pointer m0) 1 (.agg o1) rfl rfl ?_
 refine sr ?_
 refine xo_eff rfl (wo rfl) (e_box (v := (.agg o1)) rfl rfl H) ?_
 rintro _ w_1 ⟨a_1, rfl, H⟩
 refine xs (.pointer none) rfl rfl ?_
 refine xs (I 0) rfl rfl ?_
 refine xe ?_
 refine r_seq ?_
 refine r_draw #[[], [0], [0, 1], [0, 1, 2], [], [4], [0, 1, 2, 3, 4, 5], [0, 1, 2, 3, 4, 5, 6], [0, 1, 2, 3, 4, 5, 6, 7], [0, 1, 2, 3, 4, 5, 6, 7], [0, 1, 2, 3, 4, 5, 6, 7, 8], [0, 1, 2, 3, 4, 5, 6, 7, 8, 9, 10]] 12 rfl rfl ?_
 refine am 0 (.pointer m0) rfl rfl rfl ?_
 obtain ⟨p_2, hpp_2, H⟩ := H
 refine ap 1 (.pointer (some p_2)) rfl rfl (p_nilCheck rfl rfl hpp_2) ?_
 refine ap 2 _ rfl rfl (p_fieldAddr (off := 0) (ft := 163) (size := 1) rfl u165 rfl Try.ti163 (by decide) rfl rfl) ?_
 obtain ⟨adv_3, v_3, hev_3, hcv_3, H⟩ := H
 refine ar 3 (.map v_3) rfl rfl (wo rfl) rfl u163 rfl rfl hev_3 hcv_3 ?_
 refine ap 4 _ rfl rfl (p_fieldAddr (off := 1) (ft := 9) (size := 1) rfl u67 rfl Try.ti9 (by decide) rfl rfl) ?_
 obtain ⟨adv_4, v_4, hev_4, hcv_4, H⟩ := H
 refine ar 5 (.string v_4) rfl rfl (wo rfl) rfl u9 rfl rfl hev_4 hcv_4 ?_
 refine ae 6 [] rfl rfl rfl (wo rfl) (e_genV (s := Instr.lookup 163 (.map v_3) (.string v_4) true) rfl H) ?_
 rintro _ w_3 ⟨v_5, v_6, rfl, H⟩
 refine ⟨AllHeld.nil, ?_⟩
 refine am 7 (.tuple #[(.pointer v_5), (.bool v_6)]) rfl rfl rfl ?_
 refine ap 8 (.pointer v_5) rfl rfl (p_extract (vs := #[(.pointer v_5), (.bool v_6)]) rfl rfl rfl) ?_
 refine ap 9 (.bool v_6) rfl rfl (p_extract (vs := #[(.pointer v_5), (.bool v_6)]) rfl rfl rfl) ?_
 refine as_ 10 (.pointer v_5) rfl rfl rfl ?_
 refine as_ 11 (.bool v_6) rfl rfl rfl ?_
 refine ax ?_
 refine sb ?_
 refine sr ?_
 refine xm (.bool v_6) rfl rfl ?_
 refine xp (.bool (!v_6)) rfl (p_not rfl rfl) ?_
 refine xs (.bool (!v_6)) rfl rfl ?_
 refine xe ?_
 refine r_condB (b := (!v_6)) rfl H ?_ ?_
 ·clear H; intro hb1 H
  refine sr ?_
  refine xs (.pointer none) rfl rfl ?_
  refine xs (I 5) rfl rfl ?_
  refine xe ?_
  exact r_ret (fn := Try.f151) Try.func151 (res_2 rfl ⟨by decide, rfl⟩ ⟨by decide, rfl⟩) H
 ·clear H; intro hb1 H
  refine r_seq ?_
  refine r_topJ (fun (s : Option Addr × Option Addr × Bool) σ => upd 21 (.bool s.2.2) (upd 6 (.pointer s.2.1) (upd 3 (.pointer s.1) (σ)))) (fun (s : Option Addr × Option Addr × Bool) w => f151_k0 R s.1 s.2.1 s.2.2 w) ?_ ?_
  ·rintro ⟨o3, v6, t21⟩ σ w H
   replace H : f151_k0 R o3 v6 t21 w := H
   try dsimp only
   unfold f151_k0 at H
   refine r_condB (b := t21) rfl H ?_ ?_
   ·clear H; intro hb3 H
    refine sr ?_
    refine xs (.pointer none) rfl rfl ?_
    refine xs (I 2) rfl rfl ?_
    refine xe ?_
    exact r_ret (fn := Try.f151) Try.func151 (res_2 rfl ⟨by decide, rfl⟩ ⟨by decide, rfl⟩) H
   ·clear H; intro hb3 H
    refine r_seq ?_
    refine r_topJ (fun (s : Option Addr × Bool) σ => upd 30 (.bool s.2) (upd 6 (.pointer s.1) (σ))) (fun (s : Option Addr × Bool) w => f151_k1 R s.1 s.2 w) ?_ ?_
    ·rintro ⟨v6, t30⟩ σ w H
     replace H : f151_k1 R v6 t30 w := H
     try dsimp only
     unfold f151_k1 at H
     refine r_condB (b := t30) rfl H ?_ ?_
     ·clear H; intro hb5 H
      refine sr ?_
      refine xs (.pointer none) rfl rfl ?_
      refine xs (I 10) rfl rfl ?_
      refine xe ?_
      exact r_ret (fn := Try.f151) Try.func151 (res_2 rfl ⟨by decide, rfl⟩ ⟨by decide, rfl⟩) H
     ·clear H; intro hb5 H
      refine r_skip ?_
      refine r_inBlock ?_
      refine sr ?_
      refine xm (.pointer v6) rfl rfl ?_
      refine xs (.pointer v6) rfl rfl ?_
      refine xs (I 0) rfl rfl ?_
      refine xe ?_
      exact r_ret (fn := Try.f151) Try.func151 (res_2 rfl ⟨by decide, rfl⟩ ⟨by decide, rfl⟩) H
    ·intro J4
     refine r_region ?_
     refine xm (.pointer v6) rfl rfl ?_
     obtain ⟨p_8, hpp_8, H⟩ := H
     refine xp (.pointer (some p_8)) rfl (p_nilCheck rfl rfl hpp_8) ?_
     refine xp _ rfl (p_fieldAddr (off := 1) (ft := 4) (size := 1) rfl u170 rfl Try.ti4 (by decide) rfl rfl) ?_
     obtain ⟨adv_9, v_9, hev_9, hcv_9, H⟩ := H
     refine xr (.bool v_9) rfl (wo rfl) rfl u4 rfl rfl hev_9 hcv_9 ?_
     refine xm (.bool v_9) rfl rfl ?_
     refine ifB_cases H ?_ ?_
     ·clear H; intro hb6 H
      obtain ⟨p_10, hpp_10, H⟩ := H
      refine yp (.pointer (some (p_10.add 0))) rfl (wy 35 rfl rfl rfl hb6) (p_fieldAddr (off := 0) (ft := 3) (size := 1) rfl u67 rfl Try.ti3 (by decide) rfl hpp_10) ?_
      obtain ⟨adv_11, v_11, hev_11, hcv_11, H⟩ := H
      refine xr (I v_11) rfl (wy 35 rfl rfl rfl hb6) rfl u3 rfl rfl hev_11 hcv_11 ?_
      refine yp (.bool (!decide (v_11 = 5))) rfl (wy 35 rfl rfl rfl hb6) (p_ne rfl rfl rfl) ?_
      refine xp (.bool (!decide (v_11 = 5))) rfl (p_pickT rfl rfl hb6 rfl) ?_
      refine xs (.bool (!decide (v_11 = 5))) rfl rfl ?_
      refine xe ?_
      refine ru2 6 (.pointer v6) 30 (.bool (!decide (v_11 = 5))) rfl rfl ?_
      exact J4 (v6, (!decide (v_11 = 5))) _ _ H
     ·clear H; intro hb6 H
      refine xo_skip rfl (wn 35 rfl rfl rfl hb6) ?_
      refine xo_skip rfl (wn 35 rfl rfl rfl hb6) ?_
      refine xo_skip rfl (wn 35 rfl rfl rfl hb6) ?_
      refine xp (.bool false) rfl (p_pickF rfl rfl hb6 rfl) ?_
      refine xs (.bool false) rfl rfl ?_
      refine xe ?_
      refine ru2 6 (.pointer v6) 30 (.bool false) rfl rfl ?_
      exact J4 (v6, false) _ _ H
  ·intro J2
   refine r_region ?_
   refine xp _ rfl (p_fieldAddr (off := 3) (ft := 3) (size := 1) rfl u67 rfl Try.ti3 (by decide) rfl rfl) ?_
   obtain ⟨adv_12, v_12, hev_12, hcv_12, H⟩ := H
   refine xr (I v_12) rfl (wo rfl) rfl u3 rfl rfl hev_12 hcv_12 ?_
   refine xp _ rfl (p_lt rfl rfl rfl) ?_
   refine xm (.bool (decide (v_12 < 0))) rfl rfl ?_
   refine ifB_cases H ?_ ?_
   ·clear H; intro hb7 H
    refine xo_skip rfl (wn 25 rfl rfl rfl hb7) ?_
    refine xo_skip rfl (wn 25 rfl rfl rfl hb7) ?_
    refine xo_skip rfl (wn 25 rfl rfl rfl hb7) ?_
    refine xp (.bool true) rfl (p_pickT rfl rfl hb7 rfl) ?_
    refine xs (.bool true) rfl rfl ?_
    refine xe ?_
    refine ru3 3 (.pointer (some a_1)) 6 (.pointer v_5) 21 (.bool true) rfl rfl rfl ?_
    exact J2 ((some a_1), v_5, true) _ _ H
   ·clear H; intro hb7 H
    refine yp (.pointer (some (a_1.add 3))) rfl (wy 25 rfl rfl rfl hb7) (p_fieldAddr (off := 3) (ft := 3) (size := 1) rfl u67 rfl Try.ti3 (by decide) rfl rfl) ?_
    obtain ⟨adv_13, v_13, hev_13, hcv_13, H⟩ := H
    refine xr (I v_13) rfl (wy 25 rfl rfl rfl hb7) rfl u3 rfl rfl hev_13 hcv_13 ?_
    refine yp (.bool (decide (1048576 ≤ v_13))) rfl (wy 25 rfl rfl rfl hb7) (p_ge rfl rfl rfl) ?_
    refine xp (.bool (decide (1048576 ≤ v_13))) rfl (p_pickF rfl rfl hb7 rfl) ?_
    refine xs (.bool (decide (1048576 ≤ v_13))) rfl rfl ?_
    refine xe ?_
    refine ru3 3 (.pointer (some a_1)) 6 (.pointer v_5) 21 (.bool (decide (1048576 ≤ v_13))) rfl rfl rfl ?_
    exact J2 ((some a_1), v_5, (decide (1048576 ≤ v_13))) _ _ H

/-! 152 maps.Clone[map[int]sporran/api.Block,int,sporran/api.Block] -/
def f152 (R : Value → World → Prop) (m0 : Option Nat) (w : World) : Prop :=
 IfB (m0.isNone) (
  R (.map none) w) (
  Ef Try.prog (Instr.makeInterface 168 (.map m0)) id w fun v_1 w_1 =>
  Ef Try.prog (XE_clone #[v_1]) id w_1 fun v_3 w_3 =>
  Ef Try.prog (Instr.typeAssert v_3 20 168 false) Value.map w_3 fun v_4 w_4 =>
  R (.map v_4) w_4)
theorem f152_ok (R : Value → World → Prop) (m0 : Option Nat) (w : World) (H : f152 R m0 w) : CallF Try.prog 152 #[(.map m0)] w R := by
 refine calls_of_runs (fn := Try.f152) Try.func152 rfl (Nat.le_of_ble_eq_true rfl) ?_
 show Runs _ _ 9 _ _ _ _
 unfold f152 at H
 refine ru 0 (.map m0) rfl ?_
 refine sr ?_
 refine xs (.map none) rfl rfl ?_
 refine xe ?_
 refine r_seq ?_
 refine sr ?_
 refine xm (.map m0) rfl rfl ?_
 refine xp (.bool (m0.isNone)) rfl (p_mapNil rfl u168 rfl rfl) ?_
 refine xe ?_
 refine r_condB (b := (m0.isNone)) rfl H ?_ ?_
 ·clear H; intro hb1 H
  refine sr ?_
  refine xs (.map none) rfl rfl ?_
  refine xe ?_
  exact r_ret (fn := Try.f152) Try.func152 (res_1 rfl ⟨by decide, rfl⟩) H
 ·clear H; intro hb1 H
  refine r_skip ?_
  refine sr ?_
  refine xm (.map m0) rfl rfl ?_
  refine xo_eff rfl (wo rfl) (e_genV (s := Instr.makeInterface 168 (.map m0)) rfl H) ?_
  intro v_1 w_1 H
  refine xo_eff rfl (wo rfl) (e_extV (fn := Try.f162) (e := XE_clone) H rfl rfl Try.func162 rfl rfl rfl rfl rfl) ?_
  intro v_3 w_3 H
  refine xo_eff rfl (wo rfl) (e_gen (s := Instr.typeAssert v_3 20 168 false) (enc := Value.map) rfl H) ?_
  rintro _ w_4 ⟨v_4, rfl, H⟩
  refine xs (.map v_4) rfl rfl ?_
  refine xe ?_
  exact r_ret (fn := Try.f152) Try.func152 (res_1 rfl ⟨by decide, rfl⟩) H

/-! 153 slices.Collect[string] -/
def f153 (R : Value → World → Prop) (seq0 : Value) (w : World) : Prop :=
 CallF Try.prog 192 #[(Sl.v Sl.nil), seq0] w fun u_1 w_1 => As Sl.v u_1 fun v_2 =>
 R (Sl.v v_2) w_1
theorem f153_ok (R : Value → World → Prop) (seq0 : Value) (w : World) (H : f153 R seq0 w) : CallF Try.prog 153 #[seq0] w R := by
 refine calls_of_runs (fn := Try.f153) Try.func153 rfl (Nat.le_of_ble_eq_true rfl) ?_
 show Runs _ _ 5 _ _ _ _
 unfold f153 at H
 refine ru 0 seq0 rfl ?_
 refine sr ?_
 refine xs (Sl.v Sl.nil) rfl rfl ?_
 refine xe ?_
 refine sr ?_
 refine xm seq0 rfl rfl ?_
 refine xo_eff rfl (wo rfl) (e_call (fn := Try.f192) H rfl rfl Try.func192 rfl rfl rfl) ?_
 rintro _ w_1 ⟨v_2, rfl, H⟩
 refine xs (Sl.v v_2) rfl rfl ?_
 refine xe ?_
 exact r_ret (fn := Try.f153) Try.func153 (res_1 rfl ⟨by decide, rfl⟩) H

/-! 154 slices.Sort[[]string,string] -/
def f154 (R : Value → World → Prop) (x0 : Sl) (w : World) : Prop :=
 CallF Try.prog 194 #[(.int .u64 (IntKind.u64.wrap (x0.len : Int)))] w fun u_1 w_1 => As (Value.int .i64) u_1 fun v_2 =>
 CallF Try.prog 193 #[(Sl.v x0), (.int .i64 0), (.int .i64 (x0.len : Int)), (.int .i64 v_2)] w_1 fun _ w_2 =>
 R (.tuple #[]) w_2
theorem f154_ok (R : Value → World → Prop) (x0 : Sl) (w : World) (H : f154 R x0 w) : CallF Try.prog 154 #[(Sl.v x0)] w R := by
 refine calls_of_runs (fn := Try.f154) Try.func154 rfl (Nat.le_of_ble_eq_true rfl) ?_
 show Runs _ _ 11 _ _ _ _
 unfold f154 at H
 refine ru 0 (Sl.v x0) rfl ?_
 refine sr ?_
 refine xm (Sl.v x0) rfl rfl ?_
 refine xp (I (x0.len : Int)) rfl (p_len rfl u71 rfl) ?_
 refine xs (I (x0.len : Int)) rfl rfl ?_
 refine xe ?_
 refine r_region ?_
 refine xm (Sl.v x0) rfl rfl ?_
 refine xm (I (x0.len : Int)) rfl rfl ?_
 refine xm (I (x0.len : Int)) rfl rfl ?_
 refine xp (.int .u64 (IntKind.u64.wrap (x0.len : Int))) rfl (p_conv rfl u3 u234 rfl) ?_
 refine xo_eff rfl (wo rfl) (e_call (fn := Try.f194) H rfl rfl Try.func194 rfl rfl rfl) ?_
 rintro _ w_1 ⟨v_2, rfl, H⟩
 refine xo_eff rfl (wo rfl) (e_call (fn := Try.f193) H rfl rfl Try.func193 rfl rfl rfl) ?_
 intro _ w_2 H
 refine xe ?_
 exact r_end (fn := Try.f154) Try.func154 (res_0 rfl ) H

/-! 155 maps.Keys[map[string]*sporran/model.volume,string,*sporran/model.volume]$1 -/
def f155_b0 (R : Value → World → Prop) (ag1 : (Value × Value) → World → Prop) (yield0 : Value) (t5 : Value) (w : World) : Prop :=
 Ef Try.prog (Instr.next t5 false 0) id w fun u_5 w_2 => AsNext u_5 fun vs_3 b_4 =>
 IfB b_4 (
  Ef Try.prog (Instr.entry t5) id w_2 fun u_8 w_3 => AsT2 Value.string Value.pointer u_8 fun v_6 v_7 =>
  CallV Try.prog yield0 #[(.string v_6)] w_3 fun u_9 w_4 => As Value.bool u_9 fun v_10 =>
  IfB (!v_10) (
   R (.tuple #[]) w_4) (
   ag1 (yield0, t5) w_4)) (
  R (.tuple #[]) w_2)
def f155 (R : Value → World → Prop) (yield0 : Value) (x1 : Option Addr) (w : World) : Prop :=
 Ld Value.map x1 w fun v_1 =>
 Ef Try.prog (Instr.range 163 (.map v_1)) id w fun v_2 w_1 =>
 Lp (fun ag (s : Value × Value) w => f155_b0 R ag s.1 s.2 w) (yield0, v_2) w_1
theorem f155_ok (R : Value → World → Prop) (yield0 : Value) (x1 : Option Addr) (w : World) (H : f155 R yield0 x1 w) : CallF Try.prog 155 #[yield0, (.pointer x1)] w R := by
 refine calls_of_runs (fn := Try.f155) Try.func155 rfl (Nat.le_of_ble_eq_true rfl) ?_
 show Runs _ _ 14 _ _ _ _
 unfold f155 at H
 refine ru2 0 yield0 1 (.pointer x1) rfl rfl ?_
 refine sr ?_
 obtain ⟨adv_1, v_1, hev_1, hcv_1, H⟩ := H
 refine xr (.map v_1) rfl (wo rfl) rfl u163 rfl rfl hev_1 hcv_1 ?_
 refine xo_eff rfl (wo rfl) (e_genV (s := Instr.range 163 (.map v_1)) rfl H) ?_
 intro v_2 w_1 H
 refine xe ?_
 refine r_block ?_
 refine ru2 0 yield0 5 v_2 rfl rfl ?_
 refine r_loopJ (fun (s : Value × Value) σ => upd 5 s.2 (upd 0 s.1 (σ))) (s := (yield0, v_2)) H ?_
 clear H
 rintro ag1 ⟨yield0, t5⟩ σ w H hag1
 replace H : f155_b0 R ag1 yield0 t5 w := H
 try dsimp only
 unfold f155_b0 at H
 refine sr ?_
 refine xo_eff rfl (wo rfl) (e_genV (s := Instr.next t5 false 0) rfl H) ?_
 rintro _ w_2 ⟨vs_3, b_4, rfl, hxb_4, H⟩
 refine xp (.bool b_4) rfl (p_extract (vs := vs_3) rfl rfl hxb_4) ?_
 refine xe ?_
 refine r_seq ?_
 refine r_condB (b := b_4) rfl H ?_ ?_
 ·clear H; intro hb2 H
  refine r_skip ?_
  refine r_block ?_
  refine sr ?_
  refine xo_eff rfl (wo rfl) (e_genV (s := Instr.entry t5) rfl H) ?_
  rintro _ w_3 ⟨v_6, v_7, rfl, H⟩
  refine xp (.string v_6) rfl (p_extract (vs := #[(.string v_6), (.pointer v_7)]) rfl rfl rfl) ?_
  refine xs (.string v_6) rfl rfl ?_
  refine xe ?_
  refine sr ?_
  refine xm yield0 rfl rfl ?_
  refine xm (.string v_6) rfl rfl ?_
  refine xo_eff rfl (wo rfl) (e_callv H rfl rfl rfl) ?_
  rintro _ w_4 ⟨v_10, rfl, H⟩
  refine xp (.bool (!v_10)) rfl (p_not rfl rfl) ?_
  refine xe ?_
  refine r_condB (b := (!v_10)) rfl H ?_ ?_
  ·clear H; intro hb3 H
   exact r_ret (fn := Try.f155) Try.func155 (res_0 rfl ) H
  ·clear H; intro hb3 H
   refine r_skip ?_
   refine r_inBlock ?_
   refine ru2 0 yield0 5 t5 rfl rfl ?_
   exact hag1 (yield0, t5) _ _ H
 ·clear H; intro hb2 H
  refine r_exit rfl ?_
  exact r_end (fn := Try.f155) Try.func155 (res_0 rfl ) H

/-! 157 slices.Collect[int] -/
def f157 (R : Value → World → Prop) (seq0 : Value) (w : World) : Prop :=
 CallF Try.prog 195 #[(Sl.v Sl.nil), seq0] w fun u_1 w_1 => As Sl.v u_1 fun v_2 =>
 R (Sl.v v_2) w_1
theorem f157_ok (R : Value → World → Prop) (seq0 : Value) (w : World) (H : f157 R seq0 w) : CallF Try.prog 157 #[seq0] w R := by
 refine calls_of_runs (fn := Try.f157) Try.func157 rfl (Nat.le_of_ble_eq_true rfl) ?_
 show Runs _ _ 5 _ _ _ _
 unfold f157 at H
 refine ru 0 seq0 rfl ?_
 refine sr ?_
 refine xs (Sl.v Sl.nil) rfl rfl ?_
 refine xe ?_
 refine sr ?_
 refine xm seq0 rfl rfl ?_
 refine xo_eff rfl (wo rfl) (e_call (fn := Try.f195) H rfl rfl Try.func195 rfl rfl rfl) ?_
 rintro _ w_1 ⟨v_2, rfl, H⟩
 refine xs (Sl.v v_2) rfl rfl ?_
 refine xe ?_
 exact r_ret (fn := Try.f157) Try.func157 (res_1 rfl ⟨by decide, rfl⟩) H

/-! 158 slices.Sort[[]int,int] -/
def f158 (R : Value → World → Prop) (x0 : Sl) (w : World) : Prop :=
 CallF Try.prog 194 #[(.int .u64 (IntKind.u64.wrap (x0.len : Int)))] w fun u_1 w_1 => As (Value.int .i64) u_1 fun v_2 =>
 CallF Try.prog 196 #[(Sl.v x0), (.int .i64 0), (.int .i64 (x0.len : Int)), (.int .i64 v_2)] w_1 fun _ w_2 =>
 R (.tuple #[]) w_2
theorem f158_ok (R : Value → World → Prop) (x0 : Sl) (w : World) (H : f158 R x0 w) : CallF Try.prog 158 #[(Sl.v x0)] w R := by
 refine calls_of_runs (fn := Try.f158) Try.func158 rfl (Nat.le_of_ble_eq_true rfl) ?_
 show Runs _ _ 11 _ _ _ _
 unfold f158 at H
 refine ru 0 (Sl.v x0) rfl ?_
 refine sr ?_
 refine xm (Sl.v x0) rfl rfl ?_
 refine xp (I (x0.len : Int)) rfl (p_len rfl u184 rfl) ?_
 refine xs (I (x0.len : Int)) rfl rfl ?_
 refine xe ?_
 refine r_region ?_
 refine xm (Sl.v x0) rfl rfl ?_
 refine xm (I (x0.len : Int)) rfl rfl ?_
 refine xm (I (x0.len : Int)) rfl rfl ?_
 refine xp (.int .u64 (IntKind.u64.wrap (x0.len : Int))) rfl (p_conv rfl u3 u234 rfl) ?_
 refine xo_eff rfl (wo rfl) (e_call (fn := Try.f194) H rfl rfl Try.func194 rfl rfl rfl) ?_
 rintro _ w_1 ⟨v_2, rfl, H⟩
 refine xo_eff rfl (wo rfl) (e_call (fn := Try.f196) H rfl rfl Try.func196 rfl rfl rfl) ?_
 intro _ w_2 H
 refine xe ?_
 exact r_end (fn := Try.f158) Try.func158 (res_0 rfl ) H

/-! 166 maps.Keys[map[int]sporran/api.Block,int,sporran/api.Block]$1 -/
def f166_b0 (R : Value → World → Prop) (ag1 : (Value × Value) → World → Prop) (yield0 : Value) (t5 : Value) (w : World) : Prop :=
 Ef Try.prog (Instr.next t5 false 0) id w fun u_5 w_2 => AsNext u_5 fun vs_3 b_4 =>
 IfB b_4 (
  Ef Try.prog (Instr.entry t5) id w_2 fun u_8 w_3 => AsT2 (Value.int .i64) Value.agg u_8 fun v_6 v_7 =>
  CallV Try.prog yield0 #[(.int .i64 v_6)] w_3 fun u_9 w_4 => As Value.bool u_9 fun v_10 =>
  IfB (!v_10) (
   R (.tuple #[]) w_4) (
   ag1 (yield0, t5) w_4)) (
  R (.tuple #[]) w_2)
def f166 (R : Value → World → Prop) (yield0 : Value) (x1 : Option Addr) (w : World) : Prop :=
 Ld Value.map x1 w fun v_1 =>
 Ef Try.prog (Instr.range 168 (.map v_1)) id w fun v_2 w_1 =>
 Lp (fun ag (s : Value × Value) w => f166_b0 R ag s.1 s.2 w) (yield0, v_2) w_1
theorem f166_ok (R : Value → World → Prop) (yield0 : Value) (x1 : Option Addr) (w : World) (H : f166 R yield0 x1 w) : CallF Try.prog 166 #[yield0, (.pointer x1)] w R := by
 refine calls_of_runs (fn := Try.f166) Try.func166 rfl (Nat.le_of_ble_eq_true rfl) ?_
 show Runs _ _ 14 _ _ _ _
 unfold f166 at H
 refine ru2 0 yield0 1 (.pointer x1) rfl rfl ?_
 refine sr ?_
 obtain ⟨adv_1, v_1, hev_1, hcv_1, H⟩ := H
 refine xr (.map v_1) rfl (wo rfl) rfl u168 rfl rfl hev_1 hcv_1 ?_
 refine xo_eff rfl (wo rfl) (e_genV (s := Instr.range 168 (.map v_1)) rfl H) ?_
 intro v_2 w_1 H
 refine xe ?_
 refine r_block ?_
 refine ru2 0 yield0 5 v_2 rfl rfl ?_
 refine r_loopJ (fun (s : Value × Value) σ => upd 5 s.2 (upd 0 s.1 (σ))) (s := (yield0, v_2)) H ?_
 clear H
 rintro ag1 ⟨yield0, t5⟩ σ w H hag1
 replace H : f166_b0 R ag1 yield0 t5 w := H
 try dsimp only
 unfold f166_b0 at H
 refine sr ?_
 refine xo_eff rfl (wo rfl) (e_genV (s := Instr.next t5 false 0) rfl H) ?_
 rintro _ w_2 ⟨vs_3, b_4, rfl, hxb_4, H⟩
 refine xp (.bool b_4) rfl (p_extract (vs := vs_3) rfl rfl hxb_4) ?_
 refine xe ?_
 refine r_seq ?_
 refine r_condB (b := b_4) rfl H ?_ ?_
 ·clear H; intro hb2 H
  refine r_skip ?_
  refine r_block ?_
  refine sr ?_
  refine xo_eff rfl (wo rfl) (e_genV (s := Instr.entry t5) rfl H) ?_
  rintro _ w_3 ⟨v_6, v_7, rfl, H⟩
  refine xp (I v_6) rfl (p_extract (vs := #[(I v_6), (.agg v_7)]) rfl rfl rfl) ?_
  refine xs (I v_6) rfl rfl ?_
  refine xe ?_
  refine sr ?_
  refine xm yield0 rfl rfl ?_
  refine xm (I v_6) rfl rfl ?_
  refine xo_eff rfl (wo rfl) (e_callv H rfl rfl rfl) ?_
  rintro _ w_4 ⟨v_10, rfl, H⟩
  refine xp (.bool (!v_10)) rfl (p_not rfl rfl) ?_
  refine xe ?_
  refine r_condB (b := (!v_10)) rfl H ?_ ?_
  ·clear H; intro hb3 H
   exact r_ret (fn := Try.f166) Try.func166 (res_0 rfl ) H
  ·clear H; intro hb3 H
   refine r_skip ?_
   refine r_inBlock ?_
   refine ru2 0 yield0 5 t5 rfl rfl ?_
   exact hag1 (yield0, t5) _ _ H
 ·clear H; intro hb2 H
  refine r_exit rfl ?_
  exact r_end (fn := Try.f166) Try.func166 (res_0 rfl ) H

/-! 192 slices.AppendSeq[[]string,string] -/
def slices_AppendSeq_string_string_r0 (R : Value → World → Prop)  (l : Nat) (lr : Loop) (s2 : Option Addr) (y7 : ByteArray) (w : World) : Prop :=
 BegR l lr w fun w_2 =>
 Ld Sl.v s2 w_2 fun v_2 =>
 New #[(.string y7)] 9 w_2 fun a_3 w_3 =>
 Ef Try.prog (Builtin.append_ #[71, 71] 71 #[(Sl.v v_2), (Sl.v ⟨some a_3, 1, 1⟩)]) Sl.v w_3 fun v_4 w_4 =>
 St s2 (Sl.v v_4) w_4 fun w_5 =>
 EndR l lr none w_5 R
def f192 (R : Value → World → Prop) (s0 : Sl) (seq1 : Value) (w : World) : Prop :=
 New #[(Sl.v s0)] 71 w fun a_1 w_1 =>
 RF Try.prog seq1 (fun l lr args w K => ∃ (y7 : ByteArray), args = #[(.string y7)] ∧ slices_AppendSeq_string_string_r0 K  l lr (some a_1) y7 w) w_1 fun r_5 c_6 w_6 =>
  (c_6 = none ∧ (
   Ld Sl.v (some a_1) w_6 fun v_7 =>
   Und r_5 w_6 fun w_7 =>
   R (Sl.v v_7) w_7))
theorem f192_ok (R : Value → World → Prop) (s0 : Sl) (seq1 : Value) (w : World) (H : f192 R s0 seq1 w) : CallF Try.prog 192 #[(Sl.v s0), seq1] w R := by
 refine calls_of_runs (fn := Try.f192) Try.func192 rfl (Nat.le_of_ble_eq_true rfl) ?_
 show Runs _ _ 13 _ _ _ _
 unfold f192 at H
 refine ru2 0 (Sl.v s0) 1 seq1 rfl rfl ?_
 refine sr ?_
 refine xo_eff rfl (wo rfl) (e_box (v := (Sl.v s0)) rfl rfl H) ?_
 rintro _ w_1 ⟨a_1, rfl, H⟩
 refine xs (Sl.v Sl.nil) rfl rfl ?_
 refine xe ?_
 refine r_seq ?_
 refine sr ?_
 refine xm seq1 rfl rfl ?_
 refine xe ?_
 refine r_block ?_
 refine r_rangeJ (fun (s : Option Addr × ByteArray) σ => upd 7 (.string s.2) (upd 2 (.pointer s.1) (σ))) (fun K l lr (s : Option Addr × ByteArray) w => slices_AppendSeq_string_string_r0 K  l lr s.1 s.2 w) ?_ ?_
 ·rintro R l lr ⟨s2, y7⟩ σ w H
  replace H : slices_AppendSeq_string_string_r0 R  l lr s2 y7 w := H
  try dsimp only
  unfold slices_AppendSeq_string_string_r0 at H
  refine r_region ?_
  refine xs (.string y7) rfl rfl ?_
  refine xe ?_
  obtain ⟨hbeg, H⟩ := H
  refine r_beg (l := l) rfl hbeg ?_
  generalize hww_2 : World.putObj _ _ _ = w_2 at H ⊢
  clear hww_2 hbeg
  refine r_block ?_
  refine r_region ?_
  obtain ⟨adv_2, v_2, hev_2, hcv_2, H⟩ := H
  refine xr (Sl.v v_2) rfl (wo rfl) rfl u71 rfl rfl hev_2 hcv_2 ?_
  refine xm (.string y7) rfl rfl ?_
  refine xo_eff rfl (wo rfl) (e_buildRow H rfl u71 Try.ti9 (by decide) (by decide) rfl rfl (by simp [Value.oneCell', Sl.v])) ?_
  rintro _ w_3 ⟨a_3, rfl, H⟩
  refine xo_eff rfl (wo rfl) (e_app H rfl rfl rfl) ?_
  rintro _ w_4 ⟨v_4, rfl, H⟩
  refine xo_effN rfl (wo rfl) (e_store rfl Try.ti71 rfl rfl rfl H) ?_
  intro _ w_5 H
  refine xe ?_
  refine r_inBlock ?_
  exact r_rEnd (l := l) (lr := lr) rfl H
 ·intro J1
  refine r_range rfl rfl H ?_ ?_
  ·clear H; rintro l lr args w K ⟨y7, rfl, H⟩
   refine ⟨[(.string y7)], rfl, rfl, ?_⟩
   refine ru2 2 (.pointer (some a_1)) 7 (.string y7) rfl rfl ?_
   exact J1 _ _ _ ((some a_1), y7) _ _ H
  ·clear H; rintro r_5 c_6 w_6 H
   obtain ⟨rfl, H⟩ := H
   refine rj_none ?_
   refine r_inBlock ?_
   refine sr ?_
   obtain ⟨adv_7, v_7, hev_7, hcv_7, H⟩ := H
   refine xr (Sl.v v_7) rfl (wo rfl) rfl u71 rfl rfl hev_7 hcv_7 ?_
   refine xs (Sl.v v_7) rfl rfl ?_
   refine xe ?_
   obtain ⟨hund, H⟩ := H
   generalize hwund : World.putObj _ _ _ = w_7 at H
   exact r_ret1 (fn := Try.f192) Try.func192 (res_1 rfl ⟨by decide, rfl⟩) H hund hwund.symm
end Go.Proofs
