/- Laid by program. -/
import Derived.Test.YtnjilbgcflbghaaXFT
set_option linter.all false
set_option linter.unusedVariables false
set_option linter.unusedSimpArgs false
set_option maxRecDepth 20000
set_option maxHeartbeats 4000000
namespace Go.Proofs
open Go Go.X
/-! 101 sporran/volume.may -/
def f101 (R : Value → World → Prop) (name0 : ByteArray) (quota1 : Int) (w : World) : Prop :=
 CallF Try.prog 161 #[(.string name0)] w fun u_1 w_1 => As Value.bool u_1 fun v_2 =>
 IfB v_2 (
  IfB (decide (0 ≤ quota1)) (
   R (.bool (decide (quota1 ≤ 1048576))) w_1) (
   R (.bool false) w_1)) (
  R (.bool false) w_1)
theorem f101_ok (R : Value → World → Prop) (name0 : ByteArray) (quota1 : Int) (w : World) (H : f101 R name0 quota1 w) : CallF Try.prog 101 #[(.string name0), (.int .i64 quota1)] w R := by
 refine calls_of_runs (fn := Try.f101) Try.func101 rfl (Nat.le_of_ble_eq_true rfl) ?_
 show Runs _ _ 15 _ _ _ _
 unfold f101 at H
 refine ru2 0 (.string name0) 1 (I quota1) rfl rfl ?_
 refine sr ?_
 refine xs (.bool false) rfl rfl ?_
 refine xe ?_
 refine sr ?_
 refine xm (.string name0) rfl rfl ?_
 refine xo_eff rfl (wo rfl) (e_call (fn := Try.f161) H rfl rfl Try.func161 rfl rfl rfl) ?_
 rintro _ w_1 ⟨v_2, rfl, H⟩
 refine xm (.bool v_2) rfl rfl ?_
 refine ifB_cases H ?_ ?_
 ·clear H; intro hb1 H
  refine yp (I quota1) rfl (wy 7 rfl rfl rfl hb1) (p_move rfl rfl) ?_
  refine yp (.bool (decide (0 ≤ quota1))) rfl (wy 7 rfl rfl rfl hb1) (p_ge rfl rfl rfl) ?_
  refine xp (.bool (decide (0 ≤ quota1))) rfl (p_pickT rfl rfl hb1 rfl) ?_
  refine xm (.bool (decide (0 ≤ quota1))) rfl rfl ?_
  refine ifB_cases H ?_ ?_
  ·clear H; intro hb2 H
   refine yp (I quota1) rfl (wy 11 rfl rfl rfl hb2) (p_move rfl rfl) ?_
   refine yp (.bool (decide (quota1 ≤ 1048576))) rfl (wy 11 rfl rfl rfl hb2) (p_le rfl rfl rfl) ?_
   refine xp (.bool (decide (quota1 ≤ 1048576))) rfl (p_pickT rfl rfl hb2 rfl) ?_
   refine xs (.bool (decide (quota1 ≤ 1048576))) rfl rfl ?_
   refine xe ?_
   exact r_ret (fn := Try.f101) Try.func101 (res_1 rfl ⟨by decide, rfl⟩) H
  ·clear H; intro hb2 H
   refine xo_skip rfl (wn 11 rfl rfl rfl hb2) ?_
   refine xo_skip rfl (wn 11 rfl rfl rfl hb2) ?_
   refine xp (.bool false) rfl (p_pickF rfl rfl hb2 rfl) ?_
   refine xs (.bool false) rfl rfl ?_
   refine xe ?_
   exact r_ret (fn := Try.f101) Try.func101 (res_1 rfl ⟨by decide, rfl⟩) H
 ·clear H; intro hb1 H
  refine xo_skip rfl (wn 7 rfl rfl rfl hb1) ?_
  refine xo_skip rfl (wn 7 rfl rfl rfl hb1) ?_
  refine xp (.bool false) rfl (p_pickF rfl rfl hb1 rfl) ?_
  refine xm (.bool false) rfl rfl ?_
  refine xo_skip rfl (wn 11 rfl rfl rfl rfl) ?_
  refine xo_skip rfl (wn 11 rfl rfl rfl rfl) ?_
  refine xp (.bool false) rfl (p_pickF rfl rfl rfl rfl) ?_
  refine xs (.bool false) rfl rfl ?_
  refine xe ?_
  exact r_ret (fn := Try.f101) Try.func101 (res_1 rfl ⟨by decide, rfl⟩) H

/-! 102 (*sporran/volume.Set).has -/
def f102 (R : Value → World → Prop) (s0 : Option Addr) (name1 : ByteArray) (w : World) : Prop :=
 NotNil s0 fun p_1 =>
 Ld Value.map (some (p_1.add 0)) w fun v_2 =>
 Ef Try.prog (Instr.lookup 177 (.map v_2) (.string name1) true) id w fun u_5 w_1 => AsT2 Value.agg Value.bool u_5 fun v_3 v_4 =>
 New #[(.int .i64 0), (.bool false), (.map none)] 183 w_1 fun a_6 w_2 =>
 StN 3 (some a_6) v_3 w_2 fun w_3 =>
 R (.bool v_4) w_3
theorem f102_ok (R : Value → World → Prop) (s0 : Option Addr) (name1 : ByteArray) (w : World) (H : f102 R s0 name1 w) : CallF Try.prog 102 #[(.pointer s0), (.string name1)] w R := by
 refine calls_of_runs (fn := Try.f102) Try.func102 rfl (Nat.le_of_ble_eq_true rfl) ?_
 show Runs _ _ 17 _ _ _ _
 unfold f102 at H
 refine ru2 0 (.pointer s0) 1 (.string name1) rfl rfl ?_
 refine sr ?_
 refine xs (.bool false) rfl rfl ?_
 refine xe ?_
 refine sr ?_
 refine xm (.pointer s0) rfl rfl ?_
 obtain ⟨p_1, hpp_1, H⟩ := H
 refine xp (.pointer (some p_1)) rfl (p_nilCheck rfl rfl hpp_1) ?_
 refine xp _ rfl (p_fieldAddr (off := 0) (ft := 177) (size := 1) rfl u179 rfl Try.ti177 (by decide) rfl rfl) ?_
 obtain ⟨adv_2, v_2, hev_2, hcv_2, H⟩ := H
 refine xr (.map v_2) rfl (wo rfl) rfl u177 rfl rfl hev_2 hcv_2 ?_
 refine xm (.string name1) rfl rfl ?_
 refine xo_eff rfl (wo rfl) (e_genV (s := Instr.lookup 177 (.map v_2) (.string name1) true) rfl H) ?_
 rintro _ w_1 ⟨v_3, v_4, rfl, H⟩
 refine xm (.tuple #[(.agg v_3), (.bool v_4)]) rfl rfl ?_
 refine xp (.agg v_3) rfl (p_extract (vs := #[(.agg v_3), (.bool v_4)]) rfl rfl rfl) ?_
 refine xp (.bool v_4) rfl (p_extract (vs := #[(.agg v_3), (.bool v_4)]) rfl rfl rfl) ?_
 refine xo_eff rfl (wo rfl) (e_alloc rfl Try.ti183 H) ?_
 rintro _ w_2 ⟨a_6, rfl, H⟩
 refine xo_effN rfl (wo rfl) (e_storeN rfl Try.ti183 rfl rfl H) ?_
 intro _ w_3 H
 refine xs (.bool v_4) rfl rfl ?_
 refine xe ?_
 refine sr ?_
 refine xm (.bool v_4) rfl rfl ?_
 refine xs (.bool v_4) rfl rfl ?_
 refine xe ?_
 exact r_ret (fn := Try.f102) Try.func102 (res_1 rfl ⟨by decide, rfl⟩) H

/-! 103 maps.Clone[map[int]sporran/api.Digest,int,sporran/api.Digest] -/
def f103 (R : Value → World → Prop) (m0 : Option Nat) (w : World) : Prop :=
 IfB (m0.isNone) (
  R (.map none) w) (
  Ef Try.prog (Instr.makeInterface 181 (.map m0)) id w fun v_1 w_1 =>
  Ef Try.prog (XE_clone #[v_1]) id w_1 fun v_3 w_3 =>
  Ef Try.prog (Instr.typeAssert v_3 20 181 false) Value.map w_3 fun v_4 w_4 =>
  R (.map v_4) w_4)
theorem f103_ok (R : Value → World → Prop) (m0 : Option Nat) (w : World) (H : f103 R m0 w) : CallF Try.prog 103 #[(.map m0)] w R := by
 refine calls_of_runs (fn := Try.f103) Try.func103 rfl (Nat.le_of_ble_eq_true rfl) ?_
 show Runs _ _ 9 _ _ _ _
 unfold f103 at H
 refine ru 0 (.map m0) rfl ?_
 refine sr ?_
 refine xs (.map none) rfl rfl ?_
 refine xe ?_
 refine r_seq ?_
 refine sr ?_
 refine xm (.map m0) rfl rfl ?_
 refine xp (.bool (m0.isNone)) rfl (p_mapNil rfl u181 rfl rfl) ?_
 refine xe ?_
 refine r_condB (b := (m0.isNone)) rfl H ?_ ?_
 ·clear H; intro hb1 H
  refine sr ?_
  refine xs (.map none) rfl rfl ?_
  refine xe ?_
  exact r_ret (fn := Try.f103) Try.func103 (res_1 rfl ⟨by decide, rfl⟩) H
 ·clear H; intro hb1 H
  refine r_skip ?_
  refine sr ?_
  refine xm (.map m0) rfl rfl ?_
  refine xo_eff rfl (wo rfl) (e_genV (s := Instr.makeInterface 181 (.map m0)) rfl H) ?_
  intro v_1 w_1 H
  refine xo_eff rfl (wo rfl) (e_extV (fn := Try.f162) (e := XE_clone) H rfl rfl Try.func162 rfl rfl rfl rfl rfl) ?_
  intro v_3 w_3 H
  refine xo_eff rfl (wo rfl) (e_gen (s := Instr.typeAssert v_3 20 181 false) (enc := Value.map) rfl H) ?_
  rintro _ w_4 ⟨v_4, rfl, H⟩
  refine xs (.map v_4) rfl rfl ?_
  refine xe ?_
  exact r_ret (fn := Try.f103) Try.func103 (res_1 rfl ⟨by decide, rfl⟩) H

/-! 153 slices.Collect[string] -/
def f153 (R : Value → World → Prop) (seq0 : Value) (w : World) : Prop :=
 CallF Try.prog 192 #[(Sl.v Sl.nil), seq0] w fun u_1 w_1 => As Sl.v u_1 fun v_2 =>
 R (Sl.v v_2) w_1
theorem f153_ok (R : Value → World → Prop) (seq0 : Value) (w : World) (H : f153 R seq0 w) : CallF Try.prog 153 #[seq0] w R := by
 refine calls_of_runs (fn := Try.f153) Try.func153 rfl (Nat.le_of_ble_eq_true rfl) ?_
 show Runs _ _ 5 _ _ _ _
 unfold f153 at H
 refine ru 0 seq0 rfl ?_
 refine sr ?_
 refine xs (Sl.v Sl.nil) rfl rfl ?_
 refine xe ?_
 refine sr ?_
 refine xm seq0 rfl rfl ?_
 refine xo_eff rfl (wo rfl) (e_call (fn := Try.f192) H rfl rfl Try.func192 rfl rfl rfl) ?_
 rintro _ w_1 ⟨v_2, rfl, H⟩
 refine xs (Sl.v v_2) rfl rfl ?_
 refine xe ?_
 exact r_ret (fn := Try.f153) Try.func153 (res_1 rfl ⟨by decide, rfl⟩) H

/-! 154 slices.Sort[[]string,string] -/
def f154 (R : Value → World → Prop) (x0 : Sl) (w : World) : Prop :=
 CallF Try.prog 194 #[(.int .u64 (IntKind.u64.wrap (x0.len : Int)))] w fun u_1 w_1 => As (Value.int .i64) u_1 fun v_2 =>
 CallF Try.prog 193 #[(Sl.v x0), (.int .i64 0), (.int .i64 (x0.len : Int)), (.int .i64 v_2)] w_1 fun _ w_2 =>
 R (.tuple #[]) w_2
theorem f154_ok (R : Value → World → Prop) (x0 : Sl) (w : World) (H : f154 R x0 w) : CallF Try.prog 154 #[(Sl.v x0)] w R := by
 refine calls_of_runs (fn := Try.f154) Try.func154 rfl (Nat.le_of_ble_eq_true rfl) ?_
 show Runs _ _ 11 _ _ _ _
 unfold f154 at H
 refine ru 0 (Sl.v x0) rfl ?_
 refine sr ?_
 refine xm (Sl.v x0) rfl rfl ?_
 refine xp (I (x0.len : Int)) rfl (p_len rfl u71 rfl) ?_
 refine xs (I (x0.len : Int)) rfl rfl ?_
 refine xe ?_
 refine r_region ?_
 refine xm (Sl.v x0) rfl rfl ?_
 refine xm (I (x0.len : Int)) rfl rfl ?_
 refine xm (I (x0.len : Int)) rfl rfl ?_
 refine xp (.int .u64 (IntKind.u64.wrap (x0.len : Int))) rfl (p_conv rfl u3 u234 rfl) ?_
 refine xo_eff rfl (wo rfl) (e_call (fn := Try.f194) H rfl rfl Try.func194 rfl rfl rfl) ?_
 rintro _ w_1 ⟨v_2, rfl, H⟩
 refine xo_eff rfl (wo rfl) (e_call (fn := Try.f193) H rfl rfl Try.func193 rfl rfl rfl) ?_
 intro _ w_2 H
 refine xe ?_
 exact r_end (fn := Try.f154) Try.func154 (res_0 rfl ) H

/-! 156 maps.Keys[map[string]sporran/volume.volume,string,sporran/volume.volume]$1 -/
def f156_b0 (R : Value → World → Prop) (ag1 : (Value × Value) → World → Prop) (yield0 : Value) (t5 : Value) (w : World) : Prop :=
 Ef Try.prog (Instr.next t5 false 0) id w fun u_5 w_2 => AsNext u_5 fun vs_3 b_4 =>
 IfB b_4 (
  Ef Try.prog (Instr.entry t5) id w_2 fun u_8 w_3 => AsT2 Value.string Value.agg u_8 fun v_6 v_7 =>
  CallV Try.prog yield0 #[(.string v_6)] w_3 fun u_9 w_4 => As Value.bool u_9 fun v_10 =>
  IfB (!v_10) (
   R (.tuple #[]) w_4) (
   ag1 (yield0, t5) w_4)) (
  R (.tuple #[]) w_2)
def f156 (R : Value → World → Prop) (yield0 : Value) (x1 : Option Addr) (w : World) : Prop :=
 Ld Value.map x1 w fun v_1 =>
 Ef Try.prog (Instr.range 177 (.map v_1)) id w fun v_2 w_1 =>
 Lp (fun ag (s : Value × Value) w => f156_b0 R ag s.1 s.2 w) (yield0, v_2) w_1
theorem f156_ok (R : Value → World → Prop) (yield0 : Value) (x1 : Option Addr) (w : World) (H : f156 R yield0 x1 w) : CallF Try.prog 156 #[yield0, (.pointer x1)] w R := by
 refine calls_of_runs (fn := Try.f156) Try.func156 rfl (Nat.le_of_ble_eq_true rfl) ?_
 show Runs _ _ 14 _ _ _ _
 unfold f156 at H
 refine ru2 0 yield0 1 (.pointer x1) rfl rfl ?_
 refine sr ?_
 obtain ⟨adv_1, v_1, hev_1, hcv_1, H⟩ := H
 refine xr (.map v_1) rfl (wo rfl) rfl u177 rfl rfl hev_1 hcv_1 ?_
 refine xo_eff rfl (wo rfl) (e_genV (s := Instr.range 177 (.map v_1)) rfl H) ?_
 intro v_2 w_1 H
 refine xe ?_
 refine r_block ?_
 refine ru2 0 yield0 5 v_2 rfl rfl ?_
 refine r_loopJ (fun (s : Value × Value) σ => upd 5 s.2 (upd 0 s.1 (σ))) (s := (yield0, v_2)) H ?_
 clear H
 rintro ag1 ⟨yield0, t5⟩ σ w H hag1
 replace H : f156_b0 R ag1 yield0 t5 w := H
 try dsimp only
 unfold f156_b0 at H
 refine sr ?_
 refine xo_eff rfl (wo rfl) (e_genV (s := Instr.next t5 false 0) rfl H) ?_
 rintro _ w_2 ⟨vs_3, b_4, rfl, hxb_4, H⟩
 refine xp (.bool b_4) rfl (p_extract (vs := vs_3) rfl rfl hxb_4) ?_
 refine xe ?_
 refine r_seq ?_
 refine r_condB (b := b_4) rfl H ?_ ?_
 ·clear H; intro hb2 H
  refine r_skip ?_
  refine r_block ?_
  refine sr ?_
  refine xo_eff rfl (wo rfl) (e_genV (s := Instr.entry t5) rfl H) ?_
  rintro _ w_3 ⟨v_6, v_7, rfl, H⟩
  refine xp (.string v_6) rfl (p_extract (vs := #[(.string v_6), (.agg v_7)]) rfl rfl rfl) ?_
  refine xs (.string v_6) rfl rfl ?_
  refine xe ?_
  refine sr ?_
  refine xm yield0 rfl rfl ?_
  refine xm (.string v_6) rfl rfl ?_
  refine xo_eff rfl (wo rfl) (e_callv H rfl rfl rfl) ?_
  rintro _ w_4 ⟨v_10, rfl, H⟩
  refine xp (.bool (!v_10)) rfl (p_not rfl rfl) ?_
  refine xe ?_
  refine r_condB (b := (!v_10)) rfl H ?_ ?_
  ·clear H; intro hb3 H
   exact r_ret (fn := Try.f156) Try.func156 (res_0 rfl ) H
  ·clear H; intro hb3 H
   refine r_skip ?_
   refine r_inBlock ?_
   refine ru2 0 yield0 5 t5 rfl rfl ?_
   exact hag1 (yield0, t5) _ _ H
 ·clear H; intro hb2 H
  refine r_exit rfl ?_
  exact r_end (fn := Try.f156) Try.func156 (res_0 rfl ) H

/-! 157 slices.Collect[int] -/
def f157 (R : Value → World → Prop) (seq0 : Value) (w : World) : Prop :=
 CallF Try.prog 195 #[(Sl.v Sl.nil), seq0] w fun u_1 w_1 => As Sl.v u_1 fun v_2 =>
 R (Sl.v v_2) w_1
theorem f157_ok (R : Value → World → Prop) (seq0 : Value) (w : World) (H : f157 R seq0 w) : CallF Try.prog 157 #[seq0] w R := by
 refine calls_of_runs (fn := Try.f157) Try.func157 rfl (Nat.le_of_ble_eq_true rfl) ?_
 show Runs _ _ 5 _ _ _ _
 unfold f157 at H
 refine ru 0 seq0 rfl ?_
 refine sr ?_
 refine xs (Sl.v Sl.nil) rfl rfl ?_
 refine xe ?_
 refine sr ?_
 refine xm seq0 rfl rfl ?_
 refine xo_eff rfl (wo rfl) (e_call (fn := Try.f195) H rfl rfl Try.func195 rfl rfl rfl) ?_
 rintro _ w_1 ⟨v_2, rfl, H⟩
 refine xs (Sl.v v_2) rfl rfl ?_
 refine xe ?_
 exact r_ret (fn := Try.f157) Try.func157 (res_1 rfl ⟨by decide, rfl⟩) H

/-! 158 slices.Sort[[]int,int] -/
def f158 (R : Value → World → Prop) (x0 : Sl) (w : World) : Prop :=
 CallF Try.prog 194 #[(.int .u64 (IntKind.u64.wrap (x0.len : Int)))] w fun u_1 w_1 => As (Value.int .i64) u_1 fun v_2 =>
 CallF Try.prog 196 #[(Sl.v x0), (.int .i64 0), (.int .i64 (x0.len : Int)), (.int .i64 v_2)] w_1 fun _ w_2 =>
 R (.tuple #[]) w_2
theorem f158_ok (R : Value → World → Prop) (x0 : Sl) (w : World) (H : f158 R x0 w) : CallF Try.prog 158 #[(Sl.v x0)] w R := by
 refine calls_of_runs (fn := Try.f158) Try.func158 rfl (Nat.le_of_ble_eq_true rfl) ?_
 show Runs _ _ 11 _ _ _ _
 unfold f158 at H
 refine ru 0 (Sl.v x0) rfl ?_
 refine sr ?_
 refine xm (Sl.v x0) rfl rfl ?_
 refine xp (I (x0.len : Int)) rfl (p_len rfl u184 rfl) ?_
 refine xs (I (x0.len : Int)) rfl rfl ?_
 refine xe ?_
 refine r_region ?_
 refine xm (Sl.v x0) rfl rfl ?_
 refine xm (I (x0.len : Int)) rfl rfl ?_
 refine xm (I (x0.len : Int)) rfl rfl ?_
 refine xp (.int .u64 (IntKind.u64.wrap (x0.len : Int))) rfl (p_conv rfl u3 u234 rfl) ?_
 refine xo_eff rfl (wo rfl) (e_call (fn := Try.f194) H rfl rfl Try.func194 rfl rfl rfl) ?_
 rintro _ w_1 ⟨v_2, rfl, H⟩
 refine xo_eff rfl (wo rfl) (e_call (fn := Try.f196) H rfl rfl Try.func196 rfl rfl rfl) ?_
 intro _ w_2 H
 refine xe ?_
 exact r_end (fn := Try.f158) Try.func158 (res_0 rfl ) H

/-! 159 maps.Keys[map[int]sporran/api.Digest,int,sporran/api.Digest]$1 -/
def f159_b0 (R : Value → World → Prop) (ag1 : (Value × Value) → World → Prop) (yield0 : Value) (t5 : Value) (w : World) : Prop :=
 Ef Try.prog (Instr.next t5 false 0) id w fun u_5 w_2 => AsNext u_5 fun vs_3 b_4 =>
 IfB b_4 (
  Ef Try.prog (Instr.entry t5) id w_2 fun u_8 w_3 => AsT2 (Value.int .i64) Value.agg u_8 fun v_6 v_7 =>
  CallV Try.prog yield0 #[(.int .i64 v_6)] w_3 fun u_9 w_4 => As Value.bool u_9 fun v_10 =>
  IfB (!v_10) (
   R (.tuple #[]) w_4) (
   ag1 (yield0, t5) w_4)) (
  R (.tuple #[]) w_2)
def f159 (R : Value → World → Prop) (yield0 : Value) (x1 : Option Addr) (w : World) : Prop :=
 Ld Value.map x1 w fun v_1 =>
 Ef Try.prog (Instr.range 181 (.map v_1)) id w fun v_2 w_1 =>
 Lp (fun ag (s : Value × Value) w => f159_b0 R ag s.1 s.2 w) (yield0, v_2) w_1
theorem f159_ok (R : Value → World → Prop) (yield0 : Value) (x1 : Option Addr) (w : World) (H : f159 R yield0 x1 w) : CallF Try.prog 159 #[yield0, (.pointer x1)] w R := by
 refine calls_of_runs (fn := Try.f159) Try.func159 rfl (Nat.le_of_ble_eq_true rfl) ?_
 show Runs _ _ 14 _ _ _ _
 unfold f159 at H
 refine ru2 0 yield0 1 (.pointer x1) rfl rfl ?_
 refine sr ?_
 obtain ⟨adv_1, v_1, hev_1, hcv_1, H⟩ := H
 refine xr (.map v_1) rfl (wo rfl) rfl u181 rfl rfl hev_1 hcv_1 ?_
 refine xo_eff rfl (wo rfl) (e_genV (s := Instr.range 181 (.map v_1)) rfl H) ?_
 intro v_2 w_1 H
 refine xe ?_
 refine r_block ?_
 refine ru2 0 yield0 5 v_2 rfl rfl ?_
 refine r_loopJ (fun (s : Value × Value) σ => upd 5 s.2 (upd 0 s.1 (σ))) (s := (yield0, v_2)) H ?_
 clear H
 rintro ag1 ⟨yield0, t5⟩ σ w H hag1
 replace H : f159_b0 R ag1 yield0 t5 w := H
 try dsimp only
 unfold f159_b0 at H
 refine sr ?_
 refine xo_eff rfl (wo rfl) (e_genV (s := Instr.next t5 false 0) rfl H) ?_
 rintro _ w_2 ⟨vs_3, b_4, rfl, hxb_4, H⟩
 refine xp (.bool b_4) rfl (p_extract (vs := vs_3) rfl rfl hxb_4) ?_
 refine xe ?_
 refine r_seq ?_
 refine r_condB (b := b_4) rfl H ?_ ?_
 ·clear H; intro hb2 H
  refine r_skip ?_
  refine r_block ?_
  refine sr ?_
  refine xo_eff rfl (wo rfl) (e_genV (s := Instr.entry t5) rfl H) ?_
  rintro _ w_3 ⟨v_6, v_7, rfl, H⟩
  refine xp (I v_6) rfl (p_extract (vs := #[(I v_6), (.agg v_7)]) rfl rfl rfl) ?_
  refine xs (I v_6) rfl rfl ?_
  refine xe ?_
  refine sr ?_
  refine xm yield0 rfl rfl ?_
  refine xm (I v_6) rfl rfl ?_
  refine xo_eff rfl (wo rfl) (e_callv H rfl rfl rfl) ?_
  rintro _ w_4 ⟨v_10, rfl, H⟩
  refine xp (.bool (!v_10)) rfl (p_not rfl rfl) ?_
  refine xe ?_
  refine r_condB (b := (!v_10)) rfl H ?_ ?_
  ·clear H; intro hb3 H
   exact r_ret (fn := Try.f159) Try.func159 (res_0 rfl ) H
  ·clear H; intro hb3 H
   refine r_skip ?_
   refine r_inBlock ?_
   refine ru2 0 yield0 5 t5 rfl rfl ?_
   exact hag1 (yield0, t5) _ _ H
 ·clear H; intro hb2 H
  refine r_exit rfl ?_
  exact r_end (fn := Try.f159) Try.func159 (res_0 rfl ) H

/-! 160 (*sporran/volume.Set).Get -/
def f160_k0 (R : Value → World → Prop) (s0 : Option Addr) (name1 : ByteArray) (number2 : Int) (t6 : Option Addr) (t17 : Bool) (w : World) : Prop :=
 IfB t17 (
  BuiltA 1 Try.z24 [] fun c_6 =>
  StN 32 t6 c_6 w fun w_4 =>
  LdN 32 t6 w_4 fun r_7 =>
  R (.tuple #[(.agg r_7), (.bool false), (.int .i64 2)]) w_4) (
  NotNil s0 fun p_8 =>
  Ld Value.map (some (p_8.add 0)) w fun v_9 =>
  Ef Try.prog (Instr.lookup 177 (.map v_9) (.string name1) false) Value.agg w fun v_10 w_5 =>
  At Value.map v_10 2 fun f_11 =>
  Ef Try.prog (Instr.lookup 181 (.map f_11) (.int .i64 number2) true) id w_5 fun u_14 w_6 => AsT2 Value.agg Value.bool u_14 fun v_12 v_13 =>
  New Try.z24 24 w_6 fun a_15 w_7 =>
  StN 32 (some a_15) v_12 w_7 fun w_8 =>
  LdN 32 (some a_15) w_8 fun v_16 =>
  StN 32 t6 v_16 w_8 fun w_9 =>
  LdN 32 t6 w_9 fun r_17 =>
  R (.tuple #[(.agg r_17), (.bool v_13), (.int .i64 0)]) w_9)
def f160 (R : Value → World → Prop) (s0 : Option Addr) (name1 : ByteArray) (number2 : Int) (w : World) : Prop :=
 New Try.z24 24 w fun a_1 w_1 =>
 CallF Try.prog 102 #[(.pointer s0), (.string name1)] w_1 fun u_2 w_2 => As Value.bool u_2 fun v_3 =>
 IfB (!v_3) (
  BuiltA 1 Try.z24 [] fun c_4 =>
  StN 32 (some a_1) c_4 w_2 fun w_3 =>
  LdN 32 (some a_1) w_3 fun r_5 =>
  R (.tuple #[(.agg r_5), (.bool false), (.int .i64 5)]) w_3) (
  IfB (decide (number2 < 0)) (
   f160_k0 R s0 name1 number2 (some a_1) true w_2) (
   f160_k0 R s0 name1 number2 (some a_1) (decide (1048576 ≤ number2)) w_2))
theorem f160_ok (R : Value → World → Prop) (s0 : Option Addr) (name1 : ByteArray) (number2 : Int) (w : World) (H : f160 R s0 name1 number2 w) : CallF Try.prog 160 #[(.pointer s0), (.string name1), (.int .i64 number2)] w R := by
 refine calls_of_runs (fn := Try.f160) Try.func160 rfl (Nat.le_of_ble_eq_true rfl) ?_
 show Runs _ _ 39 _ _ _ _
 unfold f160 at H
 refine ru3 0 (.pointer s0) 1 (.string name1) 2 (I number2) rfl rfl rfl ?_
 refine sr ?_
 refine xo_eff rfl (wo rfl) (e_alloc rfl Try.ti24 H) ?_
 rintro _ w_1 ⟨a_1, rfl, H⟩
 refine xs (.bool false) rfl rfl ?_
 refine xs (I 0) rfl rfl ?_
 refine xe ?_
 refine sb ?_
 refine sr ?_
 refine xm (.pointer s0) rfl rfl ?_
 refine xm (.string name1) rfl rfl ?_
 refine xo_eff rfl (wo rfl) (e_call (fn := Try.f102) H rfl rfl Try.func102 rfl rfl rfl) ?_
 rintro _ w_2 ⟨v_3, rfl, H⟩
 refine xp (.bool (!v_3)) rfl (p_not rfl rfl) ?_
 refine xs (.bool (!v_3)) rfl rfl ?_
 refine xe ?_
 refine r_condB (b := (!v_3)) rfl H ?_ ?_
 ·clear H; intro hb1 H
  refine sr ?_
  obtain ⟨c_4, hflc_4, H⟩ := H
  refine xp (.agg c_4) rfl (p_buildA (size := 1) rfl u24 Try.ti24 Try.ti5 hflc_4 rfl) ?_
  refine xo_effN rfl (wo rfl) (e_storeN rfl Try.ti24 rfl rfl H) ?_
  intro _ w_3 H
  refine xs (.bool false) rfl rfl ?_
  refine xs (I 5) rfl rfl ?_
  refine xe ?_
  obtain ⟨adr_5, r_5, her_5, hnr_5, hrr_5, H⟩ := H
  exact r_ret (fn := Try.f160) Try.func160 (res_3 rfl (resV_cellN (by decide) (by show Value.pointer _ = _; rw [her_5]) u24 rfl Try.ti24 hnr_5 hrr_5) ⟨by decide, rfl⟩ ⟨by decide, rfl⟩) H
 ·clear H; intro hb1 H
  refine r_seq ?_
  refine r_topJ (fun (s : Option Addr × ByteArray × Int × Option Addr × Bool) σ => upd 17 (.bool s.2.2.2.2) (upd 6 (.pointer s.2.2.2.1) (upd 2 (I s.2.2.1) (upd 1 (.string s.2.1) (upd 0 (.pointer s.1) (σ)))))) (fun (s : Option Addr × ByteArray × Int × Option Addr × Bool) w => f160_k0 R s.1 s.2.1 s.2.2.1 s.2.2.2.1 s.2.2.2.2 w) ?_ ?_
  ·rintro ⟨s0, name1, number2, t6, t17⟩ σ w H
   replace H : f160_k0 R s0 name1 number2 t6 t17 w := H
   try dsimp only
   unfold f160_k0 at H
   refine r_condB (b := t17) rfl H ?_ ?_
   ·clear H; intro hb3 H
    refine sr ?_
    obtain ⟨c_6, hflc_6, H⟩ := H
    refine xp (.agg c_6) rfl (p_buildA (size := 1) rfl u24 Try.ti24 Try.ti5 hflc_6 rfl) ?_
    refine xo_effN rfl (wo rfl) (e_storeN rfl Try.ti24 rfl rfl H) ?_
    intro _ w_4 H
    refine xs (.bool false) rfl rfl ?_
    refine xs (I 2) rfl rfl ?_
    refine xe ?_
    obtain ⟨adr_7, r_7, her_7, hnr_7, hrr_7, H⟩ := H
    exact r_ret (fn := Try.f160) Try.func160 (res_3 rfl (resV_cellN (by decide) (by show Value.pointer _ = _; rw [her_7]) u24 rfl Try.ti24 hnr_7 hrr_7) ⟨by decide, rfl⟩ ⟨by decide, rfl⟩) H
   ·clear H; intro hb3 H
    refine r_skip ?_
    refine r_inBlock ?_
    refine sr ?_
    refine xm (.pointer s0) rfl rfl ?_
    obtain ⟨p_8, hpp_8, H⟩ := H
    refine xp (.pointer (some p_8)) rfl (p_nilCheck rfl rfl hpp_8) ?_
    refine xp _ rfl (p_fieldAddr (off := 0) (ft := 177) (size := 1) rfl u179 rfl Try.ti177 (by decide) rfl rfl) ?_
    obtain ⟨adv_9, v_9, hev_9, hcv_9, H⟩ := H
    refine xr (.map v_9) rfl (wo rfl) rfl u177 rfl rfl hev_9 hcv_9 ?_
    refine xm (.string name1) rfl rfl ?_
    refine xo_eff rfl (wo rfl) (e_gen (s := Instr.lookup 177 (.map v_9) (.string name1) false) (enc := Value.agg) rfl H) ?_
    rintro _ w_5 ⟨v_10, rfl, H⟩
    obtain ⟨f_11, hff_11, H⟩ := H
    refine xp (.map f_11) rfl (p_field1 (off := 2) (ft := 181) rfl u183 rfl u181 rfl rfl hff_11) ?_
    refine xm (I number2) rfl rfl ?_
    refine xo_eff rfl (wo rfl) (e_genV (s := Instr.lookup 181 (.map f_11) (I number2) true) rfl H) ?_
    rintro _ w_6 ⟨v_12, v_13, rfl, H⟩
    refine xm (.tuple #[(.agg v_12), (.bool v_13)]) rfl rfl ?_
    refine xp (.agg v_12) rfl (p_extract (vs := #[(.agg v_12), (.bool v_13)]) rfl rfl rfl) ?_
    refine xp (.bool v_13) rfl (p_extract (vs := #[(.agg v_12), (.bool v_13)]) rfl rfl rfl) ?_
    refine xo_eff rfl (wo rfl) (e_alloc rfl Try.ti24 H) ?_
    rintro _ w_7 ⟨a_15, rfl, H⟩
    refine xo_effN rfl (wo rfl) (e_storeN rfl Try.ti24 rfl rfl H) ?_
    intro _ w_8 H
    refine xs (.bool v_13) rfl rfl ?_
    refine xe ?_
    refine sr ?_
    obtain ⟨adv_16, v_16, hev_16, hnv_16, hcv_16, H⟩ := H
    refine xo_read (v := (.agg v_16)) rfl (wo rfl) (rd_loadN (ad := adv_16) rfl u24 rfl Try.ti24 (by show Value.pointer _ = _; rw [hev_16]) hnv_16 hcv_16) ?_
    refine xm (.bool v_13) rfl rfl ?_
    refine xo_effN rfl (wo rfl) (e_storeN rfl Try.ti24 rfl rfl H) ?_
    intro _ w_9 H
    refine xs (.bool v_13) rfl rfl ?_
    refine xs (I 0) rfl rfl ?_
    refine xe ?_
    obtain ⟨adr_17, r_17, her_17, hnr_17, hrr_17, H⟩ := H
    exact r_ret (fn := Try.f160) Try.func160 (res_3 rfl (resV_cellN (by decide) (by show Value.pointer _ = _; rw [her_17]) u24 rfl Try.ti24 hnr_17 hrr_17) ⟨by decide, rfl⟩ ⟨by decide, rfl⟩) H
  ·intro J2
   refine r_region ?_
   refine xm (I number2) rfl rfl ?_
   refine xp _ rfl (p_lt rfl rfl rfl) ?_
   refine xm (.bool (decide (number2 < 0))) rfl rfl ?_
   refine ifB_cases H ?_ ?_
   ·clear H; intro hb4 H
    refine xo_skip rfl (wn 20 rfl rfl rfl hb4) ?_
    refine xo_skip rfl (wn 20 rfl rfl rfl hb4) ?_
    refine xp (.bool true) rfl (p_pickT rfl rfl hb4 rfl) ?_
    refine xs (.bool true) rfl rfl ?_
    refine xe ?_
    refine ru4 0 (.pointer s0) 1 (.string name1) 2 (I number2) 6 (.pointer (some a_1)) rfl rfl rfl rfl ?_
    refine ru 17 (.bool true) rfl ?_
    exact J2 (s0, name1, number2, (some a_1), true) _ _ H
   ·clear H; intro hb4 H
    refine yp (I number2) rfl (wy 20 rfl rfl rfl hb4) (p_move rfl rfl) ?_
    refine yp (.bool (decide (1048576 ≤ number2))) rfl (wy 20 rfl rfl rfl hb4) (p_ge rfl rfl rfl) ?_
    refine xp (.bool (decide (1048576 ≤ number2))) rfl (p_pickF rfl rfl hb4 rfl) ?_
    refine xs (.bool (decide (1048576 ≤ number2))) rfl rfl ?_
    refine xe ?_
    refine ru4 0 (.pointer s0) 1 (.string name1) 2 (I number2) 6 (.pointer (some a_1)) rfl rfl rfl rfl ?_
    refine ru 17 (.bool (decide (1048576 ≤ number2))) rfl ?_
    exact J2 (s0, name1, number2, (some a_1), (decide (1048576 ≤ number2))) _ _ H

/-! 161 sporran/volume.named -/
def f161 (R : Value → World → Prop) (s0 : ByteArray) (w : World) : Prop :=
 IfB (!seq s0 (ByteArray.mk #[])) (
  IfB (decide ((s0.size : Int) ≤ 20)) (
   CallF Try.prog 198 #[(.string s0), (.func (.func 197) #[] #[])] w fun u_1 w_1 => As Value.bool u_1 fun v_2 =>
   R (.bool (!v_2)) w_1) (
   R (.bool false) w)) (
  R (.bool false) w)
theorem f161_ok (R : Value → World → Prop) (s0 : ByteArray) (w : World) (H : f161 R s0 w) : CallF Try.prog 161 #[(.string s0)] w R := by
 refine calls_of_runs (fn := Try.f161) Try.func161 rfl (Nat.le_of_ble_eq_true rfl) ?_
 show Runs _ _ 17 _ _ _ _
 unfold f161 at H
 refine ru 0 (.string s0) rfl ?_
 refine sr ?_
 refine xs (.bool false) rfl rfl ?_
 refine xe ?_
 refine sr ?_
 refine xs (.func (.func 197) #[] #[]) rfl rfl ?_
 refine xe ?_
 refine sr ?_
 refine xm (.string s0) rfl rfl ?_
 refine xp (.bool (!seq s0 (ByteArray.mk #[]))) rfl (p_sne rfl rfl rfl) ?_
 refine xm (.bool (!seq s0 (ByteArray.mk #[]))) rfl rfl ?_
 refine ifB_cases H ?_ ?_
 ·clear H; intro hb1 H
  refine yp (.string s0) rfl (wy 6 rfl rfl rfl hb1) (p_move rfl rfl) ?_
  refine yp (I (s0.size : Int)) rfl (wy 6 rfl rfl rfl hb1) (p_lenS rfl u9 rfl) ?_
  refine yp (.bool (decide ((s0.size : Int) ≤ 20))) rfl (wy 6 rfl rfl rfl hb1) (p_le rfl rfl rfl) ?_
  refine xp (.bool (decide ((s0.size : Int) ≤ 20))) rfl (p_pickT rfl rfl hb1 rfl) ?_
  refine xm (.bool (decide ((s0.size : Int) ≤ 20))) rfl rfl ?_
  refine ifB_cases H ?_ ?_
  ·clear H; intro hb2 H
   refine yp (.string s0) rfl (wy 11 rfl rfl rfl hb2) (p_move rfl rfl) ?_
   refine yp (.func (.func 197) #[] #[]) rfl (wy 11 rfl rfl rfl hb2) (p_move rfl rfl) ?_
   refine xo_eff rfl (wy 11 rfl rfl rfl hb2) (e_call (fn := Try.f198) H rfl rfl Try.func198 rfl rfl rfl) ?_
   rintro _ w_1 ⟨v_2, rfl, H⟩
   refine yp (.bool (!v_2)) rfl (wy 11 rfl rfl rfl hb2) (p_not rfl rfl) ?_
   refine xp (.bool (!v_2)) rfl (p_pickT rfl rfl hb2 rfl) ?_
   refine xs (.bool (!v_2)) rfl rfl ?_
   refine xe ?_
   exact r_ret (fn := Try.f161) Try.func161 (res_1 rfl ⟨by decide, rfl⟩) H
  ·clear H; intro hb2 H
   refine xo_skip rfl (wn 11 rfl rfl rfl hb2) ?_
   refine xo_skip rfl (wn 11 rfl rfl rfl hb2) ?_
   refine xo_skip rfl (wn 11 rfl rfl rfl hb2) ?_
   refine xo_skip rfl (wn 11 rfl rfl rfl hb2) ?_
   refine xp (.bool false) rfl (p_pickF rfl rfl hb2 rfl) ?_
   refine xs (.bool false) rfl rfl ?_
   refine xe ?_
   exact r_ret (fn := Try.f161) Try.func161 (res_1 rfl ⟨by decide, rfl⟩) H
 ·clear H; intro hb1 H
  refine xo_skip rfl (wn 6 rfl rfl rfl hb1) ?_
  refine xo_skip rfl (wn 6 rfl rfl rfl hb1) ?_
  refine xo_skip rfl (wn 6 rfl rfl rfl hb1) ?_
  refine xp (.bool false) rfl (p_pickF rfl rfl hb1 rfl) ?_
  refine xm (.bool false) rfl rfl ?_
  refine xo_skip rfl (wn 11 rfl rfl rfl rfl) ?_
  refine xo_skip rfl (wn 11 rfl rfl rfl rfl) ?_
  refine xo_skip rfl (wn 11 rfl rfl rfl rfl) ?_
  refine xo_skip rfl (wn 11 rfl rfl rfl rfl) ?_
  refine xp (.bool false) rfl (p_pickF rfl rfl rfl rfl) ?_
  refine xs (.bool false) rfl rfl ?_
  refine xe ?_
  exact r_ret (fn := Try.f161) Try.func161 (res_1 rfl ⟨by decide, rfl⟩) H

/-! 192 slices.AppendSeq[[]string,string] -/
def slices_AppendSeq_string_string_r0 (R : Value → World → Prop)  (l : Nat) (lr : Loop) (s2 : Option Addr) (y7 : ByteArray) (w : World) : Prop :=
 BegR l lr w fun w_2 =>
 Ld Sl.v s2 w_2 fun v_2 =>
 New #[(.string y7)] 9 w_2 fun a_3 w_3 =>
 Ef Try.prog (Builtin.append_ #[71, 71] 71 #[(Sl.v v_2), (Sl.v ⟨some a_3, 1, 1⟩)]) Sl.v w_3 fun v_4 w_4 =>
 St s2 (Sl.v v_4) w_4 fun w_5 =>
 EndR l lr none w_5 R
def f192 (R : Value → World → Prop) (s0 : Sl) (seq1 : Value) (w : World) : Prop :=
 New #[(Sl.v s0)] 71 w fun a_1 w_1 =>
 RF Try.prog seq1 (fun l lr args w K => ∃ (y7 : ByteArray), args = #[(.string y7)] ∧ slices_AppendSeq_string_string_r0 K  l lr (some a_1) y7 w) w_1 fun r_5 c_6 w_6 =>
  (c_6 = none ∧ (
   Ld Sl.v (some a_1) w_6 fun v_7 =>
   Und r_5 w_6 fun w_7 =>
   R (Sl.v v_7) w_7))
theorem f192_ok (R : Value → World → Prop) (s0 : Sl) (seq1 : Value) (w : World) (H : f192 R s0 seq1 w) : CallF Try.prog 192 #[(Sl.v s0), seq1] w R := by
 refine calls_of_runs (fn := Try.f192) Try.func192 rfl (Nat.le_of_ble_eq_true rfl) ?_
 show Runs _ _ 13 _ _ _ _
 unfold f192 at H
 refine ru2 0 (Sl.v s0) 1 seq1 rfl rfl ?_
 refine sr ?_
 refine xo_eff rfl (wo rfl) (e_box (v := (Sl.v s0)) rfl rfl H) ?_
 rintro _ w_1 ⟨a_1, rfl, H⟩
 refine xs (Sl.v Sl.nil) rfl rfl ?_
 refine xe ?_
 refine r_seq ?_
 refine sr ?_
 refine xm seq1 rfl rfl ?_
 refine xe ?_
 refine r_block ?_
 refine r_rangeJ (fun (s : Option Addr × ByteArray) σ => upd 7 (.string s.2) (upd 2 (.pointer s.1) (σ))) (fun K l lr (s : Option Addr × ByteArray) w => slices_AppendSeq_string_string_r0 K  l lr s.1 s.2 w) ?_ ?_
 ·rintro R l lr ⟨s2, y7⟩ σ w H
  replace H : slices_AppendSeq_string_string_r0 R  l lr s2 y7 w := H
  try dsimp only
  unfold slices_AppendSeq_string_string_r0 at H
  refine r_region ?_
  refine xs (.string y7) rfl rfl ?_
  refine xe ?_
  obtain ⟨hbeg, H⟩ := H
  refine r_beg (l := l) rfl hbeg ?_
  generalize hww_2 : World.putObj _ _ _ = w_2 at H ⊢
  clear hww_2 hbeg
  refine r_block ?_
  refine r_region ?_
  obtain ⟨adv_2, v_2, hev_2, hcv_2, H⟩ := H
  refine xr (Sl.v v_2) rfl (wo rfl) rfl u71 rfl rfl hev_2 hcv_2 ?_
  refine xm (.string y7) rfl rfl ?_
  refine xo_eff rfl (wo rfl) (e_buildRow H rfl u71 Try.ti9 (by decide) (by decide) rfl rfl (by simp [Value.oneCell', Sl.v])) ?_
  rintro _ w_3 ⟨a_3, rfl, H⟩
  refine xo_eff rfl (wo rfl) (e_app H rfl rfl rfl) ?_
  rintro _ w_4 ⟨v_4, rfl, H⟩
  refine xo_effN rfl (wo rfl) (e_store rfl Try.ti71 rfl rfl rfl H) ?_
  intro _ w_5 H
  refine xe ?_
  refine r_inBlock ?_
  exact r_rEnd (l := l) (lr := lr) rfl H
 ·intro J1
  refine r_range rfl rfl H ?_ ?_
  ·clear H; rintro l lr args w K ⟨y7, rfl, H⟩
   refine ⟨[(.string y7)], rfl, rfl, ?_⟩
   refine ru2 2 (.pointer (some a_1)) 7 (.string y7) rfl rfl ?_
   exact J1 _ _ _ ((some a_1), y7) _ _ H
  ·clear H; rintro r_5 c_6 w_6 H
   obtain ⟨rfl, H⟩ := H
   refine rj_none ?_
   refine r_inBlock ?_
   refine sr ?_
   obtain ⟨adv_7, v_7, hev_7, hcv_7, H⟩ := H
   refine xr (Sl.v v_7) rfl (wo rfl) rfl u71 rfl rfl hev_7 hcv_7 ?_
   refine xs (Sl.v v_7) rfl rfl ?_
   refine xe ?_
   obtain ⟨hund, H⟩ := H
   generalize hwund : World.putObj _ _ _ = w_7 at H
   exact r_ret1 (fn := Try.f192) Try.func192 (res_1 rfl ⟨by decide, rfl⟩) H hund hwund.symm

/-! 193 slices.pdqsortOrdered[string] -/
def f193_k4 (R : Value → World → Prop) (ag1 : (Sl × Int × Int × Int × Bool × Bool) → World → Prop) (data0 : Sl) (a1 : Int) (b2 : Int) (limit3 : Int) (wasBalanced8 : Bool) (wasPartitioned9 : Bool) (length10 : Int) (pivot11 : Int) (t87 : Bool) (w : World) : Prop :=
 IfB t87 (
  CallF Try.prog 215 #[(Sl.v data0), (.int .i64 a1), (.int .i64 b2), (.int .i64 pivot11)] w fun u_6 w_4 => As (Value.int .i64) u_6 fun v_7 =>
  ag1 (data0, v_7, b2, limit3, wasBalanced8, wasPartitioned9) w_4) (
  CallF Try.prog 216 #[(Sl.v data0), (.int .i64 a1), (.int .i64 b2), (.int .i64 pivot11)] w fun u_8 w_5 => AsT2 (Value.int .i64) Value.bool u_8 fun v_9 v_10 =>
  IfB (decide ((IntKind.i64.wrap (v_9 - a1)) < (IntKind.i64.wrap (b2 - v_9)))) (
   CallF Try.prog 193 #[(Sl.v data0), (.int .i64 a1), (.int .i64 v_9), (.int .i64 limit3)] w_5 fun _ w_6 =>
   ag1 (data0, (IntKind.i64.wrap (v_9 + 1)), b2, limit3, (decide ((IntKind.i64.wrap (Int.tdiv length10 8)) ≤ (IntKind.i64.wrap (v_9 - a1)))), v_10) w_6) (
   CallF Try.prog 193 #[(Sl.v data0), (.int .i64 (IntKind.i64.wrap (v_9 + 1))), (.int .i64 b2), (.int .i64 limit3)] w_5 fun _ w_7 =>
   ag1 (data0, a1, v_9, limit3, (decide ((IntKind.i64.wrap (Int.tdiv length10 8)) ≤ (IntKind.i64.wrap (b2 - v_9)))), v_10) w_7))
def f193_k3 (R : Value → World → Prop) (ag1 : (Sl × Int × Int × Int × Bool × Bool) → World → Prop) (data0 : Sl) (a1 : Int) (b2 : Int) (limit3 : Int) (wasBalanced8 : Bool) (wasPartitioned9 : Bool) (length10 : Int) (pivot11 : Int) (w : World) : Prop :=
 IfB (decide (0 < a1)) (
  Ix data0 (IntKind.i64.wrap (a1 - 1)) fun p_13 =>
  Ld Value.string (some (p_13.add ((IntKind.i64.wrap (a1 - 1)).toNat * 1))) (World.drew w) fun v_14 =>
  Ix data0 pivot11 fun p_15 =>
  Ld Value.string (some (p_15.add (pivot11.toNat * 1))) (World.drew w) fun v_16 =>
  CallF Try.prog 214 #[(.string v_14), (.string v_16)] (World.drew w) fun u_17 w_9 => As Value.bool u_17 fun v_18 =>
  f193_k4 R ag1 data0 a1 b2 limit3 wasBalanced8 wasPartitioned9 length10 pivot11 (!v_18) w_9) (
  f193_k4 R ag1 data0 a1 b2 limit3 wasBalanced8 wasPartitioned9 length10 pivot11 false (World.drew w))
def f193_k5 (R : Value → World → Prop) (ag1 : (Sl × Int × Int × Int × Bool × Bool) → World → Prop) (data0 : Sl) (a1 : Int) (b2 : Int) (limit3 : Int) (wasBalanced8 : Bool) (wasPartitioned9 : Bool) (length10 : Int) (pivot11 : Int) (t68 : Bool) (w : World) : Prop :=
 IfB t68 (
  CallF Try.prog 213 #[(Sl.v data0), (.int .i64 a1), (.int .i64 b2)] w fun u_19 w_10 => As Value.bool u_19 fun v_20 =>
  IfB v_20 (
   R (.tuple #[]) w_10) (
   f193_k3 R ag1 data0 a1 b2 limit3 wasBalanced8 wasPartitioned9 length10 pivot11 w_10)) (
  f193_k3 R ag1 data0 a1 b2 limit3 wasBalanced8 wasPartitioned9 length10 pivot11 w)
def f193_k2 (R : Value → World → Prop) (ag1 : (Sl × Int × Int × Int × Bool × Bool) → World → Prop) (data0 : Sl) (a1 : Int) (b2 : Int) (limit3 : Int) (wasBalanced8 : Bool) (wasPartitioned9 : Bool) (length10 : Int) (pivot11 : Int) (hint12 : Int) (w : World) : Prop :=
 IfB wasBalanced8 (
  IfB wasPartitioned9 (
   f193_k5 R ag1 data0 a1 b2 limit3 wasBalanced8 wasPartitioned9 length10 pivot11 (decide (hint12 = 1)) w) (
   f193_k5 R ag1 data0 a1 b2 limit3 wasBalanced8 wasPartitioned9 length10 pivot11 false w)) (
  f193_k5 R ag1 data0 a1 b2 limit3 wasBalanced8 wasPartitioned9 length10 pivot11 false w)
def f193_k1 (R : Value → World → Prop) (ag1 : (Sl × Int × Int × Int × Bool × Bool) → World → Prop) (data0 : Sl) (a1 : Int) (b2 : Int) (limit3 : Int) (wasBalanced8 : Bool) (wasPartitioned9 : Bool) (length10 : Int) (w : World) : Prop :=
 CallF Try.prog 211 #[(Sl.v data0), (.int .i64 a1), (.int .i64 b2)] w fun u_3 w_3 => AsT2 (Value.int .i64) (Value.int .i64) u_3 fun v_4 v_5 =>
 IfB (decide (v_5 = 2)) (
  CallF Try.prog 212 #[(Sl.v data0), (.int .i64 a1), (.int .i64 b2)] w_3 fun _ w_11 =>
  f193_k2 R ag1 data0 a1 b2 limit3 wasBalanced8 wasPartitioned9 length10 (IntKind.i64.wrap ((IntKind.i64.wrap (b2 - 1)) - (IntKind.i64.wrap (v_4 - a1)))) 1 w_11) (
  f193_k2 R ag1 data0 a1 b2 limit3 wasBalanced8 wasPartitioned9 length10 v_4 v_5 w_3)
def f193_b0 (R : Value → World → Prop) (ag1 : (Sl × Int × Int × Int × Bool × Bool) → World → Prop) (data0 : Sl) (a1 : Int) (b2 : Int) (limit3 : Int) (wasBalanced8 : Bool) (wasPartitioned9 : Bool) (w : World) : Prop :=
 IfB (decide ((IntKind.i64.wrap (b2 - a1)) ≤ 12)) (
  CallF Try.prog 208 #[(Sl.v data0), (.int .i64 a1), (.int .i64 b2)] w fun _ w_1 =>
  R (.tuple #[]) w_1) (
  IfB (decide (limit3 = 0)) (
   CallF Try.prog 209 #[(Sl.v data0), (.int .i64 a1), (.int .i64 b2)] w fun _ w_2 =>
   R (.tuple #[]) w_2) (
   IfB (!wasBalanced8) (
    CallF Try.prog 210 #[(Sl.v data0), (.int .i64 a1), (.int .i64 b2)] w fun _ w_12 =>
    f193_k1 R ag1 data0 a1 b2 (IntKind.i64.wrap (limit3 - 1)) wasBalanced8 wasPartitioned9 (IntKind.i64.wrap (b2 - a1)) w_12) (
    f193_k1 R ag1 data0 a1 b2 limit3 wasBalanced8 wasPartitioned9 (IntKind.i64.wrap (b2 - a1)) w)))
def f193 (R : Value → World → Prop) (data0 : Sl) (a1 : Int) (b2 : Int) (limit3 : Int) (w : World) : Prop :=
 Lp (fun ag (s : Sl × Int × Int × Int × Bool × Bool) w => f193_b0 R ag s.1 s.2.1 s.2.2.1 s.2.2.2.1 s.2.2.2.2.1 s.2.2.2.2.2 w) (data0, a1, b2, limit3, true, true) w
theorem f193_ok (R : Value → World → Prop) (data0 : Sl) (a1 : Int) (b2 : Int) (limit3 : Int) (w : World) (H : f193 R data0 a1 b2 limit3 w) : CallF Try.prog 193 #[(Sl.v data0), (.int .i64 a1), (.int .i64 b2), (.int .i64 limit3)] w R := by
 refine calls_of_runs (fn := Try.f193) Try.func193 rfl (Nat.le_of_ble_eq_true rfl) ?_
 show Runs _ _ 134 _ _ _ _
 unfold f193 at H
 refine ru4 0 (Sl.v data0) 1 (I a1) 2 (I b2) 3 (I limit3) rfl rfl rfl rfl ?_
 refine sr ?_
 refine xs (.bool true) rfl rfl ?_
 refine xe ?_
 refine sr ?_
 refine xs (.bool true) rfl rfl ?_
 refine xe ?_
 refine r_block ?_
 refine ru4 0 (Sl.v data0) 1 (I a1) 2 (I b2) 3 (I limit3) rfl rfl rfl rfl ?_
 refine ru2 8 (.bool true) 9 (.bool true) rfl rfl ?_
 refine r_loopJ (fun (s : Sl × Int × Int × Int × Bool × Bool) σ => upd 9 (.bool s.2.2.2.2.2) (upd 8 (.bool s.2.2.2.2.1) (upd 3 (I s.2.2.2.1) (upd 2 (I s.2.2.1) (upd 1 (I s.2.1) (upd 0 (Sl.v s.1) (σ))))))) (s := (data0, a1, b2, limit3, true, true)) H ?_
 clear H
 rintro ag1 ⟨data0, a1, b2, limit3, wasBalanced8, wasPartitioned9⟩ σ w H hag1
 replace H : f193_b0 R ag1 data0 a1 b2 limit3 wasBalanced8 wasPartitioned9 w := H
 try dsimp only
 unfold f193_b0 at H
 refine r_block ?_
 refine sr ?_
 refine xm (I b2) rfl rfl ?_
 refine xm (I a1) rfl rfl ?_
 refine xp _ rfl (p_sub rfl rfl rfl) ?_
 refine xs (I (W (b2 - a1))) rfl rfl ?_
 refine xe ?_
 refine r_seq ?_
 refine sr ?_
 refine xm (I (W (b2 - a1))) rfl rfl ?_
 refine xp _ rfl (p_le rfl rfl rfl) ?_
 refine xe ?_
 refine r_condB (b := (decide ((W (b2 - a1)) ≤ 12))) rfl H ?_ ?_
 ·clear H; intro hb2 H
  refine sr ?_
  refine xm (Sl.v data0) rfl rfl ?_
  refine xm (I a1) rfl rfl ?_
  refine xm (I b2) rfl rfl ?_
  refine xo_eff rfl (wo rfl) (e_call (fn := Try.f208) H rfl rfl Try.func208 rfl rfl rfl) ?_
  intro _ w_1 H
  refine xe ?_
  exact r_ret (fn := Try.f193) Try.func193 (res_0 rfl ) H
 ·clear H; intro hb2 H
  refine r_skip ?_
  refine r_seq ?_
  refine sr ?_
  refine xm (I limit3) rfl rfl ?_
  refine xp _ rfl (p_eq rfl rfl rfl) ?_
  refine xe ?_
  refine r_condB (b := (decide (limit3 = 0))) rfl H ?_ ?_
  ·clear H; intro hb3 H
   refine sr ?_
   refine xm (Sl.v data0) rfl rfl ?_
   refine xm (I a1) rfl rfl ?_
   refine xm (I b2) rfl rfl ?_
   refine xo_eff rfl (wo rfl) (e_call (fn := Try.f209) H rfl rfl Try.func209 rfl rfl rfl) ?_
   intro _ w_2 H
   refine xe ?_
   exact r_ret (fn := Try.f193) Try.func193 (res_0 rfl ) H
  ·clear H; intro hb3 H
   refine r_skip ?_
   refine r_seqJ (fun (s : Sl × Int × Int × Int × Bool × Bool × Int) σ => upd 10 (I s.2.2.2.2.2.2) (upd 9 (.bool s.2.2.2.2.2.1) (upd 8 (.bool s.2.2.2.2.1) (upd 3 (I s.2.2.2.1) (upd 2 (I s.2.2.1) (upd 1 (I s.2.1) (upd 0 (Sl.v s.1) (σ)))))))) (fun (s : Sl × Int × Int × Int × Bool × Bool × Int) w => f193_k1 R ag1 s.1 s.2.1 s.2.2.1 s.2.2.2.1 s.2.2.2.2.1 s.2.2.2.2.2.1 s.2.2.2.2.2.2 w) ?_ ?_
   ·rintro ⟨data0, a1, b2, limit3, wasBalanced8, wasPartitioned9, length10⟩ σ w H
    replace H : f193_k1 R ag1 data0 a1 b2 limit3 wasBalanced8 wasPartitioned9 length10 w := H
    try dsimp only
    unfold f193_k1 at H
    refine sr ?_
    refine xm (Sl.v data0) rfl rfl ?_
    refine xm (I a1) rfl rfl ?_
    refine xm (I b2) rfl rfl ?_
    refine xo_eff rfl (wo rfl) (e_call (fn := Try.f211) H rfl rfl Try.func211 rfl rfl rfl) ?_
    rintro _ w_3 ⟨v_4, v_5, rfl, H⟩
    refine xm (.tuple #[(I v_4), (I v_5)]) rfl rfl ?_
    refine xp (I v_4) rfl (p_extract (vs := #[(I v_4), (I v_5)]) rfl rfl rfl) ?_
    refine xp (I v_5) rfl (p_extract (vs := #[(I v_4), (I v_5)]) rfl rfl rfl) ?_
    refine xs (I v_4) rfl rfl ?_
    refine xs (I v_5) rfl rfl ?_
    refine xe ?_
    refine r_seqJ (fun (s : Sl × Int × Int × Int × Bool × Bool × Int × Int × Int) σ => upd 12 (I s.2.2.2.2.2.2.2.2) (upd 11 (I s.2.2.2.2.2.2.2.1) (upd 10 (I s.2.2.2.2.2.2.1) (upd 9 (.bool s.2.2.2.2.2.1) (upd 8 (.bool s.2.2.2.2.1) (upd 3 (I s.2.2.2.1) (upd 2 (I s.2.2.1) (upd 1 (I s.2.1) (upd 0 (Sl.v s.1) (σ)))))))))) (fun (s : Sl × Int × Int × Int × Bool × Bool × Int × Int × Int) w => f193_k2 R ag1 s.1 s.2.1 s.2.2.1 s.2.2.2.1 s.2.2.2.2.1 s.2.2.2.2.2.1 s.2.2.2.2.2.2.1 s.2.2.2.2.2.2.2.1 s.2.2.2.2.2.2.2.2 w) ?_ ?_
    ·rintro ⟨data0, a1, b2, limit3, wasBalanced8, wasPartitioned9, length10, pivot11, hint12⟩ σ w H
     replace H : f193_k2 R ag1 data0 a1 b2 limit3 wasBalanced8 wasPartitioned9 length10 pivot11 hint12 w := H
     try dsimp only
     unfold f193_k2 at H
     refine r_seqJ (fun (s : Sl × Int × Int × Int × Bool × Bool × Int × Int) σ => upd 11 (I s.2.2.2.2.2.2.2) (upd 10 (I s.2.2.2.2.2.2.1) (upd 9 (.bool s.2.2.2.2.2.1) (upd 8 (.bool s.2.2.2.2.1) (upd 3 (I s.2.2.2.1) (upd 2 (I s.2.2.1) (upd 1 (I s.2.1) (upd 0 (Sl.v s.1) (σ))))))))) (fun (s : Sl × Int × Int × Int × Bool × Bool × Int × Int) w => f193_k3 R ag1 s.1 s.2.1 s.2.2.1 s.2.2.2.1 s.2.2.2.2.1 s.2.2.2.2.2.1 s.2.2.2.2.2.2.1 s.2.2.2.2.2.2.2 w) ?_ ?_
     ·rintro ⟨data0, a1, b2, limit3, wasBalanced8, wasPartitioned9, length10, pivot11⟩ σ w H
      replace H : f193_k3 R ag1 data0 a1 b2 limit3 wasBalanced8 wasPartitioned9 length10 pivot11 w := H
      try dsimp only
      unfold f193_k3 at H
      refine r_seq ?_
      refine r_seq ?_
      refine r_topJ (fun (s : Sl × Int × Int × Int × Bool × Bool × Int × Int × Bool) σ => upd 87 (.bool s.2.2.2.2.2.2.2.2) (upd 11 (I s.2.2.2.2.2.2.2.1) (upd 10 (I s.2.2.2.2.2.2.1) (upd 9 (.bool s.2.2.2.2.2.1) (upd 8 (.bool s.2.2.2.2.1) (upd 3 (I s.2.2.2.1) (upd 2 (I s.2.2.1) (upd 1 (I s.2.1) (upd 0 (Sl.v s.1) (σ)))))))))) (fun (s : Sl × Int × Int × Int × Bool × Bool × Int × Int × Bool) w => f193_k4 R ag1 s.1 s.2.1 s.2.2.1 s.2.2.2.1 s.2.2.2.2.1 s.2.2.2.2.2.1 s.2.2.2.2.2.2.1 s.2.2.2.2.2.2.2.1 s.2.2.2.2.2.2.2.2 w) ?_ ?_
      ·rintro ⟨data0, a1, b2, limit3, wasBalanced8, wasPartitioned9, length10, pivot11, t87⟩ σ w H
       replace H : f193_k4 R ag1 data0 a1 b2 limit3 wasBalanced8 wasPartitioned9 length10 pivot11 t87 w := H
       try dsimp only
       unfold f193_k4 at H
       refine r_condB (b := t87) rfl H ?_ ?_
       ·clear H; intro hb8 H
        refine sr ?_
        refine xm (Sl.v data0) rfl rfl ?_
        refine xm (I a1) rfl rfl ?_
        refine xm (I b2) rfl rfl ?_
        refine xm (I pivot11) rfl rfl ?_
        refine xo_eff rfl (wo rfl) (e_call (fn := Try.f215) H rfl rfl Try.func215 rfl rfl rfl) ?_
        rintro _ w_4 ⟨v_7, rfl, H⟩
        refine xs (I v_7) rfl rfl ?_
        refine xe ?_
        refine sr ?_
        refine xm (I v_7) rfl rfl ?_
        refine xs (I v_7) rfl rfl ?_
        refine xe ?_
        refine r_exit rfl ?_
        refine ru4 0 (Sl.v data0) 1 (I v_7) 2 (I b2) 3 (I limit3) rfl rfl rfl rfl ?_
        refine ru2 8 (.bool wasBalanced8) 9 (.bool wasPartitioned9) rfl rfl ?_
        exact hag1 (data0, v_7, b2, limit3, wasBalanced8, wasPartitioned9) _ _ H
       ·clear H; intro hb8 H
        refine r_skip ?_
        refine sr ?_
        refine xm (Sl.v data0) rfl rfl ?_
        refine xm (I a1) rfl rfl ?_
        refine xm (I b2) rfl rfl ?_
        refine xm (I pivot11) rfl rfl ?_
        refine xo_eff rfl (wo rfl) (e_call (fn := Try.f216) H rfl rfl Try.func216 rfl rfl rfl) ?_
        rintro _ w_5 ⟨v_9, v_10, rfl, H⟩
        refine xm (.tuple #[(I v_9), (.bool v_10)]) rfl rfl ?_
        refine xp (I v_9) rfl (p_extract (vs := #[(I v_9), (.bool v_10)]) rfl rfl rfl) ?_
        refine xp (.bool v_10) rfl (p_extract (vs := #[(I v_9), (.bool v_10)]) rfl rfl rfl) ?_
        refine xs (I v_9) rfl rfl ?_
        refine xs (.bool v_10) rfl rfl ?_
        refine xe ?_
        refine sr ?_
        refine xm (.bool v_10) rfl rfl ?_
        refine xs (.bool v_10) rfl rfl ?_
        refine xe ?_
        refine sr ?_
        refine xm (I v_9) rfl rfl ?_
        refine xm (I a1) rfl rfl ?_
        refine xp _ rfl (p_sub rfl rfl rfl) ?_
        refine xm (I b2) rfl rfl ?_
        refine xm (I v_9) rfl rfl ?_
        refine xp _ rfl (p_sub rfl rfl rfl) ?_
        refine xs (I (W (v_9 - a1))) rfl rfl ?_
        refine xs (I (W (b2 - v_9))) rfl rfl ?_
        refine xe ?_
        refine sr ?_
        refine xm (I length10) rfl rfl ?_
        refine xp (I (W (Int.tdiv length10 8))) rfl (p_quo rfl rfl rfl (by decide)) ?_
        refine xs (I (W (Int.tdiv length10 8))) rfl rfl ?_
        refine xe ?_
        refine sr ?_
        refine xm (I (W (v_9 - a1))) rfl rfl ?_
        refine xm (I (W (b2 - v_9))) rfl rfl ?_
        refine xp _ rfl (p_lt rfl rfl rfl) ?_
        refine xe ?_
        refine r_condB (b := (decide ((W (v_9 - a1)) < (W (b2 - v_9))))) rfl H ?_ ?_
        ·clear H; intro hb9 H
         refine sr ?_
         refine xm (I (W (v_9 - a1))) rfl rfl ?_
         refine xm (I (W (Int.tdiv length10 8))) rfl rfl ?_
         refine xp _ rfl (p_ge rfl rfl rfl) ?_
         refine xs (.bool (decide ((W (Int.tdiv length10 8)) ≤ (W (v_9 - a1))))) rfl rfl ?_
         refine xe ?_
         refine sr ?_
         refine xm (Sl.v data0) rfl rfl ?_
         refine xm (I a1) rfl rfl ?_
         refine xm (I v_9) rfl rfl ?_
         refine xm (I limit3) rfl rfl ?_
         refine xo_eff rfl (wo rfl) (e_call (fn := Try.f193) H rfl rfl Try.func193 rfl rfl rfl) ?_
         intro _ w_6 H
         refine xe ?_
         refine r_region ?_
         refine xm (I v_9) rfl rfl ?_
         refine xp _ rfl (p_add rfl rfl rfl) ?_
         refine xs (I (W (v_9 + 1))) rfl rfl ?_
         refine xe ?_
         refine r_inBlock ?_
         refine ru4 0 (Sl.v data0) 1 (I (W (v_9 + 1))) 2 (I b2) 3 (I limit3) rfl rfl rfl rfl ?_
         refine ru2 8 (.bool (decide ((W (Int.tdiv length10 8)) ≤ (W (v_9 - a1))))) 9 (.bool v_10) rfl rfl ?_
         exact hag1 (data0, (W (v_9 + 1)), b2, limit3, (decide ((W (Int.tdiv length10 8)) ≤ (W (v_9 - a1)))), v_10) _ _ H
        ·clear H; intro hb9 H
         refine sr ?_
         refine xm (I (W (b2 - v_9))) rfl rfl ?_
         refine xm (I (W (Int.tdiv length10 8))) rfl rfl ?_
         refine xp _ rfl (p_ge rfl rfl rfl) ?_
         refine xs (.bool (decide ((W (Int.tdiv length10 8)) ≤ (W (b2 - v_9))))) rfl rfl ?_
         refine xe ?_
         refine sr ?_
         refine xm (Sl.v data0) rfl rfl ?_
         refine xm (I v_9) rfl rfl ?_
         refine xp _ rfl (p_add rfl rfl rfl) ?_
         refine xm (I b2) rfl rfl ?_
         refine xm (I limit3) rfl rfl ?_
         refine xo_eff rfl (wo rfl) (e_call (fn := Try.f193) H rfl rfl Try.func193 rfl rfl rfl) ?_
         intro _ w_7 H
         refine xe ?_
         refine r_region ?_
         refine xm (I v_9) rfl rfl ?_
         refine xs (I v_9) rfl rfl ?_
         refine xe ?_
         refine r_inBlock ?_
         refine ru4 0 (Sl.v data0) 1 (I a1) 2 (I v_9) 3 (I limit3) rfl rfl rfl rfl ?_
         refine ru2 8 (.bool (decide ((W (Int.tdiv length10 8)) ≤ (W (b2 - v_9))))) 9 (.bool v_10) rfl rfl ?_
         exact hag1 (data0, a1, v_9, limit3, (decide ((W (Int.tdiv length10 8)) ≤ (W (b2 - v_9)))), v_10) _ _ H
      ·intro J7
       refine r_draw #[[], [0], [0, 1], [0, 1, 2], [0, 1, 2], [0, 1, 2, 4], [0, 1, 2, 3, 4, 5], [0, 1, 2, 3, 4, 5, 6], [0, 1, 2], [0, 1, 2], [0, 1, 2, 8, 9], [0, 1, 2, 8, 9, 10], [0, 1, 2, 3, 4, 5, 6, 7, 8, 9, 10, 11], [0, 1, 2, 3, 4, 5, 6, 7, 8, 9, 10, 11, 12], [0, 1, 2, 3, 4, 5, 6, 7, 8, 9, 10, 11, 12, 13]] 15 rfl rfl ?_
       refine am 0 (I a1) rfl rfl rfl ?_
       refine ap 1 _ rfl rfl (p_gt rfl rfl rfl) ?_
       refine am 2 (.bool (decide (0 < a1))) rfl rfl rfl ?_
       refine ifB_cases H ?_ ?_
       ·clear H; intro hb10 H
        refine ay 3 (Sl.v data0) rfl rfl (wy 75 rfl rfl rfl hb10) (p_move rfl rfl) ?_
        refine ay 4 (I a1) rfl rfl (wy 75 rfl rfl rfl hb10) (p_move rfl rfl) ?_
        refine ay 5 (I (W (a1 - 1))) rfl rfl (wy 75 rfl rfl rfl hb10) (p_sub rfl rfl rfl) ?_
        obtain ⟨p_13, hap_13, hlp_13, hup_13, H⟩ := H
        refine ay 6 (.pointer (some (p_13.add ((W (a1 - 1)).toNat * 1)))) rfl rfl (wy 75 rfl rfl rfl hb10) (p_indexAddr (s := data0) (ad := p_13) (size := 1) rfl u71 Try.ti9 rfl rfl hap_13 hlp_13 hup_13) ?_
        obtain ⟨adv_14, v_14, hev_14, hcv_14, H⟩ := H
        refine ar 7 (.string v_14) rfl rfl (wy 75 rfl rfl rfl hb10) rfl u9 rfl rfl hev_14 hcv_14 ?_
        refine ay 8 (Sl.v data0) rfl rfl (wy 75 rfl rfl rfl hb10) (p_move rfl rfl) ?_
        refine ay 9 (I pivot11) rfl rfl (wy 75 rfl rfl rfl hb10) (p_move rfl rfl) ?_
        obtain ⟨p_15, hap_15, hlp_15, hup_15, H⟩ := H
        refine ay 10 (.pointer (some (p_15.add (pivot11.toNat * 1)))) rfl rfl (wy 75 rfl rfl rfl hb10) (p_indexAddr (s := data0) (ad := p_15) (size := 1) rfl u71 Try.ti9 rfl rfl hap_15 hlp_15 hup_15) ?_
        obtain ⟨adv_16, v_16, hev_16, hcv_16, H⟩ := H
        refine ar 11 (.string v_16) rfl rfl (wy 75 rfl rfl rfl hb10) rfl u9 rfl rfl hev_16 hcv_16 ?_
        refine ae 12 [] rfl rfl rfl (wy 75 rfl rfl rfl hb10) (e_call (fn := Try.f214) H rfl rfl Try.func214 rfl rfl rfl) ?_
        rintro _ w_9 ⟨v_18, rfl, H⟩
        refine ⟨AllHeld.nil, ?_⟩
        refine ay 13 (.bool (!v_18)) rfl rfl (wy 75 rfl rfl rfl hb10) (p_not rfl rfl) ?_
        refine ap 14 (.bool (!v_18)) rfl rfl (p_pickT rfl rfl hb10 rfl) ?_
        refine ax ?_
        refine ru4 0 (Sl.v data0) 1 (I a1) 2 (I b2) 3 (I limit3) rfl rfl rfl rfl ?_
        refine ru4 8 (.bool wasBalanced8) 9 (.bool wasPartitioned9) 10 (I length10) 11 (I pivot11) rfl rfl rfl rfl ?_
        refine ru 87 (.bool (!v_18)) rfl ?_
        exact J7 (data0, a1, b2, limit3, wasBalanced8, wasPartitioned9, length10, pivot11, (!v_18)) _ _ H
       ·clear H; intro hb10 H
        refine ak 3 rfl rfl (wn 75 rfl rfl rfl hb10) ?_
        refine ak 4 rfl rfl (wn 75 rfl rfl rfl hb10) ?_
        refine ak 5 rfl rfl (wn 75 rfl rfl rfl hb10) ?_
        refine ak 6 rfl rfl (wn 75 rfl rfl rfl hb10) ?_
        refine ak 7 rfl rfl (wn 75 rfl rfl rfl hb10) ?_
        refine ak 8 rfl rfl (wn 75 rfl rfl rfl hb10) ?_
        refine ak 9 rfl rfl (wn 75 rfl rfl rfl hb10) ?_
        refine ak 10 rfl rfl (wn 75 rfl rfl rfl hb10) ?_
        refine ak 11 rfl rfl (wn 75 rfl rfl rfl hb10) ?_
        refine ak 12 rfl rfl (wn 75 rfl rfl rfl hb10) ?_
        refine ak 13 rfl rfl (wn 75 rfl rfl rfl hb10) ?_
        refine ap 14 (.bool false) rfl rfl (p_pickF rfl rfl hb10 rfl) ?_
        refine ax ?_
        refine ru4 0 (Sl.v data0) 1 (I a1) 2 (I b2) 3 (I limit3) rfl rfl rfl rfl ?_
        refine ru4 8 (.bool wasBalanced8) 9 (.bool wasPartitioned9) 10 (I length10) 11 (I pivot11) rfl rfl rfl rfl ?_
        refine ru 87 (.bool false) rfl ?_
        exact J7 (data0, a1, b2, limit3, wasBalanced8, wasPartitioned9, length10, pivot11, false) _ _ H
     ·intro J6
      refine r_seq ?_
      refine r_topJ (fun (s : Sl × Int × Int × Int × Bool × Bool × Int × Int × Bool) σ => upd 68 (.bool s.2.2.2.2.2.2.2.2) (upd 11 (I s.2.2.2.2.2.2.2.1) (upd 10 (I s.2.2.2.2.2.2.1) (upd 9 (.bool s.2.2.2.2.2.1) (upd 8 (.bool s.2.2.2.2.1) (upd 3 (I s.2.2.2.1) (upd 2 (I s.2.2.1) (upd 1 (I s.2.1) (upd 0 (Sl.v s.1) (σ)))))))))) (fun (s : Sl × Int × Int × Int × Bool × Bool × Int × Int × Bool) w => f193_k5 R ag1 s.1 s.2.1 s.2.2.1 s.2.2.2.1 s.2.2.2.2.1 s.2.2.2.2.2.1 s.2.2.2.2.2.2.1 s.2.2.2.2.2.2.2.1 s.2.2.2.2.2.2.2.2 w) ?_ ?_
      ·rintro ⟨data0, a1, b2, limit3, wasBalanced8, wasPartitioned9, length10, pivot11, t68⟩ σ w H
       replace H : f193_k5 R ag1 data0 a1 b2 limit3 wasBalanced8 wasPartitioned9 length10 pivot11 t68 w := H
       try dsimp only
       unfold f193_k5 at H
       refine r_condB (b := t68) rfl H ?_ ?_
       ·clear H; intro hb12 H
        refine sr ?_
        refine xm (Sl.v data0) rfl rfl ?_
        refine xm (I a1) rfl rfl ?_
        refine xm (I b2) rfl rfl ?_
        refine xo_eff rfl (wo rfl) (e_call (fn := Try.f213) H rfl rfl Try.func213 rfl rfl rfl) ?_
        rintro _ w_10 ⟨v_20, rfl, H⟩
        refine xe ?_
        refine r_condB (b := v_20) rfl H ?_ ?_
        ·clear H; intro hb13 H
         exact r_ret (fn := Try.f193) Try.func193 (res_0 rfl ) H
        ·clear H; intro hb13 H
         refine r_skip ?_
         refine ru4 0 (Sl.v data0) 1 (I a1) 2 (I b2) 3 (I limit3) rfl rfl rfl rfl ?_
         refine ru4 8 (.bool wasBalanced8) 9 (.bool wasPartitioned9) 10 (I length10) 11 (I pivot11) rfl rfl rfl rfl ?_
         exact J6 (data0, a1, b2, limit3, wasBalanced8, wasPartitioned9, length10, pivot11) _ _ H
       ·clear H; intro hb12 H
        refine r_skip ?_
        refine ru4 0 (Sl.v data0) 1 (I a1) 2 (I b2) 3 (I limit3) rfl rfl rfl rfl ?_
        refine ru4 8 (.bool wasBalanced8) 9 (.bool wasPartitioned9) 10 (I length10) 11 (I pivot11) rfl rfl rfl rfl ?_
        exact J6 (data0, a1, b2, limit3, wasBalanced8, wasPartitioned9, length10, pivot11) _ _ H
      ·intro J11
       refine r_region ?_
       refine xm (.bool wasBalanced8) rfl rfl ?_
       refine xm (.bool wasBalanced8) rfl rfl ?_
       refine ifB_cases H ?_ ?_
       ·clear H; intro hb14 H
        refine yp (.bool wasPartitioned9) rfl (wy 62 rfl rfl rfl hb14) (p_move rfl rfl) ?_
        refine xp (.bool wasPartitioned9) rfl (p_pickT rfl rfl hb14 rfl) ?_
        refine xm (.bool wasPartitioned9) rfl rfl ?_
        refine ifB_cases H ?_ ?_
        ·clear H; intro hb15 H
         refine yp (I hint12) rfl (wy 65 rfl rfl rfl hb15) (p_move rfl rfl) ?_
         refine yp (.bool (decide (hint12 = 1))) rfl (wy 65 rfl rfl rfl hb15) (p_eq rfl rfl rfl) ?_
         refine xp (.bool (decide (hint12 = 1))) rfl (p_pickT rfl rfl hb15 rfl) ?_
         refine xe ?_
         refine ru4 0 (Sl.v data0) 1 (I a1) 2 (I b2) 3 (I limit3) rfl rfl rfl rfl ?_
         refine ru4 8 (.bool wasBalanced8) 9 (.bool wasPartitioned9) 10 (I length10) 11 (I pivot11) rfl rfl rfl rfl ?_
         refine ru 68 (.bool (decide (hint12 = 1))) rfl ?_
         exact J11 (data0, a1, b2, limit3, wasBalanced8, wasPartitioned9, length10, pivot11, (decide (hint12 = 1))) _ _ H
        ·clear H; intro hb15 H
         refine xo_skip rfl (wn 65 rfl rfl rfl hb15) ?_
         refine xo_skip rfl (wn 65 rfl rfl rfl hb15) ?_
         refine xp (.bool false) rfl (p_pickF rfl rfl hb15 rfl) ?_
         refine xe ?_
         refine ru4 0 (Sl.v data0) 1 (I a1) 2 (I b2) 3 (I limit3) rfl rfl rfl rfl ?_
         refine ru4 8 (.bool wasBalanced8) 9 (.bool wasPartitioned9) 10 (I length10) 11 (I pivot11) rfl rfl rfl rfl ?_
         refine ru 68 (.bool false) rfl ?_
         exact J11 (data0, a1, b2, limit3, wasBalanced8, wasPartitioned9, length10, pivot11, false) _ _ H
       ·clear H; intro hb14 H
        refine xo_skip rfl (wn 62 rfl rfl rfl hb14) ?_
        refine xp (.bool false) rfl (p_pickF rfl rfl hb14 rfl) ?_
        refine xm (.bool false) rfl rfl ?_
        refine xo_skip rfl (wn 65 rfl rfl rfl rfl) ?_
        refine xo_skip rfl (wn 65 rfl rfl rfl rfl) ?_
        refine xp (.bool false) rfl (p_pickF rfl rfl rfl rfl) ?_
        refine xe ?_
        refine ru4 0 (Sl.v data0) 1 (I a1) 2 (I b2) 3 (I limit3) rfl rfl rfl rfl ?_
        refine ru4 8 (.bool wasBalanced8) 9 (.bool wasPartitioned9) 10 (I length10) 11 (I pivot11) rfl rfl rfl rfl ?_
        refine ru 68 (.bool false) rfl ?_
        exact J11 (data0, a1, b2, limit3, wasBalanced8, wasPartitioned9, length10, pivot11, false) _ _ H
    ·intro J5
     refine sr ?_
     refine xm (I v_5) rfl rfl ?_
     refine xp _ rfl (p_eq rfl rfl rfl) ?_
     refine xe ?_
     refine r_condB (b := (decide (v_5 = 2))) rfl H ?_ ?_
     ·clear H; intro hb16 H
      refine sr ?_
      refine xm (Sl.v data0) rfl rfl ?_
      refine xm (I a1) rfl rfl ?_
      refine xm (I b2) rfl rfl ?_
      refine xo_eff rfl (wo rfl) (e_call (fn := Try.f212) H rfl rfl Try.func212 rfl rfl rfl) ?_
      intro _ w_11 H
      refine xe ?_
      refine sr ?_
      refine xm (I b2) rfl rfl ?_
      refine xp _ rfl (p_sub rfl rfl rfl) ?_
      refine xm (I v_4) rfl rfl ?_
      refine xm (I a1) rfl rfl ?_
      refine xp _ rfl (p_sub rfl rfl rfl) ?_
      refine xp _ rfl (p_sub rfl rfl rfl) ?_
      refine xs (I (W ((W (b2 - 1)) - (W (v_4 - a1))))) rfl rfl ?_
      refine xe ?_
      refine r_region ?_
      refine xs (I 1) rfl rfl ?_
      refine xe ?_
      refine ru4 0 (Sl.v data0) 1 (I a1) 2 (I b2) 3 (I limit3) rfl rfl rfl rfl ?_
      refine ru4 8 (.bool wasBalanced8) 9 (.bool wasPartitioned9) 10 (I length10) 11 (I (W ((W (b2 - 1)) - (W (v_4 - a1))))) rfl rfl rfl rfl ?_
      refine ru 12 (I 1) rfl ?_
      exact J5 (data0, a1, b2, limit3, wasBalanced8, wasPartitioned9, length10, (W ((W (b2 - 1)) - (W (v_4 - a1)))), 1) _ _ H
     ·clear H; intro hb16 H
      refine r_skip ?_
      refine ru4 0 (Sl.v data0) 1 (I a1) 2 (I b2) 3 (I limit3) rfl rfl rfl rfl ?_
      refine ru4 8 (.bool wasBalanced8) 9 (.bool wasPartitioned9) 10 (I length10) 11 (I v_4) rfl rfl rfl rfl ?_
      refine ru 12 (I v_5) rfl ?_
      exact J5 (data0, a1, b2, limit3, wasBalanced8, wasPartitioned9, length10, v_4, v_5) _ _ H
   ·intro J4
    refine sr ?_
    refine xm (.bool wasBalanced8) rfl rfl ?_
    refine xp (.bool (!wasBalanced8)) rfl (p_not rfl rfl) ?_
    refine xe ?_
    refine r_condB (b := (!wasBalanced8)) rfl H ?_ ?_
    ·clear H; intro hb17 H
     refine sr ?_
     refine xm (Sl.v data0) rfl rfl ?_
     refine xm (I a1) rfl rfl ?_
     refine xm (I b2) rfl rfl ?_
     refine xo_eff rfl (wo rfl) (e_call (fn := Try.f210) H rfl rfl Try.func210 rfl rfl rfl) ?_
     intro _ w_12 H
     refine xe ?_
     refine r_region ?_
     refine xm (I limit3) rfl rfl ?_
     refine xp _ rfl (p_sub rfl rfl rfl) ?_
     refine xs (I (W (limit3 - 1))) rfl rfl ?_
     refine xe ?_
     refine ru4 0 (Sl.v data0) 1 (I a1) 2 (I b2) 3 (I (W (limit3 - 1))) rfl rfl rfl rfl ?_
     refine ru3 8 (.bool wasBalanced8) 9 (.bool wasPartitioned9) 10 (I (W (b2 - a1))) rfl rfl rfl ?_
     exact J4 (data0, a1, b2, (W (limit3 - 1)), wasBalanced8, wasPartitioned9, (W (b2 - a1))) _ _ H
    ·clear H; intro hb17 H
     refine r_skip ?_
     refine ru4 0 (Sl.v data0) 1 (I a1) 2 (I b2) 3 (I limit3) rfl rfl rfl rfl ?_
     refine ru3 8 (.bool wasBalanced8) 9 (.bool wasPartitioned9) 10 (I (W (b2 - a1))) rfl rfl rfl ?_
     exact J4 (data0, a1, b2, limit3, wasBalanced8, wasPartitioned9, (W (b2 - a1))) _ _ H

/-! 194 math/bits.Len -/
def f194 (R : Value → World → Prop) (x0 : Int) (w : World) : Prop :=
 CallF Try.prog 218 #[(.int .u64 x0)] w fun u_1 w_1 => As (Value.int .i64) u_1 fun v_2 =>
 R (.int .i64 v_2) w_1
theorem f194_ok (R : Value → World → Prop) (x0 : Int) (w : World) (H : f194 R x0 w) : CallF Try.prog 194 #[(.int .u64 x0)] w R := by
 refine calls_of_runs (fn := Try.f194) Try.func194 rfl (Nat.le_of_ble_eq_true rfl) ?_
 show Runs _ _ 8 _ _ _ _
 unfold f194 at H
 refine ru 0 (.int .u64 x0) rfl ?_
 refine sr ?_
 refine xs (I 0) rfl rfl ?_
 refine xe ?_
 refine r_seq ?_
 refine r_false rfl ?_
 refine r_skip ?_
 refine sr ?_
 refine xm (.int .u64 x0) rfl rfl ?_
 refine xo_eff rfl (wo rfl) (e_call (fn := Try.f218) H rfl rfl Try.func218 rfl rfl rfl) ?_
 rintro _ w_1 ⟨v_2, rfl, H⟩
 refine xs (I v_2) rfl rfl ?_
 refine xe ?_
 exact r_ret (fn := Try.f194) Try.func194 (res_1 rfl ⟨by decide, rfl⟩) H

/-! 195 slices.AppendSeq[[]int,int] -/
def slices_AppendSeq_int_int_r0 (R : Value → World → Prop)  (l : Nat) (lr : Loop) (s2 : Option Addr) (y7 : Int) (w : World) : Prop :=
 BegR l lr w fun w_2 =>
 Ld Sl.v s2 w_2 fun v_2 =>
 New #[(.int .i64 y7)] 3 w_2 fun a_3 w_3 =>
 Ef Try.prog (Builtin.append_ #[184, 184] 184 #[(Sl.v v_2), (Sl.v ⟨some a_3, 1, 1⟩)]) Sl.v w_3 fun v_4 w_4 =>
 St s2 (Sl.v v_4) w_4 fun w_5 =>
 EndR l lr none w_5 R
def f195 (R : Value → World → Prop) (s0 : Sl) (seq1 : Value) (w : World) : Prop :=
 New #[(Sl.v s0)] 184 w fun a_1 w_1 =>
 RF Try.prog seq1 (fun l lr args w K => ∃ (y7 : Int), args = #[(.int .i64 y7)] ∧ slices_AppendSeq_int_int_r0 K  l lr (some a_1) y7 w) w_1 fun r_5 c_6 w_6 =>
  (c_6 = none ∧ (
   Ld Sl.v (some a_1) w_6 fun v_7 =>
   Und r_5 w_6 fun w_7 =>
   R (Sl.v v_7) w_7))
theorem f195_ok (R : Value → World → Prop) (s0 : Sl) (seq1 : Value) (w : World) (H : f195 R s0 seq1 w) : CallF Try.prog 195 #[(Sl.v s0), seq1] w R := by
 refine calls_of_runs (fn := Try.f195) Try.func195 rfl (Nat.le_of_ble_eq_true rfl) ?_
 show Runs _ _ 13 _ _ _ _
 unfold f195 at H
 refine ru2 0 (Sl.v s0) 1 seq1 rfl rfl ?_
 refine sr ?_
 refine xo_eff rfl (wo rfl) (e_box (v := (Sl.v s0)) rfl rfl H) ?_
 rintro _ w_1 ⟨a_1, rfl, H⟩
 refine xs (Sl.v Sl.nil) rfl rfl ?_
 refine xe ?_
 refine r_seq ?_
 refine sr ?_
 refine xm seq1 rfl rfl ?_
 refine xe ?_
 refine r_block ?_
 refine r_rangeJ (fun (s : Option Addr × Int) σ => upd 7 (I s.2) (upd 2 (.pointer s.1) (σ))) (fun K l lr (s : Option Addr × Int) w => slices_AppendSeq_int_int_r0 K  l lr s.1 s.2 w) ?_ ?_
 ·rintro R l lr ⟨s2, y7⟩ σ w H
  replace H : slices_AppendSeq_int_int_r0 R  l lr s2 y7 w := H
  try dsimp only
  unfold slices_AppendSeq_int_int_r0 at H
  refine r_region ?_
  refine xs (I y7) rfl rfl ?_
  refine xe ?_
  obtain ⟨hbeg, H⟩ := H
  refine r_beg (l := l) rfl hbeg ?_
  generalize hww_2 : World.putObj _ _ _ = w_2 at H ⊢
  clear hww_2 hbeg
  refine r_block ?_
  refine r_region ?_
  obtain ⟨adv_2, v_2, hev_2, hcv_2, H⟩ := H
  refine xr (Sl.v v_2) rfl (wo rfl) rfl u184 rfl rfl hev_2 hcv_2 ?_
  refine xm (I y7) rfl rfl ?_
  refine xo_eff rfl (wo rfl) (e_buildRow H rfl u184 Try.ti3 (by decide) (by decide) rfl rfl (by simp [Value.oneCell', Sl.v])) ?_
  rintro _ w_3 ⟨a_3, rfl, H⟩
  refine xo_eff rfl (wo rfl) (e_app H rfl rfl rfl) ?_
  rintro _ w_4 ⟨v_4, rfl, H⟩
  refine xo_effN rfl (wo rfl) (e_store rfl Try.ti184 rfl rfl rfl H) ?_
  intro _ w_5 H
  refine xe ?_
  refine r_inBlock ?_
  exact r_rEnd (l := l) (lr := lr) rfl H
 ·intro J1
  refine r_range rfl rfl H ?_ ?_
  ·clear H; rintro l lr args w K ⟨y7, rfl, H⟩
   refine ⟨[(I y7)], rfl, rfl, ?_⟩
   refine ru2 2 (.pointer (some a_1)) 7 (I y7) rfl rfl ?_
   exact J1 _ _ _ ((some a_1), y7) _ _ H
  ·clear H; rintro r_5 c_6 w_6 H
   obtain ⟨rfl, H⟩ := H
   refine rj_none ?_
   refine r_inBlock ?_
   refine sr ?_
   obtain ⟨adv_7, v_7, hev_7, hcv_7, H⟩ := H
   refine xr (Sl.v v_7) rfl (wo rfl) rfl u184 rfl rfl hev_7 hcv_7 ?_
   refine xs (Sl.v v_7) rfl rfl ?_
   refine xe ?_
   obtain ⟨hund, H⟩ := H
   generalize hwund : World.putObj _ _ _ = w_7 at H
   exact r_ret1 (fn := Try.f195) Try.func195 (res_1 rfl ⟨by decide, rfl⟩) H hund hwund.symm

/-! 196 slices.pdqsortOrdered[int] -/
def f196_k4 (R : Value → World → Prop) (ag1 : (Sl × Int × Int × Int × Bool × Bool) → World → Prop) (data0 : Sl) (a1 : Int) (b2 : Int) (limit3 : Int) (wasBalanced8 : Bool) (wasPartitioned9 : Bool) (length10 : Int) (pivot11 : Int) (t87 : Bool) (w : World) : Prop :=
 IfB t87 (
  CallF Try.prog 226 #[(Sl.v data0), (.int .i64 a1), (.int .i64 b2), (.int .i64 pivot11)] w fun u_6 w_4 => As (Value.int .i64) u_6 fun v_7 =>
  ag1 (data0, v_7, b2, limit3, wasBalanced8, wasPartitioned9) w_4) (
  CallF Try.prog 227 #[(Sl.v data0), (.int .i64 a1), (.int .i64 b2), (.int .i64 pivot11)] w fun u_8 w_5 => AsT2 (Value.int .i64) Value.bool u_8 fun v_9 v_10 =>
  IfB (decide ((IntKind.i64.wrap (v_9 - a1)) < (IntKind.i64.wrap (b2 - v_9)))) (
   CallF Try.prog 196 #[(Sl.v data0), (.int .i64 a1), (.int .i64 v_9), (.int .i64 limit3)] w_5 fun _ w_6 =>
   ag1 (data0, (IntKind.i64.wrap (v_9 + 1)), b2, limit3, (decide ((IntKind.i64.wrap (Int.tdiv length10 8)) ≤ (IntKind.i64.wrap (v_9 - a1)))), v_10) w_6) (
   CallF Try.prog 196 #[(Sl.v data0), (.int .i64 (IntKind.i64.wrap (v_9 + 1))), (.int .i64 b2), (.int .i64 limit3)] w_5 fun _ w_7 =>
   ag1 (data0, a1, v_9, limit3, (decide ((IntKind.i64.wrap (Int.tdiv length10 8)) ≤ (IntKind.i64.wrap (b2 - v_9)))), v_10) w_7))
def f196_k3 (R : Value → World → Prop) (ag1 : (Sl × Int × Int × Int × Bool × Bool) → World → Prop) (data0 : Sl) (a1 : Int) (b2 : Int) (limit3 : Int) (wasBalanced8 : Bool) (wasPartitioned9 : Bool) (length10 : Int) (pivot11 : Int) (w : World) : Prop :=
 IfB (decide (0 < a1)) (
  Ix data0 (IntKind.i64.wrap (a1 - 1)) fun p_13 =>
  Ld (Value.int .i64) (some (p_13.add ((IntKind.i64.wrap (a1 - 1)).toNat * 1))) (World.drew w) fun v_14 =>
  Ix data0 pivot11 fun p_15 =>
  Ld (Value.int .i64) (some (p_15.add (pivot11.toNat * 1))) (World.drew w) fun v_16 =>
  CallF Try.prog 225 #[(.int .i64 v_14), (.int .i64 v_16)] (World.drew w) fun u_17 w_9 => As Value.bool u_17 fun v_18 =>
  f196_k4 R ag1 data0 a1 b2 limit3 wasBalanced8 wasPartitioned9 length10 pivot11 (!v_18) w_9) (
  f196_k4 R ag1 data0 a1 b2 limit3 wasBalanced8 wasPartitioned9 length10 pivot11 false (World.drew w))
def f196_k5 (R : Value → World → Prop) (ag1 : (Sl × Int × Int × Int × Bool × Bool) → World → Prop) (data0 : Sl) (a1 : Int) (b2 : Int) (limit3 : Int) (wasBalanced8 : Bool) (wasPartitioned9 : Bool) (length10 : Int) (pivot11 : Int) (t68 : Bool) (w : World) : Prop :=
 IfB t68 (
  CallF Try.prog 224 #[(Sl.v data0), (.int .i64 a1), (.int .i64 b2)] w fun u_19 w_10 => As Value.bool u_19 fun v_20 =>
  IfB v_20 (
   R (.tuple #[]) w_10) (
   f196_k3 R ag1 data0 a1 b2 limit3 wasBalanced8 wasPartitioned9 length10 pivot11 w_10)) (
  f196_k3 R ag1 data0 a1 b2 limit3 wasBalanced8 wasPartitioned9 length10 pivot11 w)
def f196_k2 (R : Value → World → Prop) (ag1 : (Sl × Int × Int × Int × Bool × Bool) → World → Prop) (data0 : Sl) (a1 : Int) (b2 : Int) (limit3 : Int) (wasBalanced8 : Bool) (wasPartitioned9 : Bool) (length10 : Int) (pivot11 : Int) (hint12 : Int) (w : World) : Prop :=
 IfB wasBalanced8 (
  IfB wasPartitioned9 (
   f196_k5 R ag1 data0 a1 b2 limit3 wasBalanced8 wasPartitioned9 length10 pivot11 (decide (hint12 = 1)) w) (
   f196_k5 R ag1 data0 a1 b2 limit3 wasBalanced8 wasPartitioned9 length10 pivot11 false w)) (
  f196_k5 R ag1 data0 a1 b2 limit3 wasBalanced8 wasPartitioned9 length10 pivot11 false w)
def f196_k1 (R : Value → World → Prop) (ag1 : (Sl × Int × Int × Int × Bool × Bool) → World → Prop) (data0 : Sl) (a1 : Int) (b2 : Int) (limit3 : Int) (wasBalanced8 : Bool) (wasPartitioned9 : Bool) (length10 : Int) (w : World) : Prop :=
 CallF Try.prog 222 #[(Sl.v data0), (.int .i64 a1), (.int .i64 b2)] w fun u_3 w_3 => AsT2 (Value.int .i64) (Value.int .i64) u_3 fun v_4 v_5 =>
 IfB (decide (v_5 = 2)) (
  CallF Try.prog 223 #[(Sl.v data0), (.int .i64 a1), (.int .i64 b2)] w_3 fun _ w_11 =>
  f196_k2 R ag1 data0 a1 b2 limit3 wasBalanced8 wasPartitioned9 length10 (IntKind.i64.wrap ((IntKind.i64.wrap (b2 - 1)) - (IntKind.i64.wrap (v_4 - a1)))) 1 w_11) (
  f196_k2 R ag1 data0 a1 b2 limit3 wasBalanced8 wasPartitioned9 length10 v_4 v_5 w_3)
def f196_b0 (R : Value → World → Prop) (ag1 : (Sl × Int × Int × Int × Bool × Bool) → World → Prop) (data0 : Sl) (a1 : Int) (b2 : Int) (limit3 : Int) (wasBalanced8 : Bool) (wasPartitioned9 : Bool) (w : World) : Prop :=
 IfB (decide ((IntKind.i64.wrap (b2 - a1)) ≤ 12)) (
  CallF Try.prog 219 #[(Sl.v data0), (.int .i64 a1), (.int .i64 b2)] w fun _ w_1 =>
  R (.tuple #[]) w_1) (
  IfB (decide (limit3 = 0)) (
   CallF Try.prog 220 #[(Sl.v data0), (.int .i64 a1), (.int .i64 b2)] w fun _ w_2 =>
   R (.tuple #[]) w_2) (
   IfB (!wasBalanced8) (
    CallF Try.prog 221 #[(Sl.v data0), (.int .i64 a1), (.int .i64 b2)] w fun _ w_12 =>
    f196_k1 R ag1 data0 a1 b2 (IntKind.i64.wrap (limit3 - 1)) wasBalanced8 wasPartitioned9 (IntKind.i64.wrap (b2 - a1)) w_12) (
    f196_k1 R ag1 data0 a1 b2 limit3 wasBalanced8 wasPartitioned9 (IntKind.i64.wrap (b2 - a1)) w)))
def f196 (R : Value → World → Prop) (data0 : Sl) (a1 : Int) (b2 : Int) (limit3 : Int) (w : World) : Prop :=
 Lp (fun ag (s : Sl × Int × Int × Int × Bool × Bool) w => f196_b0 R ag s.1 s.2.1 s.2.2.1 s.2.2.2.1 s.2.2.2.2.1 s.2.2.2.2.2 w) (data0, a1, b2, limit3, true, true) w
theorem f196_ok (R : Value → World → Prop) (data0 : Sl) (a1 : Int) (b2 : Int) (limit3 : Int) (w : World) (H : f196 R data0 a1 b2 limit3 w) : CallF Try.prog 196 #[(Sl.v data0), (.int .i64 a1), (.int .i64 b2), (.int .i64 limit3)] w R := by
 refine calls_of_runs (fn := Try.f196) Try.func196 rfl (Nat.le_of_ble_eq_true rfl) ?_
 show Runs _ _ 134 _ _ _ _
 unfold f196 at H
 refine ru4 0 (Sl.v data0) 1 (I a1) 2 (I b2) 3 (I limit3) rfl rfl rfl rfl ?_
 refine sr ?_
 refine xs (.bool true) rfl rfl ?_
 refine xe ?_
 refine sr ?_
 refine xs (.bool true) rfl rfl ?_
 refine xe ?_
 refine r_block ?_
 refine ru4 0 (Sl.v data0) 1 (I a1) 2 (I b2) 3 (I limit3) rfl rfl rfl rfl ?_
 refine ru2 8 (.bool true) 9 (.bool true) rfl rfl ?_
 refine r_loopJ (fun (s : Sl × Int × Int × Int × Bool × Bool) σ => upd 9 (.bool s.2.2.2.2.2) (upd 8 (.bool s.2.2.2.2.1) (upd 3 (I s.2.2.2.1) (upd 2 (I s.2.2.1) (upd 1 (I s.2.1) (upd 0 (Sl.v s.1) (σ))))))) (s := (data0, a1, b2, limit3, true, true)) H ?_
 clear H
 rintro ag1 ⟨data0, a1, b2, limit3, wasBalanced8, wasPartitioned9⟩ σ w H hag1
 replace H : f196_b0 R ag1 data0 a1 b2 limit3 wasBalanced8 wasPartitioned9 w := H
 try dsimp only
 unfold f196_b0 at H
 refine r_block ?_
 refine sr ?_
 refine xm (I b2) rfl rfl ?_
 refine xm (I a1) rfl rfl ?_
 refine xp _ rfl (p_sub rfl rfl rfl) ?_
 refine xs (I (W (b2 - a1))) rfl rfl ?_
 refine xe ?_
 refine r_seq ?_
 refine sr ?_
 refine xm (I (W (b2 - a1))) rfl rfl ?_
 refine xp _ rfl (p_le rfl rfl rfl) ?_
 refine xe ?_
 refine r_condB (b := (decide ((W (b2 - a1)) ≤ 12))) rfl H ?_ ?_
 ·clear H; intro hb2 H
  refine sr ?_
  refine xm (Sl.v data0) rfl rfl ?_
  refine xm (I a1) rfl rfl ?_
  refine xm (I b2) rfl rfl ?_
  refine xo_eff rfl (wo rfl) (e_call (fn := Try.f219) H rfl rfl Try.func219 rfl rfl rfl) ?_
  intro _ w_1 H
  refine xe ?_
  exact r_ret (fn := Try.f196) Try.func196 (res_0 rfl ) H
 ·clear H; intro hb2 H
  refine r_skip ?_
  refine r_seq ?_
  refine sr ?_
  refine xm (I limit3) rfl rfl ?_
  refine xp _ rfl (p_eq rfl rfl rfl) ?_
  refine xe ?_
  refine r_condB (b := (decide (limit3 = 0))) rfl H ?_ ?_
  ·clear H; intro hb3 H
   refine sr ?_
   refine xm (Sl.v data0) rfl rfl ?_
   refine xm (I a1) rfl rfl ?_
   refine xm (I b2) rfl rfl ?_
   refine xo_eff rfl (wo rfl) (e_call (fn := Try.f220) H rfl rfl Try.func220 rfl rfl rfl) ?_
   intro _ w_2 H
   refine xe ?_
   exact r_ret (fn := Try.f196) Try.func196 (res_0 rfl ) H
  ·clear H; intro hb3 H
   refine r_skip ?_
   refine r_seqJ (fun (s : Sl × Int × Int × Int × Bool × Bool × Int) σ => upd 10 (I s.2.2.2.2.2.2) (upd 9 (.bool s.2.2.2.2.2.1) (upd 8 (.bool s.2.2.2.2.1) (upd 3 (I s.2.2.2.1) (upd 2 (I s.2.2.1) (upd 1 (I s.2.1) (upd 0 (Sl.v s.1) (σ)))))))) (fun (s : Sl × Int × Int × Int × Bool × Bool × Int) w => f196_k1 R ag1 s.1 s.2.1 s.2.2.1 s.2.2.2.1 s.2.2.2.2.1 s.2.2.2.2.2.1 s.2.2.2.2.2.2 w) ?_ ?_
   ·rintro ⟨data0, a1, b2, limit3, wasBalanced8, wasPartitioned9, length10⟩ σ w H
    replace H : f196_k1 R ag1 data0 a1 b2 limit3 wasBalanced8 wasPartitioned9 length10 w := H
    try dsimp only
    unfold f196_k1 at H
    refine sr ?_
    refine xm (Sl.v data0) rfl rfl ?_
    refine xm (I a1) rfl rfl ?_
    refine xm (I b2) rfl rfl ?_
    refine xo_eff rfl (wo rfl) (e_call (fn := Try.f222) H rfl rfl Try.func222 rfl rfl rfl) ?_
    rintro _ w_3 ⟨v_4, v_5, rfl, H⟩
    refine xm (.tuple #[(I v_4), (I v_5)]) rfl rfl ?_
    refine xp (I v_4) rfl (p_extract (vs := #[(I v_4), (I v_5)]) rfl rfl rfl) ?_
    refine xp (I v_5) rfl (p_extract (vs := #[(I v_4), (I v_5)]) rfl rfl rfl) ?_
    refine xs (I v_4) rfl rfl ?_
    refine xs (I v_5) rfl rfl ?_
    refine xe ?_
    refine r_seqJ (fun (s : Sl × Int × Int × Int × Bool × Bool × Int × Int × Int) σ => upd 12 (I s.2.2.2.2.2.2.2.2) (upd 11 (I s.2.2.2.2.2.2.2.1) (upd 10 (I s.2.2.2.2.2.2.1) (upd 9 (.bool s.2.2.2.2.2.1) (upd 8 (.bool s.2.2.2.2.1) (upd 3 (I s.2.2.2.1) (upd 2 (I s.2.2.1) (upd 1 (I s.2.1) (upd 0 (Sl.v s.1) (σ)))))))))) (fun (s : Sl × Int × Int × Int × Bool × Bool × Int × Int × Int) w => f196_k2 R ag1 s.1 s.2.1 s.2.2.1 s.2.2.2.1 s.2.2.2.2.1 s.2.2.2.2.2.1 s.2.2.2.2.2.2.1 s.2.2.2.2.2.2.2.1 s.2.2.2.2.2.2.2.2 w) ?_ ?_
    ·rintro ⟨data0, a1, b2, limit3, wasBalanced8, wasPartitioned9, length10, pivot11, hint12⟩ σ w H
     replace H : f196_k2 R ag1 data0 a1 b2 limit3 wasBalanced8 wasPartitioned9 length10 pivot11 hint12 w := H
     try dsimp only
     unfold f196_k2 at H
     refine r_seqJ (fun (s : Sl × Int × Int × Int × Bool × Bool × Int × Int) σ => upd 11 (I s.2.2.2.2.2.2.2) (upd 10 (I s.2.2.2.2.2.2.1) (upd 9 (.bool s.2.2.2.2.2.1) (upd 8 (.bool s.2.2.2.2.1) (upd 3 (I s.2.2.2.1) (upd 2 (I s.2.2.1) (upd 1 (I s.2.1) (upd 0 (Sl.v s.1) (σ))))))))) (fun (s : Sl × Int × Int × Int × Bool × Bool × Int × Int) w => f196_k3 R ag1 s.1 s.2.1 s.2.2.1 s.2.2.2.1 s.2.2.2.2.1 s.2.2.2.2.2.1 s.2.2.2.2.2.2.1 s.2.2.2.2.2.2.2 w) ?_ ?_
     ·rintro ⟨data0, a1, b2, limit3, wasBalanced8, wasPartitioned9, length10, pivot11⟩ σ w H
      replace H : f196_k3 R ag1 data0 a1 b2 limit3 wasBalanced8 wasPartitioned9 length10 pivot11 w := H
      try dsimp only
      unfold f196_k3 at H
      refine r_seq ?_
      refine r_seq ?_
      refine r_topJ (fun (s : Sl × Int × Int × Int × Bool × Bool × Int × Int × Bool) σ => upd 87 (.bool s.2.2.2.2.2.2.2.2) (upd 11 (I s.2.2.2.2.2.2.2.1) (upd 10 (I s.2.2.2.2.2.2.1) (upd 9 (.bool s.2.2.2.2.2.1) (upd 8 (.bool s.2.2.2.2.1) (upd 3 (I s.2.2.2.1) (upd 2 (I s.2.2.1) (upd 1 (I s.2.1) (upd 0 (Sl.v s.1) (σ)))))))))) (fun (s : Sl × Int × Int × Int × Bool × Bool × Int × Int × Bool) w => f196_k4 R ag1 s.1 s.2.1 s.2.2.1 s.2.2.2.1 s.2.2.2.2.1 s.2.2.2.2.2.1 s.2.2.2.2.2.2.1 s.2.2.2.2.2.2.2.1 s.2.2.2.2.2.2.2.2 w) ?_ ?_
      ·rintro ⟨data0, a1, b2, limit3, wasBalanced8, wasPartitioned9, length10, pivot11, t87⟩ σ w H
       replace H : f196_k4 R ag1 data0 a1 b2 limit3 wasBalanced8 wasPartitioned9 length10 pivot11 t87 w := H
       try dsimp only
       unfold f196_k4 at H
       refine r_condB (b := t87) rfl H ?_ ?_
       ·clear H; intro hb8 H
        refine sr ?_
        refine xm (Sl.v data0) rfl rfl ?_
        refine xm (I a1) rfl rfl ?_
        refine xm (I b2) rfl rfl ?_
        refine xm (I pivot11) rfl rfl ?_
        refine xo_eff rfl (wo rfl) (e_call (fn := Try.f226) H rfl rfl Try.func226 rfl rfl rfl) ?_
        rintro _ w_4 ⟨v_7, rfl, H⟩
        refine xs (I v_7) rfl rfl ?_
        refine xe ?_
        refine sr ?_
        refine xm (I v_7) rfl rfl ?_
        refine xs (I v_7) rfl rfl ?_
        refine xe ?_
        refine r_exit rfl ?_
        refine ru4 0 (Sl.v data0) 1 (I v_7) 2 (I b2) 3 (I limit3) rfl rfl rfl rfl ?_
        refine ru2 8 (.bool wasBalanced8) 9 (.bool wasPartitioned9) rfl rfl ?_
        exact hag1 (data0, v_7, b2, limit3, wasBalanced8, wasPartitioned9) _ _ H
       ·clear H; intro hb8 H
        refine r_skip ?_
        refine sr ?_
        refine xm (Sl.v data0) rfl rfl ?_
        refine xm (I a1) rfl rfl ?_
        refine xm (I b2) rfl rfl ?_
        refine xm (I pivot11) rfl rfl ?_
        refine xo_eff rfl (wo rfl) (e_call (fn := Try.f227) H rfl rfl Try.func227 rfl rfl rfl) ?_
        rintro _ w_5 ⟨v_9, v_10, rfl, H⟩
        refine xm (.tuple #[(I v_9), (.bool v_10)]) rfl rfl ?_
        refine xp (I v_9) rfl (p_extract (vs := #[(I v_9), (.bool v_10)]) rfl rfl rfl) ?_
        refine xp (.bool v_10) rfl (p_extract (vs := #[(I v_9), (.bool v_10)]) rfl rfl rfl) ?_
        refine xs (I v_9) rfl rfl ?_
        refine xs (.bool v_10) rfl rfl ?_
        refine xe ?_
        refine sr ?_
        refine xm (.bool v_10) rfl rfl ?_
        refine xs (.bool v_10) rfl rfl ?_
        refine xe ?_
        refine sr ?_
        refine xm (I v_9) rfl rfl ?_
        refine xm (I a1) rfl rfl ?_
        refine xp _ rfl (p_sub rfl rfl rfl) ?_
        refine xm (I b2) rfl rfl ?_
        refine xm (I v_9) rfl rfl ?_
        refine xp _ rfl (p_sub rfl rfl rfl) ?_
        refine xs (I (W (v_9 - a1))) rfl rfl ?_
        refine xs (I (W (b2 - v_9))) rfl rfl ?_
        refine xe ?_
        refine sr ?_
        refine xm (I length10) rfl rfl ?_
        refine xp (I (W (Int.tdiv length10 8))) rfl (p_quo rfl rfl rfl (by decide)) ?_
        refine xs (I (W (Int.tdiv length10 8))) rfl rfl ?_
        refine xe ?_
        refine sr ?_
        refine xm (I (W (v_9 - a1))) rfl rfl ?_
        refine xm (I (W (b2 - v_9))) rfl rfl ?_
        refine xp _ rfl (p_lt rfl rfl rfl) ?_
        refine xe ?_
        refine r_condB (b := (decide ((W (v_9 - a1)) < (W (b2 - v_9))))) rfl H ?_ ?_
        ·clear H; intro hb9 H
         refine sr ?_
         refine xm (I (W (v_9 - a1))) rfl rfl ?_
         refine xm (I (W (Int.tdiv length10 8))) rfl rfl ?_
         refine xp _ rfl (p_ge rfl rfl rfl) ?_
         refine xs (.bool (decide ((W (Int.tdiv length10 8)) ≤ (W (v_9 - a1))))) rfl rfl ?_
         refine xe ?_
         refine sr ?_
         refine xm (Sl.v data0) rfl rfl ?_
         refine xm (I a1) rfl rfl ?_
         refine xm (I v_9) rfl rfl ?_
         refine xm (I limit3) rfl rfl ?_
         refine xo_eff rfl (wo rfl) (e_call (fn := Try.f196) H rfl rfl Try.func196 rfl rfl rfl) ?_
         intro _ w_6 H
         refine xe ?_
         refine r_region ?_
         refine xm (I v_9) rfl rfl ?_
         refine xp _ rfl (p_add rfl rfl rfl) ?_
         refine xs (I (W (v_9 + 1))) rfl rfl ?_
         refine xe ?_
         refine r_inBlock ?_
         refine ru4 0 (Sl.v data0) 1 (I (W (v_9 + 1))) 2 (I b2) 3 (I limit3) rfl rfl rfl rfl ?_
         refine ru2 8 (.bool (decide ((W (Int.tdiv length10 8)) ≤ (W (v_9 - a1))))) 9 (.bool v_10) rfl rfl ?_
         exact hag1 (data0, (W (v_9 + 1)), b2, limit3, (decide ((W (Int.tdiv length10 8)) ≤ (W (v_9 - a1)))), v_10) _ _ H
        ·clear H; intro hb9 H
         refine sr ?_
         refine xm (I (W (b2 - v_9))) rfl rfl ?_
         refine xm (I (W (Int.tdiv length10 8))) rfl rfl ?_
         refine xp _ rfl (p_ge rfl rfl rfl) ?_
         refine xs (.bool (decide ((W (Int.tdiv length10 8)) ≤ (W (b2 - v_9))))) rfl rfl ?_
         refine xe ?_
         refine sr ?_
         refine xm (Sl.v data0) rfl rfl ?_
         refine xm (I v_9) rfl rfl ?_
         refine xp _ rfl (p_add rfl rfl rfl) ?_
         refine xm (I b2) rfl rfl ?_
         refine xm (I limit3) rfl rfl ?_
         refine xo_eff rfl (wo rfl) (e_call (fn := Try.f196) H rfl rfl Try.func196 rfl rfl rfl) ?_
         intro _ w_7 H
         refine xe ?_
         refine r_region ?_
         refine xm (I v_9) rfl rfl ?_
         refine xs (I v_9) rfl rfl ?_
         refine xe ?_
         refine r_inBlock ?_
         refine ru4 0 (Sl.v data0) 1 (I a1) 2 (I v_9) 3 (I limit3) rfl rfl rfl rfl ?_
         refine ru2 8 (.bool (decide ((W (Int.tdiv length10 8)) ≤ (W (b2 - v_9))))) 9 (.bool v_10) rfl rfl ?_
         exact hag1 (data0, a1, v_9, limit3, (decide ((W (Int.tdiv length10 8)) ≤ (W (b2 - v_9)))), v_10) _ _ H
      ·intro J7
       refine r_draw #[[], [0], [0, 1], [0, 1, 2], [0, 1, 2], [0, 1, 2, 4], [0, 1, 2, 3, 4, 5], [0, 1, 2, 3, 4, 5, 6], [0, 1, 2], [0, 1, 2], [0, 1, 2, 8, 9], [0, 1, 2, 8, 9, 10], [0, 1, 2, 3, 4, 5, 6, 7, 8, 9, 10, 11], [0, 1, 2, 3, 4, 5, 6, 7, 8, 9, 10, 11, 12], [0, 1, 2, 3, 4, 5, 6, 7, 8, 9, 10, 11, 12, 13]] 15 rfl rfl ?_
       refine am 0 (I a1) rfl rfl rfl ?_
       refine ap 1 _ rfl rfl (p_gt rfl rfl rfl) ?_
       refine am 2 (.bool (decide (0 < a1))) rfl rfl rfl ?_
       refine ifB_cases H ?_ ?_
       ·clear H; intro hb10 H
        refine ay 3 (Sl.v data0) rfl rfl (wy 75 rfl rfl rfl hb10) (p_move rfl rfl) ?_
        refine ay 4 (I a1) rfl rfl (wy 75 rfl rfl rfl hb10) (p_move rfl rfl) ?_
        refine ay 5 (I (W (a1 - 1))) rfl rfl (wy 75 rfl rfl rfl hb10) (p_sub rfl rfl rfl) ?_
        obtain ⟨p_13, hap_13, hlp_13, hup_13, H⟩ := H
        refine ay 6 (.pointer (some (p_13.add ((W (a1 - 1)).toNat * 1)))) rfl rfl (wy 75 rfl rfl rfl hb10) (p_indexAddr (s := data0) (ad := p_13) (size := 1) rfl u184 Try.ti3 rfl rfl hap_13 hlp_13 hup_13) ?_
        obtain ⟨adv_14, v_14, hev_14, hcv_14, H⟩ := H
        refine ar 7 (I v_14) rfl rfl (wy 75 rfl rfl rfl hb10) rfl u3 rfl rfl hev_14 hcv_14 ?_
        refine ay 8 (Sl.v data0) rfl rfl (wy 75 rfl rfl rfl hb10) (p_move rfl rfl) ?_
        refine ay 9 (I pivot11) rfl rfl (wy 75 rfl rfl rfl hb10) (p_move rfl rfl) ?_
        obtain ⟨p_15, hap_15, hlp_15, hup_15, H⟩ := H
        refine ay 10 (.pointer (some (p_15.add (pivot11.toNat * 1)))) rfl rfl (wy 75 rfl rfl rfl hb10) (p_indexAddr (s := data0) (ad := p_15) (size := 1) rfl u184 Try.ti3 rfl rfl hap_15 hlp_15 hup_15) ?_
        obtain ⟨adv_16, v_16, hev_16, hcv_16, H⟩ := H
        refine ar 11 (I v_16) rfl rfl (wy 75 rfl rfl rfl hb10) rfl u3 rfl rfl hev_16 hcv_16 ?_
        refine ae 12 [] rfl rfl rfl (wy 75 rfl rfl rfl hb10) (e_call (fn := Try.f225) H rfl rfl Try.func225 rfl rfl rfl) ?_
        rintro _ w_9 ⟨v_18, rfl, H⟩
        refine ⟨AllHeld.nil, ?_⟩
        refine ay 13 (.bool (!v_18)) rfl rfl (wy 75 rfl rfl rfl hb10) (p_not rfl rfl) ?_
        refine ap 14 (.bool (!v_18)) rfl rfl (p_pickT rfl rfl hb10 rfl) ?_
        refine ax ?_
        refine ru4 0 (Sl.v data0) 1 (I a1) 2 (I b2) 3 (I limit3) rfl rfl rfl rfl ?_
        refine ru4 8 (.bool wasBalanced8) 9 (.bool wasPartitioned9) 10 (I length10) 11 (I pivot11) rfl rfl rfl rfl ?_
        refine ru 87 (.bool (!v_18)) rfl ?_
        exact J7 (data0, a1, b2, limit3, wasBalanced8, wasPartitioned9, length10, pivot11, (!v_18)) _ _ H
       ·clear H; intro hb10 H
        refine ak 3 rfl rfl (wn 75 rfl rfl rfl hb10) ?_
        refine ak 4 rfl rfl (wn 75 rfl rfl rfl hb10) ?_
        refine ak 5 rfl rfl (wn 75 rfl rfl rfl hb10) ?_
        refine ak 6 rfl rfl (wn 75 rfl rfl rfl hb10) ?_
        refine ak 7 rfl rfl (wn 75 rfl rfl rfl hb10) ?_
        refine ak 8 rfl rfl (wn 75 rfl rfl rfl hb10) ?_
        refine ak 9 rfl rfl (wn 75 rfl rfl rfl hb10) ?_
        refine ak 10 rfl rfl (wn 75 rfl rfl rfl hb10) ?_
        refine ak 11 rfl rfl (wn 75 rfl rfl rfl hb10) ?_
        refine ak 12 rfl rfl (wn 75 rfl rfl rfl hb10) ?_
        refine ak 13 rfl rfl (wn 75 rfl rfl rfl hb10) ?_
        refine ap 14 (.bool false) rfl rfl (p_pickF rfl rfl hb10 rfl) ?_
        refine ax ?_
        refine ru4 0 (Sl.v data0) 1 (I a1) 2 (I b2) 3 (I limit3) rfl rfl rfl rfl ?_
        refine ru4 8 (.bool wasBalanced8) 9 (.bool wasPartitioned9) 10 (I length10) 11 (I pivot11) rfl rfl rfl rfl ?_
        refine ru 87 (.bool false) rfl ?_
        exact J7 (data0, a1, b2, limit3, wasBalanced8, wasPartitioned9, length10, pivot11, false) _ _ H
     ·intro J6
      refine r_seq ?_
      refine r_topJ (fun (s : Sl × Int × Int × Int × Bool × Bool × Int × Int × Bool) σ => upd 68 (.bool s.2.2.2.2.2.2.2.2) (upd 11 (I s.2.2.2.2.2.2.2.1) (upd 10 (I s.2.2.2.2.2.2.1) (upd 9 (.bool s.2.2.2.2.2.1) (upd 8 (.bool s.2.2.2.2.1) (upd 3 (I s.2.2.2.1) (upd 2 (I s.2.2.1) (upd 1 (I s.2.1) (upd 0 (Sl.v s.1) (σ)))))))))) (fun (s : Sl × Int × Int × Int × Bool × Bool × Int × Int × Bool) w => f196_k5 R ag1 s.1 s.2.1 s.2.2.1 s.2.2.2.1 s.2.2.2.2.1 s.2.2.2.2.2.1 s.2.2.2.2.2.2.1 s.2.2.2.2.2.2.2.1 s.2.2.2.2.2.2.2.2 w) ?_ ?_
      ·rintro ⟨data0, a1, b2, limit3, wasBalanced8, wasPartitioned9, length10, pivot11, t68⟩ σ w H
       replace H : f196_k5 R ag1 data0 a1 b2 limit3 wasBalanced8 wasPartitioned9 length10 pivot11 t68 w := H
       try dsimp only
       unfold f196_k5 at H
       refine r_condB (b := t68) rfl H ?_ ?_
       ·clear H; intro hb12 H
        refine sr ?_
        refine xm (Sl.v data0) rfl rfl ?_
        refine xm (I a1) rfl rfl ?_
        refine xm (I b2) rfl rfl ?_
        refine xo_eff rfl (wo rfl) (e_call (fn := Try.f224) H rfl rfl Try.func224 rfl rfl rfl) ?_
        rintro _ w_10 ⟨v_20, rfl, H⟩
        refine xe ?_
        refine r_condB (b := v_20) rfl H ?_ ?_
        ·clear H; intro hb13 H
         exact r_ret (fn := Try.f196) Try.func196 (res_0 rfl ) H
        ·clear H; intro hb13 H
         refine r_skip ?_
         refine ru4 0 (Sl.v data0) 1 (I a1) 2 (I b2) 3 (I limit3) rfl rfl rfl rfl ?_
         refine ru4 8 (.bool wasBalanced8) 9 (.bool wasPartitioned9) 10 (I length10) 11 (I pivot11) rfl rfl rfl rfl ?_
         exact J6 (data0, a1, b2, limit3, wasBalanced8, wasPartitioned9, length10, pivot11) _ _ H
       ·clear H; intro hb12 H
        refine r_skip ?_
        refine ru4 0 (Sl.v data0) 1 (I a1) 2 (I b2) 3 (I limit3) rfl rfl rfl rfl ?_
        refine ru4 8 (.bool wasBalanced8) 9 (.bool wasPartitioned9) 10 (I length10) 11 (I pivot11) rfl rfl rfl rfl ?_
        exact J6 (data0, a1, b2, limit3, wasBalanced8, wasPartitioned9, length10, pivot11) _ _ H
      ·intro J11
       refine r_region ?_
       refine xm (.bool wasBalanced8) rfl rfl ?_
       refine xm (.bool wasBalanced8) rfl rfl ?_
       refine ifB_cases H ?_ ?_
       ·clear H; intro hb14 H
        refine yp (.bool wasPartitioned9) rfl (wy 62 rfl rfl rfl hb14) (p_move rfl rfl) ?_
        refine xp (.bool wasPartitioned9) rfl (p_pickT rfl rfl hb14 rfl) ?_
        refine xm (.bool wasPartitioned9) rfl rfl ?_
        refine ifB_cases H ?_ ?_
        ·clear H; intro hb15 H
         refine yp (I hint12) rfl (wy 65 rfl rfl rfl hb15) (p_move rfl rfl) ?_
         refine yp (.bool (decide (hint12 = 1))) rfl (wy 65 rfl rfl rfl hb15) (p_eq rfl rfl rfl) ?_
         refine xp (.bool (decide (hint12 = 1))) rfl (p_pickT rfl rfl hb15 rfl) ?_
         refine xe ?_
         refine ru4 0 (Sl.v data0) 1 (I a1) 2 (I b2) 3 (I limit3) rfl rfl rfl rfl ?_
         refine ru4 8 (.bool wasBalanced8) 9 (.bool wasPartitioned9) 10 (I length10) 11 (I pivot11) rfl rfl rfl rfl ?_
         refine ru 68 (.bool (decide (hint12 = 1))) rfl ?_
         exact J11 (data0, a1, b2, limit3, wasBalanced8, wasPartitioned9, length10, pivot11, (decide (hint12 = 1))) _ _ H
        ·clear H; intro hb15 H
         refine xo_skip rfl (wn 65 rfl rfl rfl hb15) ?_
         refine xo_skip rfl (wn 65 rfl rfl rfl hb15) ?_
         refine xp (.bool false) rfl (p_pickF rfl rfl hb15 rfl) ?_
         refine xe ?_
         refine ru4 0 (Sl.v data0) 1 (I a1) 2 (I b2) 3 (I limit3) rfl rfl rfl rfl ?_
         refine ru4 8 (.bool wasBalanced8) 9 (.bool wasPartitioned9) 10 (I length10) 11 (I pivot11) rfl rfl rfl rfl ?_
         refine ru 68 (.bool false) rfl ?_
         exact J11 (data0, a1, b2, limit3, wasBalanced8, wasPartitioned9, length10, pivot11, false) _ _ H
       ·clear H; intro hb14 H
        refine xo_skip rfl (wn 62 rfl rfl rfl hb14) ?_
        refine xp (.bool false) rfl (p_pickF rfl rfl hb14 rfl) ?_
        refine xm (.bool false) rfl rfl ?_
        refine xo_skip rfl (wn 65 rfl rfl rfl rfl) ?_
        refine xo_skip rfl (wn 65 rfl rfl rfl rfl) ?_
        refine xp (.bool false) rfl (p_pickF rfl rfl rfl rfl) ?_
        refine xe ?_
        refine ru4 0 (Sl.v data0) 1 (I a1) 2 (I b2) 3 (I limit3) rfl rfl rfl rfl ?_
        refine ru4 8 (.bool wasBalanced8) 9 (.bool wasPartitioned9) 10 (I length10) 11 (I pivot11) rfl rfl rfl rfl ?_
        refine ru 68 (.bool false) rfl ?_
        exact J11 (data0, a1, b2, limit3, wasBalanced8, wasPartitioned9, length10, pivot11, false) _ _ H
    ·intro J5
     refine sr ?_
     refine xm (I v_5) rfl rfl ?_
     refine xp _ rfl (p_eq rfl rfl rfl) ?_
     refine xe ?_
     refine r_condB (b := (decide (v_5 = 2))) rfl H ?_ ?_
     ·clear H; intro hb16 H
      refine sr ?_
      refine xm (Sl.v data0) rfl rfl ?_
      refine xm (I a1) rfl rfl ?_
      refine xm (I b2) rfl rfl ?_
      refine xo_eff rfl (wo rfl) (e_call (fn := Try.f223) H rfl rfl Try.func223 rfl rfl rfl) ?_
      intro _ w_11 H
      refine xe ?_
      refine sr ?_
      refine xm (I b2) rfl rfl ?_
      refine xp _ rfl (p_sub rfl rfl rfl) ?_
      refine xm (I v_4) rfl rfl ?_
      refine xm (I a1) rfl rfl ?_
      refine xp _ rfl (p_sub rfl rfl rfl) ?_
      refine xp _ rfl (p_sub rfl rfl rfl) ?_
      refine xs (I (W ((W (b2 - 1)) - (W (v_4 - a1))))) rfl rfl ?_
      refine xe ?_
      refine r_region ?_
      refine xs (I 1) rfl rfl ?_
      refine xe ?_
      refine ru4 0 (Sl.v data0) 1 (I a1) 2 (I b2) 3 (I limit3) rfl rfl rfl rfl ?_
      refine ru4 8 (.bool wasBalanced8) 9 (.bool wasPartitioned9) 10 (I length10) 11 (I (W ((W (b2 - 1)) - (W (v_4 - a1))))) rfl rfl rfl rfl ?_
      refine ru 12 (I 1) rfl ?_
      exact J5 (data0, a1, b2, limit3, wasBalanced8, wasPartitioned9, length10, (W ((W (b2 - 1)) - (W (v_4 - a1)))), 1) _ _ H
     ·clear H; intro hb16 H
      refine r_skip ?_
      refine ru4 0 (Sl.v data0) 1 (I a1) 2 (I b2) 3 (I limit3) rfl rfl rfl rfl ?_
      refine ru4 8 (.bool wasBalanced8) 9 (.bool wasPartitioned9) 10 (I length10) 11 (I v_4) rfl rfl rfl rfl ?_
      refine ru 12 (I v_5) rfl ?_
      exact J5 (data0, a1, b2, limit3, wasBalanced8, wasPartitioned9, length10, v_4, v_5) _ _ H
   ·intro J4
    refine sr ?_
    refine xm (.bool wasBalanced8) rfl rfl ?_
    refine xp (.bool (!wasBalanced8)) rfl (p_not rfl rfl) ?_
    refine xe ?_
    refine r_condB (b := (!wasBalanced8)) rfl H ?_ ?_
    ·clear H; intro hb17 H
     refine sr ?_
     refine xm (Sl.v data0) rfl rfl ?_
     refine xm (I a1) rfl rfl ?_
     refine xm (I b2) rfl rfl ?_
     refine xo_eff rfl (wo rfl) (e_call (fn := Try.f221) H rfl rfl Try.func221 rfl rfl rfl) ?_
     intro _ w_12 H
     refine xe ?_
     refine r_region ?_
     refine xm (I limit3) rfl rfl ?_
     refine xp _ rfl (p_sub rfl rfl rfl) ?_
     refine xs (I (W (limit3 - 1))) rfl rfl ?_
     refine xe ?_
     refine ru4 0 (Sl.v data0) 1 (I a1) 2 (I b2) 3 (I (W (limit3 - 1))) rfl rfl rfl rfl ?_
     refine ru3 8 (.bool wasBalanced8) 9 (.bool wasPartitioned9) 10 (I (W (b2 - a1))) rfl rfl rfl ?_
     exact J4 (data0, a1, b2, (W (limit3 - 1)), wasBalanced8, wasPartitioned9, (W (b2 - a1))) _ _ H
    ·clear H; intro hb17 H
     refine r_skip ?_
     refine ru4 0 (Sl.v data0) 1 (I a1) 2 (I b2) 3 (I limit3) rfl rfl rfl rfl ?_
     refine ru3 8 (.bool wasBalanced8) 9 (.bool wasPartitioned9) 10 (I (W (b2 - a1))) rfl rfl rfl ?_
     exact J4 (data0, a1, b2, limit3, wasBalanced8, wasPartitioned9, (W (b2 - a1))) _ _ H

/-! 197 sporran/volume.named$1 -/
def f197 (R : Value → World → Prop) (c0 : Int) (w : World) : Prop :=
 IfB (decide (c0 < 33)) (
  R (.bool true) w) (
  R (.bool (decide (126 < c0))) w)
theorem f197_ok (R : Value → World → Prop) (c0 : Int) (w : World) (H : f197 R c0 w) : CallF Try.prog 197 #[(.int .i32 c0)] w R := by
 refine calls_of_runs (fn := Try.f197) Try.func197 rfl (Nat.le_of_ble_eq_true rfl) ?_
 show Runs _ _ 9 _ _ _ _
 unfold f197 at H
 refine ru 0 (.int .i32 c0) rfl ?_
 refine sr ?_
 refine xs (.bool false) rfl rfl ?_
 refine xe ?_
 refine sr ?_
 refine xm (.int .i32 c0) rfl rfl ?_
 refine xp _ rfl (p_lt rfl rfl rfl) ?_
 refine xm (.bool (decide (c0 < 33))) rfl rfl ?_
 refine ifB_cases H ?_ ?_
 ·clear H; intro hb1 H
  refine xo_skip rfl (wn 5 rfl rfl rfl hb1) ?_
  refine xo_skip rfl (wn 5 rfl rfl rfl hb1) ?_
  refine xp (.bool true) rfl (p_pickT rfl rfl hb1 rfl) ?_
  refine xs (.bool true) rfl rfl ?_
  refine xe ?_
  exact r_ret (fn := Try.f197) Try.func197 (res_1 rfl ⟨by decide, rfl⟩) H
 ·clear H; intro hb1 H
  refine yp (.int .i32 c0) rfl (wy 5 rfl rfl rfl hb1) (p_move rfl rfl) ?_
  refine yp (.bool (decide (126 < c0))) rfl (wy 5 rfl rfl rfl hb1) (p_gt rfl rfl rfl) ?_
  refine xp (.bool (decide (126 < c0))) rfl (p_pickF rfl rfl hb1 rfl) ?_
  refine xs (.bool (decide (126 < c0))) rfl rfl ?_
  refine xe ?_
  exact r_ret (fn := Try.f197) Try.func197 (res_1 rfl ⟨by decide, rfl⟩) H

/-! 198 strings.ContainsFunc -/
def f198 (R : Value → World → Prop) (s0 : ByteArray) (f1 : Value) (w : World) : Prop :=
 CallF Try.prog 228 #[(.string s0), f1] w fun u_1 w_1 => As (Value.int .i64) u_1 fun v_2 =>
 R (.bool (decide (0 ≤ v_2))) w_1
theorem f198_ok (R : Value → World → Prop) (s0 : ByteArray) (f1 : Value) (w : World) (H : f198 R s0 f1 w) : CallF Try.prog 198 #[(.string s0), f1] w R := by
 refine calls_of_runs (fn := Try.f198) Try.func198 rfl (Nat.le_of_ble_eq_true rfl) ?_
 show Runs _ _ 9 _ _ _ _
 unfold f198 at H
 refine ru2 0 (.string s0) 1 f1 rfl rfl ?_
 refine sr ?_
 refine xs (.bool false) rfl rfl ?_
 refine xe ?_
 refine sr ?_
 refine xm (.string s0) rfl rfl ?_
 refine xm f1 rfl rfl ?_
 refine xo_eff rfl (wo rfl) (e_call (fn := Try.f228) H rfl rfl Try.func228 rfl rfl rfl) ?_
 rintro _ w_1 ⟨v_2, rfl, H⟩
 refine xp _ rfl (p_ge rfl rfl rfl) ?_
 refine xs (.bool (decide (0 ≤ v_2))) rfl rfl ?_
 refine xe ?_
 exact r_ret (fn := Try.f198) Try.func198 (res_1 rfl ⟨by decide, rfl⟩) H

/-! 208 slices.insertionSortOrdered[string] -/
def f208_k2 (R : Value → World → Prop) (ag1 : (Sl × Int × Int × Int) → World → Prop) (ag3 : (Sl × Int × Int × Int × Int) → World → Prop) (data0 : Sl) (a1 : Int) (b2 : Int) (i6 : Int) (j7 : Int) (t30 : Bool) (w : World) : Prop :=
 IfB t30 (
  Ix data0 (IntKind.i64.wrap (j7 - 1)) fun p_1 =>
  Ld Value.string (some (p_1.add ((IntKind.i64.wrap (j7 - 1)).toNat * 1))) (World.drew w) fun v_2 =>
  Ix data0 j7 fun p_3 =>
  Ld Value.string (some (p_3.add (j7.toNat * 1))) (World.drew w) fun v_4 =>
  Ix data0 j7 fun p_5 =>
  St (some (p_5.add (j7.toNat * 1))) (.string v_2) (World.drew w) fun w_2 =>
  Ix data0 (IntKind.i64.wrap (j7 - 1)) fun p_6 =>
  St (some (p_6.add ((IntKind.i64.wrap (j7 - 1)).toNat * 1))) (.string v_4) w_2 fun w_3 =>
  ag3 (data0, a1, b2, i6, (IntKind.i64.wrap (j7 - 1))) w_3) (
  ag1 (data0, a1, b2, (IntKind.i64.wrap (i6 + 1))) w)
def f208_b1 (R : Value → World → Prop) (ag1 : (Sl × Int × Int × Int) → World → Prop) (ag3 : (Sl × Int × Int × Int × Int) → World → Prop) (data0 : Sl) (a1 : Int) (b2 : Int) (i6 : Int) (j7 : Int) (w : World) : Prop :=
 IfB (decide (a1 < j7)) (
  Ix data0 j7 fun p_7 =>
  Ld Value.string (some (p_7.add (j7.toNat * 1))) (World.drew w) fun v_8 =>
  Ix data0 (IntKind.i64.wrap (j7 - 1)) fun p_9 =>
  Ld Value.string (some (p_9.add ((IntKind.i64.wrap (j7 - 1)).toNat * 1))) (World.drew w) fun v_10 =>
  CallF Try.prog 214 #[(.string v_8), (.string v_10)] (World.drew w) fun u_11 w_5 => As Value.bool u_11 fun v_12 =>
  f208_k2 R ag1 ag3 data0 a1 b2 i6 j7 v_12 w_5) (
  f208_k2 R ag1 ag3 data0 a1 b2 i6 j7 false (World.drew w))
def f208_b0 (R : Value → World → Prop) (ag1 : (Sl × Int × Int × Int) → World → Prop) (data0 : Sl) (a1 : Int) (b2 : Int) (i6 : Int) (w : World) : Prop :=
 IfB (decide (i6 < b2)) (
  Lp (fun ag (s : Sl × Int × Int × Int × Int) w => f208_b1 R ag1 ag s.1 s.2.1 s.2.2.1 s.2.2.2.1 s.2.2.2.2 w) (data0, a1, b2, i6, i6) w) (
  R (.tuple #[]) w)
def f208 (R : Value → World → Prop) (data0 : Sl) (a1 : Int) (b2 : Int) (w : World) : Prop :=
 Lp (fun ag (s : Sl × Int × Int × Int) w => f208_b0 R ag s.1 s.2.1 s.2.2.1 s.2.2.2 w) (data0, a1, b2, (IntKind.i64.wrap (a1 + 1))) w
theorem f208_ok (R : Value → World → Prop) (data0 : Sl) (a1 : Int) (b2 : Int) (w : World) (H : f208 R data0 a1 b2 w) : CallF Try.prog 208 #[(Sl.v data0), (.int .i64 a1), (.int .i64 b2)] w R := by
 refine calls_of_runs (fn := Try.f208) Try.func208 rfl (Nat.le_of_ble_eq_true rfl) ?_
 show Runs _ _ 49 _ _ _ _
 unfold f208 at H
 refine ru3 0 (Sl.v data0) 1 (I a1) 2 (I b2) rfl rfl rfl ?_
 refine sr ?_
 refine xm (I a1) rfl rfl ?_
 refine xp _ rfl (p_add rfl rfl rfl) ?_
 refine xs (I (W (a1 + 1))) rfl rfl ?_
 refine xe ?_
 refine r_block ?_
 refine ru4 0 (Sl.v data0) 1 (I a1) 2 (I b2) 6 (I (W (a1 + 1))) rfl rfl rfl rfl ?_
 refine r_loopJ (fun (s : Sl × Int × Int × Int) σ => upd 6 (I s.2.2.2) (upd 2 (I s.2.2.1) (upd 1 (I s.2.1) (upd 0 (Sl.v s.1) (σ))))) (s := (data0, a1, b2, (W (a1 + 1)))) H ?_
 clear H
 rintro ag1 ⟨data0, a1, b2, i6⟩ σ w H hag1
 replace H : f208_b0 R ag1 data0 a1 b2 i6 w := H
 try dsimp only
 unfold f208_b0 at H
 refine r_seq ?_
 refine sr ?_
 refine xm (I i6) rfl rfl ?_
 refine xm (I b2) rfl rfl ?_
 refine xp _ rfl (p_lt rfl rfl rfl) ?_
 refine xe ?_
 refine r_condB (b := (decide (i6 < b2))) rfl H ?_ ?_
 ·clear H; intro hb2 H
  refine r_skip ?_
  refine sb ?_
  refine sr ?_
  refine xm (I i6) rfl rfl ?_
  refine xs (I i6) rfl rfl ?_
  refine xe ?_
  refine r_block ?_
  refine ru4 0 (Sl.v data0) 1 (I a1) 2 (I b2) 6 (I i6) rfl rfl rfl rfl ?_
  refine ru 7 (I i6) rfl ?_
  refine r_loopJ (fun (s : Sl × Int × Int × Int × Int) σ => upd 7 (I s.2.2.2.2) (upd 6 (I s.2.2.2.1) (upd 2 (I s.2.2.1) (upd 1 (I s.2.1) (upd 0 (Sl.v s.1) (σ)))))) (s := (data0, a1, b2, i6, i6)) H ?_
  clear H
  rintro ag3 ⟨data0, a1, b2, i6, j7⟩ σ w H hag3
  replace H : f208_b1 R ag1 ag3 data0 a1 b2 i6 j7 w := H
  try dsimp only
  unfold f208_b1 at H
  refine r_seq ?_
  refine r_seq ?_
  refine r_topJ (fun (s : Sl × Int × Int × Int × Int × Bool) σ => upd 30 (.bool s.2.2.2.2.2) (upd 7 (I s.2.2.2.2.1) (upd 6 (I s.2.2.2.1) (upd 2 (I s.2.2.1) (upd 1 (I s.2.1) (upd 0 (Sl.v s.1) (σ))))))) (fun (s : Sl × Int × Int × Int × Int × Bool) w => f208_k2 R ag1 ag3 s.1 s.2.1 s.2.2.1 s.2.2.2.1 s.2.2.2.2.1 s.2.2.2.2.2 w) ?_ ?_
  ·rintro ⟨data0, a1, b2, i6, j7, t30⟩ σ w H
   replace H : f208_k2 R ag1 ag3 data0 a1 b2 i6 j7 t30 w := H
   try dsimp only
   unfold f208_k2 at H
   refine r_condB (b := t30) rfl H ?_ ?_
   ·clear H; intro hb5 H
    refine r_skip ?_
    refine sb ?_
    refine r_draw #[[], [], [], [], [3], [], [], [6], [5, 6, 7], [5, 6, 7, 8], [], [], [10, 11], [10, 11, 12], [0, 1, 5, 6, 7, 8, 9, 10, 11, 12, 13], [0, 1, 5, 6, 7, 8, 9, 10, 11, 12, 13, 14], [0, 1, 2, 3, 4, 5, 6, 7, 8, 9, 10, 11, 12, 13, 14, 15], [0, 1, 2, 3, 4, 5, 6, 7, 8, 9, 10, 11, 12, 13, 14, 15, 16]] 18 rfl rfl ?_
    refine am 0 (Sl.v data0) rfl rfl rfl ?_
    refine am 1 (I j7) rfl rfl rfl ?_
    refine am 2 (Sl.v data0) rfl rfl rfl ?_
    refine am 3 (I j7) rfl rfl rfl ?_
    refine ap 4 _ rfl rfl (p_sub rfl rfl rfl) ?_
    refine am 5 (Sl.v data0) rfl rfl rfl ?_
    refine am 6 (I j7) rfl rfl rfl ?_
    refine ap 7 _ rfl rfl (p_sub rfl rfl rfl) ?_
    obtain ⟨p_1, hap_1, hlp_1, hup_1, H⟩ := H
    refine ap 8 _ rfl rfl (p_indexAddr (s := data0) (ad := p_1) (size := 1) rfl u71 Try.ti9 rfl rfl hap_1 hlp_1 hup_1) ?_
    obtain ⟨adv_2, v_2, hev_2, hcv_2, H⟩ := H
    refine ar 9 (.string v_2) rfl rfl (wo rfl) rfl u9 rfl rfl hev_2 hcv_2 ?_
    refine am 10 (Sl.v data0) rfl rfl rfl ?_
    refine am 11 (I j7) rfl rfl rfl ?_
    obtain ⟨p_3, hap_3, hlp_3, hup_3, H⟩ := H
    refine ap 12 _ rfl rfl (p_indexAddr (s := data0) (ad := p_3) (size := 1) rfl u71 Try.ti9 rfl rfl hap_3 hlp_3 hup_3) ?_
    obtain ⟨adv_4, v_4, hev_4, hcv_4, H⟩ := H
    refine ar 13 (.string v_4) rfl rfl (wo rfl) rfl u9 rfl rfl hev_4 hcv_4 ?_
    obtain ⟨p_5, hap_5, hlp_5, hup_5, H⟩ := H
    refine ap 14 _ rfl rfl (p_indexAddr (s := data0) (ad := p_5) (size := 1) rfl u71 Try.ti9 rfl rfl hap_5 hlp_5 hup_5) ?_
    refine an 15 rfl rfl rfl (wo rfl) (e_store rfl Try.ti9 rfl rfl rfl H) fun _ w_2 H => ?_
    obtain ⟨p_6, hap_6, hlp_6, hup_6, H⟩ := H
    refine ap 16 _ rfl rfl (p_indexAddr (s := data0) (ad := p_6) (size := 1) rfl u71 Try.ti9 rfl rfl hap_6 hlp_6 hup_6) ?_
    refine an 17 rfl rfl rfl (wo rfl) (e_store rfl Try.ti9 rfl rfl rfl H) fun _ w_3 H => ?_
    refine ax ?_
    refine r_inBlock ?_
    refine r_region ?_
    refine xm (I j7) rfl rfl ?_
    refine xp _ rfl (p_sub rfl rfl rfl) ?_
    refine xs (I (W (j7 - 1))) rfl rfl ?_
    refine xe ?_
    refine ru4 0 (Sl.v data0) 1 (I a1) 2 (I b2) 6 (I i6) rfl rfl rfl rfl ?_
    refine ru 7 (I (W (j7 - 1))) rfl ?_
    exact hag3 (data0, a1, b2, i6, (W (j7 - 1))) _ _ H
   ·clear H; intro hb5 H
    refine r_exit rfl ?_
    refine r_inBlock ?_
    refine r_region ?_
    refine xm (I i6) rfl rfl ?_
    refine xp _ rfl (p_add rfl rfl rfl) ?_
    refine xs (I (W (i6 + 1))) rfl rfl ?_
    refine xe ?_
    refine ru4 0 (Sl.v data0) 1 (I a1) 2 (I b2) 6 (I (W (i6 + 1))) rfl rfl rfl rfl ?_
    exact hag1 (data0, a1, b2, (W (i6 + 1))) _ _ H
  ·intro J4
   refine r_draw #[[], [], [0, 1], [0, 1, 2], [0, 1, 2, 3], [0, 1, 2, 3], [0, 1, 2, 3, 4, 5], [0, 1, 2, 3, 4, 5, 6], [0, 1, 2, 3], [0, 1, 2, 3], [0, 1, 2, 3, 9], [0, 1, 2, 3, 8, 9, 10], [0, 1, 2, 3, 8, 9, 10, 11], [0, 1, 2, 3, 4, 5, 6, 7, 8, 9, 10, 11, 12], [0, 1, 2, 3, 4, 5, 6, 7, 8, 9, 10, 11, 12, 13]] 15 rfl rfl ?_
   refine am 0 (I j7) rfl rfl rfl ?_
   refine am 1 (I a1) rfl rfl rfl ?_
   refine ap 2 _ rfl rfl (p_gt rfl rfl rfl) ?_
   refine am 3 (.bool (decide (a1 < j7))) rfl rfl rfl ?_
   refine ifB_cases H ?_ ?_
   ·clear H; intro hb6 H
    refine ay 4 (Sl.v data0) rfl rfl (wy 19 rfl rfl rfl hb6) (p_move rfl rfl) ?_
    refine ay 5 (I j7) rfl rfl (wy 19 rfl rfl rfl hb6) (p_move rfl rfl) ?_
    obtain ⟨p_7, hap_7, hlp_7, hup_7, H⟩ := H
    refine ay 6 (.pointer (some (p_7.add (j7.toNat * 1)))) rfl rfl (wy 19 rfl rfl rfl hb6) (p_indexAddr (s := data0) (ad := p_7) (size := 1) rfl u71 Try.ti9 rfl rfl hap_7 hlp_7 hup_7) ?_
    obtain ⟨adv_8, v_8, hev_8, hcv_8, H⟩ := H
    refine ar 7 (.string v_8) rfl rfl (wy 19 rfl rfl rfl hb6) rfl u9 rfl rfl hev_8 hcv_8 ?_
    refine ay 8 (Sl.v data0) rfl rfl (wy 19 rfl rfl rfl hb6) (p_move rfl rfl) ?_
    refine ay 9 (I j7) rfl rfl (wy 19 rfl rfl rfl hb6) (p_move rfl rfl) ?_
    refine ay 10 (I (W (j7 - 1))) rfl rfl (wy 19 rfl rfl rfl hb6) (p_sub rfl rfl rfl) ?_
    obtain ⟨p_9, hap_9, hlp_9, hup_9, H⟩ := H
    refine ay 11 (.pointer (some (p_9.add ((W (j7 - 1)).toNat * 1)))) rfl rfl (wy 19 rfl rfl rfl hb6) (p_indexAddr (s := data0) (ad := p_9) (size := 1) rfl u71 Try.ti9 rfl rfl hap_9 hlp_9 hup_9) ?_
    obtain ⟨adv_10, v_10, hev_10, hcv_10, H⟩ := H
    refine ar 12 (.string v_10) rfl rfl (wy 19 rfl rfl rfl hb6) rfl u9 rfl rfl hev_10 hcv_10 ?_
    refine ae 13 [] rfl rfl rfl (wy 19 rfl rfl rfl hb6) (e_call (fn := Try.f214) H rfl rfl Try.func214 rfl rfl rfl) ?_
    rintro _ w_5 ⟨v_12, rfl, H⟩
    refine ⟨AllHeld.nil, ?_⟩
    refine ap 14 (.bool v_12) rfl rfl (p_pickT rfl rfl hb6 rfl) ?_
    refine ax ?_
    refine ru4 0 (Sl.v data0) 1 (I a1) 2 (I b2) 6 (I i6) rfl rfl rfl rfl ?_
    refine ru2 7 (I j7) 30 (.bool v_12) rfl rfl ?_
    exact J4 (data0, a1, b2, i6, j7, v_12) _ _ H
   ·clear H; intro hb6 H
    refine ak 4 rfl rfl (wn 19 rfl rfl rfl hb6) ?_
    refine ak 5 rfl rfl (wn 19 rfl rfl rfl hb6) ?_
    refine ak 6 rfl rfl (wn 19 rfl rfl rfl hb6) ?_
    refine ak 7 rfl rfl (wn 19 rfl rfl rfl hb6) ?_
    refine ak 8 rfl rfl (wn 19 rfl rfl rfl hb6) ?_
    refine ak 9 rfl rfl (wn 19 rfl rfl rfl hb6) ?_
    refine ak 10 rfl rfl (wn 19 rfl rfl rfl hb6) ?_
    refine ak 11 rfl rfl (wn 19 rfl rfl rfl hb6) ?_
    refine ak 12 rfl rfl (wn 19 rfl rfl rfl hb6) ?_
    refine ak 13 rfl rfl (wn 19 rfl rfl rfl hb6) ?_
    refine ap 14 (.bool false) rfl rfl (p_pickF rfl rfl hb6 rfl) ?_
    refine ax ?_
    refine ru4 0 (Sl.v data0) 1 (I a1) 2 (I b2) 6 (I i6) rfl rfl rfl rfl ?_
    refine ru2 7 (I j7) 30 (.bool false) rfl rfl ?_
    exact J4 (data0, a1, b2, i6, j7, false) _ _ H
 ·clear H; intro hb2 H
  refine r_exit rfl ?_
  exact r_end (fn := Try.f208) Try.func208 (res_0 rfl ) H

/-! 209 slices.heapSortOrdered[string] -/
def f209_b1 (R : Value → World → Prop) (ag1 : (Sl × Int × Int × Int × Int) → World → Prop) (ag3 : (Sl × Int × Int × Int) → World → Prop) (data0 : Sl) (first6 : Int) (lo7 : Int) (i10 : Int) (w : World) : Prop :=
 IfB (decide (0 ≤ i10)) (
  Ix data0 (IntKind.i64.wrap (first6 + i10)) fun p_2 =>
  Ld Value.string (some (p_2.add ((IntKind.i64.wrap (first6 + i10)).toNat * 1))) (World.drew w) fun v_3 =>
  Ix data0 first6 fun p_4 =>
  Ld Value.string (some (p_4.add (first6.toNat * 1))) (World.drew w) fun v_5 =>
  Ix data0 first6 fun p_6 =>
  St (some (p_6.add (first6.toNat * 1))) (.string v_3) (World.drew w) fun w_3 =>
  Ix data0 (IntKind.i64.wrap (first6 + i10)) fun p_7 =>
  St (some (p_7.add ((IntKind.i64.wrap (first6 + i10)).toNat * 1))) (.string v_5) w_3 fun w_4 =>
  CallF Try.prog 241 #[(Sl.v data0), (.int .i64 lo7), (.int .i64 i10), (.int .i64 first6)] w_4 fun _ w_5 =>
  ag3 (data0, first6, lo7, (IntKind.i64.wrap (i10 - 1))) w_5) (
  R (.tuple #[]) w)
def f209_b0 (R : Value → World → Prop) (ag1 : (Sl × Int × Int × Int × Int) → World → Prop) (data0 : Sl) (first6 : Int) (lo7 : Int) (hi8 : Int) (i9 : Int) (w : World) : Prop :=
 IfB (decide (0 ≤ i9)) (
  CallF Try.prog 241 #[(Sl.v data0), (.int .i64 i9), (.int .i64 hi8), (.int .i64 first6)] w fun _ w_1 =>
  ag1 (data0, first6, lo7, hi8, (IntKind.i64.wrap (i9 - 1))) w_1) (
  Lp (fun ag (s : Sl × Int × Int × Int) w => f209_b1 R ag1 ag s.1 s.2.1 s.2.2.1 s.2.2.2 w) (data0, first6, lo7, (IntKind.i64.wrap (hi8 - 1))) w)
def f209 (R : Value → World → Prop) (data0 : Sl) (a1 : Int) (b2 : Int) (w : World) : Prop :=
 Lp (fun ag (s : Sl × Int × Int × Int × Int) w => f209_b0 R ag s.1 s.2.1 s.2.2.1 s.2.2.2.1 s.2.2.2.2 w) (data0, a1, 0, (IntKind.i64.wrap (b2 - a1)), (IntKind.i64.wrap (Int.tdiv (IntKind.i64.wrap ((IntKind.i64.wrap (b2 - a1)) - 1)) 2))) w
theorem f209_ok (R : Value → World → Prop) (data0 : Sl) (a1 : Int) (b2 : Int) (w : World) (H : f209 R data0 a1 b2 w) : CallF Try.prog 209 #[(Sl.v data0), (.int .i64 a1), (.int .i64 b2)] w R := by
 refine calls_of_runs (fn := Try.f209) Try.func209 rfl (Nat.le_of_ble_eq_true rfl) ?_
 show Runs _ _ 56 _ _ _ _
 unfold f209 at H
 refine ru3 0 (Sl.v data0) 1 (I a1) 2 (I b2) rfl rfl rfl ?_
 refine sr ?_
 refine xm (I a1) rfl rfl ?_
 refine xs (I a1) rfl rfl ?_
 refine xe ?_
 refine sr ?_
 refine xs (I 0) rfl rfl ?_
 refine xe ?_
 refine sr ?_
 refine xm (I b2) rfl rfl ?_
 refine xm (I a1) rfl rfl ?_
 refine xp _ rfl (p_sub rfl rfl rfl) ?_
 refine xs (I (W (b2 - a1))) rfl rfl ?_
 refine xe ?_
 refine r_seq ?_
 refine sr ?_
 refine xm (I (W (b2 - a1))) rfl rfl ?_
 refine xp _ rfl (p_sub rfl rfl rfl) ?_
 refine xp (I (W (Int.tdiv (W ((W (b2 - a1)) - 1)) 2))) rfl (p_quo rfl rfl rfl (by decide)) ?_
 refine xs (I (W (Int.tdiv (W ((W (b2 - a1)) - 1)) 2))) rfl rfl ?_
 refine xe ?_
 refine r_block ?_
 refine ru4 0 (Sl.v data0) 6 (I a1) 7 (I 0) 8 (I (W (b2 - a1))) rfl rfl rfl rfl ?_
 refine ru 9 (I (W (Int.tdiv (W ((W (b2 - a1)) - 1)) 2))) rfl ?_
 refine r_loopJ (fun (s : Sl × Int × Int × Int × Int) σ => upd 9 (I s.2.2.2.2) (upd 8 (I s.2.2.2.1) (upd 7 (I s.2.2.1) (upd 6 (I s.2.1) (upd 0 (Sl.v s.1) (σ)))))) (s := (data0, a1, 0, (W (b2 - a1)), (W (Int.tdiv (W ((W (b2 - a1)) - 1)) 2)))) H ?_
 clear H
 rintro ag1 ⟨data0, first6, lo7, hi8, i9⟩ σ w H hag1
 replace H : f209_b0 R ag1 data0 first6 lo7 hi8 i9 w := H
 try dsimp only
 unfold f209_b0 at H
 refine r_seq ?_
 refine sr ?_
 refine xm (I i9) rfl rfl ?_
 refine xp _ rfl (p_ge rfl rfl rfl) ?_
 refine xe ?_
 refine r_condB (b := (decide (0 ≤ i9))) rfl H ?_ ?_
 ·clear H; intro hb2 H
  refine r_skip ?_
  refine sb ?_
  refine r_region ?_
  refine xm (Sl.v data0) rfl rfl ?_
  refine xm (I i9) rfl rfl ?_
  refine xm (I hi8) rfl rfl ?_
  refine xm (I first6) rfl rfl ?_
  refine xo_eff rfl (wo rfl) (e_call (fn := Try.f241) H rfl rfl Try.func241 rfl rfl rfl) ?_
  intro _ w_1 H
  refine xe ?_
  refine r_inBlock ?_
  refine r_region ?_
  refine xm (I i9) rfl rfl ?_
  refine xp _ rfl (p_sub rfl rfl rfl) ?_
  refine xs (I (W (i9 - 1))) rfl rfl ?_
  refine xe ?_
  refine ru4 0 (Sl.v data0) 6 (I first6) 7 (I lo7) 8 (I hi8) rfl rfl rfl rfl ?_
  refine ru 9 (I (W (i9 - 1))) rfl ?_
  exact hag1 (data0, first6, lo7, hi8, (W (i9 - 1))) _ _ H
 ·clear H; intro hb2 H
  refine r_exit rfl ?_
  refine sr ?_
  refine xm (I hi8) rfl rfl ?_
  refine xp _ rfl (p_sub rfl rfl rfl) ?_
  refine xs (I (W (hi8 - 1))) rfl rfl ?_
  refine xe ?_
  refine r_block ?_
  refine ru4 0 (Sl.v data0) 6 (I first6) 7 (I lo7) 10 (I (W (hi8 - 1))) rfl rfl rfl rfl ?_
  refine r_loopJ (fun (s : Sl × Int × Int × Int) σ => upd 10 (I s.2.2.2) (upd 7 (I s.2.2.1) (upd 6 (I s.2.1) (upd 0 (Sl.v s.1) (σ))))) (s := (data0, first6, lo7, (W (hi8 - 1)))) H ?_
  clear H
  rintro ag3 ⟨data0, first6, lo7, i10⟩ σ w H hag3
  replace H : f209_b1 R ag1 ag3 data0 first6 lo7 i10 w := H
  try dsimp only
  unfold f209_b1 at H
  refine r_seq ?_
  refine sr ?_
  refine xm (I i10) rfl rfl ?_
  refine xp _ rfl (p_ge rfl rfl rfl) ?_
  refine xe ?_
  refine r_condB (b := (decide (0 ≤ i10))) rfl H ?_ ?_
  ·clear H; intro hb4 H
   refine r_skip ?_
   refine sb ?_
   refine r_seq ?_
   refine r_draw #[[], [], [], [], [], [3, 4], [], [], [], [7, 8], [6, 7, 8, 9], [6, 7, 8, 9, 10], [], [], [12, 13], [12, 13, 14], [0, 1, 6, 7, 8, 9, 10, 11, 12, 13, 14, 15], [0, 1, 6, 7, 8, 9, 10, 11, 12, 13, 14, 15, 16], [0, 1, 2, 3, 4, 5, 6, 7, 8, 9, 10, 11, 12, 13, 14, 15, 16, 17], [0, 1, 2, 3, 4, 5, 6, 7, 8, 9, 10, 11, 12, 13, 14, 15, 16, 17, 18]] 20 rfl rfl ?_
   refine am 0 (Sl.v data0) rfl rfl rfl ?_
   refine am 1 (I first6) rfl rfl rfl ?_
   refine am 2 (Sl.v data0) rfl rfl rfl ?_
   refine am 3 (I first6) rfl rfl rfl ?_
   refine am 4 (I i10) rfl rfl rfl ?_
   refine ap 5 _ rfl rfl (p_add rfl rfl rfl) ?_
   refine am 6 (Sl.v data0) rfl rfl rfl ?_
   refine am 7 (I first6) rfl rfl rfl ?_
   refine am 8 (I i10) rfl rfl rfl ?_
   refine ap 9 _ rfl rfl (p_add rfl rfl rfl) ?_
   obtain ⟨p_2, hap_2, hlp_2, hup_2, H⟩ := H
   refine ap 10 _ rfl rfl (p_indexAddr (s := data0) (ad := p_2) (size := 1) rfl u71 Try.ti9 rfl rfl hap_2 hlp_2 hup_2) ?_
   obtain ⟨adv_3, v_3, hev_3, hcv_3, H⟩ := H
   refine ar 11 (.string v_3) rfl rfl (wo rfl) rfl u9 rfl rfl hev_3 hcv_3 ?_
   refine am 12 (Sl.v data0) rfl rfl rfl ?_
   refine am 13 (I first6) rfl rfl rfl ?_
   obtain ⟨p_4, hap_4, hlp_4, hup_4, H⟩ := H
   refine ap 14 _ rfl rfl (p_indexAddr (s := data0) (ad := p_4) (size := 1) rfl u71 Try.ti9 rfl rfl hap_4 hlp_4 hup_4) ?_
   obtain ⟨adv_5, v_5, hev_5, hcv_5, H⟩ := H
   refine ar 15 (.string v_5) rfl rfl (wo rfl) rfl u9 rfl rfl hev_5 hcv_5 ?_
   obtain ⟨p_6, hap_6, hlp_6, hup_6, H⟩ := H
   refine ap 16 _ rfl rfl (p_indexAddr (s := data0) (ad := p_6) (size := 1) rfl u71 Try.ti9 rfl rfl hap_6 hlp_6 hup_6) ?_
   refine an 17 rfl rfl rfl (wo rfl) (e_store rfl Try.ti9 rfl rfl rfl H) fun _ w_3 H => ?_
   obtain ⟨p_7, hap_7, hlp_7, hup_7, H⟩ := H
   refine ap 18 _ rfl rfl (p_indexAddr (s := data0) (ad := p_7) (size := 1) rfl u71 Try.ti9 rfl rfl hap_7 hlp_7 hup_7) ?_
   refine an 19 rfl rfl rfl (wo rfl) (e_store rfl Try.ti9 rfl rfl rfl H) fun _ w_4 H => ?_
   refine ax ?_
   refine r_region ?_
   refine xm (Sl.v data0) rfl rfl ?_
   refine xm (I lo7) rfl rfl ?_
   refine xm (I i10) rfl rfl ?_
   refine xm (I first6) rfl rfl ?_
   refine xo_eff rfl (wo rfl) (e_call (fn := Try.f241) H rfl rfl Try.func241 rfl rfl rfl) ?_
   intro _ w_5 H
   refine xe ?_
   refine r_inBlock ?_
   refine r_region ?_
   refine xm (I i10) rfl rfl ?_
   refine xp _ rfl (p_sub rfl rfl rfl) ?_
   refine xs (I (W (i10 - 1))) rfl rfl ?_
   refine xe ?_
   refine ru4 0 (Sl.v data0) 6 (I first6) 7 (I lo7) 10 (I (W (i10 - 1))) rfl rfl rfl rfl ?_
   exact hag3 (data0, first6, lo7, (W (i10 - 1))) _ _ H
  ·clear H; intro hb4 H
   refine r_exit rfl ?_
   exact r_end (fn := Try.f209) Try.func209 (res_0 rfl ) H

/-! 210 slices.breakPatternsOrdered[string] -/
def f210_k1 (R : Value → World → Prop) (ag2 : (Sl × Int × Int × Option Addr × Int × Int) → World → Prop) (data0 : Sl) (a1 : Int) (length6 : Int) (random7 : Option Addr) (modulus8 : Int) (idx9 : Int) (other10 : Int) (w : World) : Prop :=
 Ix data0 (IntKind.i64.wrap (a1 + other10)) fun p_6 =>
 Ld Value.string (some (p_6.add ((IntKind.i64.wrap (a1 + other10)).toNat * 1))) (World.drew w) fun v_7 =>
 Ix data0 idx9 fun p_8 =>
 Ld Value.string (some (p_8.add (idx9.toNat * 1))) (World.drew w) fun v_9 =>
 Ix data0 idx9 fun p_10 =>
 St (some (p_10.add (idx9.toNat * 1))) (.string v_7) (World.drew w) fun w_6 =>
 Ix data0 (IntKind.i64.wrap (a1 + other10)) fun p_11 =>
 St (some (p_11.add ((IntKind.i64.wrap (a1 + other10)).toNat * 1))) (.string v_9) w_6 fun w_7 =>
 ag2 (data0, a1, length6, random7, modulus8, (IntKind.i64.wrap (idx9 + 1))) w_7
def f210_b0 (R : Value → World → Prop) (ag2 : (Sl × Int × Int × Option Addr × Int × Int) → World → Prop) (data0 : Sl) (a1 : Int) (length6 : Int) (random7 : Option Addr) (modulus8 : Int) (idx9 : Int) (w : World) : Prop :=
 IfB (decide (idx9 ≤ (IntKind.i64.wrap ((IntKind.i64.wrap (a1 + (IntKind.i64.wrap ((IntKind.i64.wrap (Int.tdiv length6 4)) * 2)))) + 1)))) (
  CallF Try.prog 243 #[(.pointer random7)] w fun u_4 w_4 => As (Value.int .u64) u_4 fun v_5 =>
  IfB (decide (length6 ≤ (IntKind.i64.wrap (andK .u64 v_5 (IntKind.u64.wrap (modulus8 - 1)))))) (
   f210_k1 R ag2 data0 a1 length6 random7 modulus8 idx9 (IntKind.i64.wrap ((IntKind.i64.wrap (andK .u64 v_5 (IntKind.u64.wrap (modulus8 - 1)))) - length6)) w_4) (
   f210_k1 R ag2 data0 a1 length6 random7 modulus8 idx9 (IntKind.i64.wrap (andK .u64 v_5 (IntKind.u64.wrap (modulus8 - 1)))) w_4)) (
  R (.tuple #[]) w)
def f210 (R : Value → World → Prop) (data0 : Sl) (a1 : Int) (b2 : Int) (w : World) : Prop :=
 IfB (decide (8 ≤ (IntKind.i64.wrap (b2 - a1)))) (
  New #[(.int .u64 0)] 336 w fun a_1 w_1 =>
  St (some a_1) (.int .u64 (IntKind.u64.wrap (IntKind.i64.wrap (b2 - a1)))) w_1 fun w_2 =>
  CallF Try.prog 242 #[(.int .i64 (IntKind.i64.wrap (b2 - a1)))] w_2 fun u_2 w_3 => As (Value.int .u64) u_2 fun v_3 =>
  Lp (fun ag (s : Sl × Int × Int × Option Addr × Int × Int) w => f210_b0 R ag s.1 s.2.1 s.2.2.1 s.2.2.2.1 s.2.2.2.2.1 s.2.2.2.2.2 w) (data0, a1, (IntKind.i64.wrap (b2 - a1)), (some a_1), v_3, (IntKind.i64.wrap ((IntKind.i64.wrap (a1 + (IntKind.i64.wrap ((IntKind.i64.wrap (Int.tdiv (IntKind.i64.wrap (b2 - a1)) 4)) * 2)))) - 1))) w_3) (
  R (.tuple #[]) w)
theorem f210_ok (R : Value → World → Prop) (data0 : Sl) (a1 : Int) (b2 : Int) (w : World) (H : f210 R data0 a1 b2 w) : CallF Try.prog 210 #[(Sl.v data0), (.int .i64 a1), (.int .i64 b2)] w R := by
 refine calls_of_runs (fn := Try.f210) Try.func210 rfl (Nat.le_of_ble_eq_true rfl) ?_
 show Runs _ _ 65 _ _ _ _
 unfold f210 at H
 refine ru3 0 (Sl.v data0) 1 (I a1) 2 (I b2) rfl rfl rfl ?_
 refine sr ?_
 refine xm (I b2) rfl rfl ?_
 refine xm (I a1) rfl rfl ?_
 refine xp _ rfl (p_sub rfl rfl rfl) ?_
 refine xs (I (W (b2 - a1))) rfl rfl ?_
 refine xe ?_
 refine sr ?_
 refine xm (I (W (b2 - a1))) rfl rfl ?_
 refine xp _ rfl (p_ge rfl rfl rfl) ?_
 refine xe ?_
 refine r_condB (b := (decide (8 ≤ (W (b2 - a1))))) rfl H ?_ ?_
 ·clear H; intro hb1 H
  refine sr ?_
  refine xm (I (W (b2 - a1))) rfl rfl ?_
  refine xp (.int .u64 (IntKind.u64.wrap (W (b2 - a1)))) rfl (p_conv rfl u3 u336 rfl) ?_
  refine xo_eff rfl (wo rfl) (e_alloc rfl Try.ti336 H) ?_
  rintro _ w_1 ⟨a_1, rfl, H⟩
  refine xo_effN rfl (wo rfl) (e_store rfl Try.ti336 rfl rfl rfl H) ?_
  intro _ w_2 H
  refine xe ?_
  refine sr ?_
  refine xm (I (W (b2 - a1))) rfl rfl ?_
  refine xo_eff rfl (wo rfl) (e_call (fn := Try.f242) H rfl rfl Try.func242 rfl rfl rfl) ?_
  rintro _ w_3 ⟨v_3, rfl, H⟩
  refine xs (.int .u64 v_3) rfl rfl ?_
  refine xe ?_
  refine sr ?_
  refine xm (I a1) rfl rfl ?_
  refine xm (I (W (b2 - a1))) rfl rfl ?_
  refine xp (I (W (Int.tdiv (W (b2 - a1)) 4))) rfl (p_quo rfl rfl rfl (by decide)) ?_
  refine xp _ rfl (p_mul rfl rfl rfl) ?_
  refine xp _ rfl (p_add rfl rfl rfl) ?_
  refine xp _ rfl (p_sub rfl rfl rfl) ?_
  refine xs (I (W ((W (a1 + (W ((W (Int.tdiv (W (b2 - a1)) 4)) * 2)))) - 1))) rfl rfl ?_
  refine xe ?_
  refine r_block ?_
  refine ru4 0 (Sl.v data0) 1 (I a1) 6 (I (W (b2 - a1))) 7 (.pointer (some a_1)) rfl rfl rfl rfl ?_
  refine ru2 8 (.int .u64 v_3) 9 (I (W ((W (a1 + (W ((W (Int.tdiv (W (b2 - a1)) 4)) * 2)))) - 1))) rfl rfl ?_
  refine r_loopJ (fun (s : Sl × Int × Int × Option Addr × Int × Int) σ => upd 9 (I s.2.2.2.2.2) (upd 8 (.int .u64 s.2.2.2.2.1) (upd 7 (.pointer s.2.2.2.1) (upd 6 (I s.2.2.1) (upd 1 (I s.2.1) (upd 0 (Sl.v s.1) (σ))))))) (s := (data0, a1, (W (b2 - a1)), (some a_1), v_3, (W ((W (a1 + (W ((W (Int.tdiv (W (b2 - a1)) 4)) * 2)))) - 1)))) H ?_
  clear H
  rintro ag2 ⟨data0, a1, length6, random7, modulus8, idx9⟩ σ w H hag2
  replace H : f210_b0 R ag2 data0 a1 length6 random7 modulus8 idx9 w := H
  try dsimp only
  unfold f210_b0 at H
  refine r_seq ?_
  refine sr ?_
  refine xm (I idx9) rfl rfl ?_
  refine xm (I a1) rfl rfl ?_
  refine xm (I length6) rfl rfl ?_
  refine xp (I (W (Int.tdiv length6 4))) rfl (p_quo rfl rfl rfl (by decide)) ?_
  refine xp _ rfl (p_mul rfl rfl rfl) ?_
  refine xp _ rfl (p_add rfl rfl rfl) ?_
  refine xp _ rfl (p_add rfl rfl rfl) ?_
  refine xp _ rfl (p_le rfl rfl rfl) ?_
  refine xe ?_
  refine r_condB (b := (decide (idx9 ≤ (W ((W (a1 + (W ((W (Int.tdiv length6 4)) * 2)))) + 1))))) rfl H ?_ ?_
  ·clear H; intro hb3 H
   refine r_skip ?_
   refine sb ?_
   refine sr ?_
   refine xo_eff rfl (wo rfl) (e_call (fn := Try.f243) H rfl rfl Try.func243 rfl rfl rfl) ?_
   rintro _ w_4 ⟨v_5, rfl, H⟩
   refine xm (.int .u64 modulus8) rfl rfl ?_
   refine xp _ rfl (p_sub rfl rfl rfl) ?_
   refine xp (.int .u64 (andK .u64 v_5 (IntKind.u64.wrap (modulus8 - 1)))) rfl (p_and rfl rfl rfl) ?_
   refine xp (I (W (andK .u64 v_5 (IntKind.u64.wrap (modulus8 - 1))))) rfl (p_conv rfl u234 u3 rfl) ?_
   refine xs (I (W (andK .u64 v_5 (IntKind.u64.wrap (modulus8 - 1))))) rfl rfl ?_
   refine xe ?_
   refine r_seqJ (fun (s : Sl × Int × Int × Option Addr × Int × Int × Int) σ => upd 10 (I s.2.2.2.2.2.2) (upd 9 (I s.2.2.2.2.2.1) (upd 8 (.int .u64 s.2.2.2.2.1) (upd 7 (.pointer s.2.2.2.1) (upd 6 (I s.2.2.1) (upd 1 (I s.2.1) (upd 0 (Sl.v s.1) (σ)))))))) (fun (s : Sl × Int × Int × Option Addr × Int × Int × Int) w => f210_k1 R ag2 s.1 s.2.1 s.2.2.1 s.2.2.2.1 s.2.2.2.2.1 s.2.2.2.2.2.1 s.2.2.2.2.2.2 w) ?_ ?_
   ·rintro ⟨data0, a1, length6, random7, modulus8, idx9, other10⟩ σ w H
    replace H : f210_k1 R ag2 data0 a1 length6 random7 modulus8 idx9 other10 w := H
    try dsimp only
    unfold f210_k1 at H
    refine r_draw #[[], [], [], [], [], [3, 4], [], [], [], [7, 8], [6, 7, 8, 9], [6, 7, 8, 9, 10], [], [], [12, 13], [12, 13, 14], [0, 1, 6, 7, 8, 9, 10, 11, 12, 13, 14, 15], [0, 1, 6, 7, 8, 9, 10, 11, 12, 13, 14, 15, 16], [0, 1, 2, 3, 4, 5, 6, 7, 8, 9, 10, 11, 12, 13, 14, 15, 16, 17], [0, 1, 2, 3, 4, 5, 6, 7, 8, 9, 10, 11, 12, 13, 14, 15, 16, 17, 18]] 20 rfl rfl ?_
    refine am 0 (Sl.v data0) rfl rfl rfl ?_
    refine am 1 (I idx9) rfl rfl rfl ?_
    refine am 2 (Sl.v data0) rfl rfl rfl ?_
    refine am 3 (I a1) rfl rfl rfl ?_
    refine am 4 (I other10) rfl rfl rfl ?_
    refine ap 5 _ rfl rfl (p_add rfl rfl rfl) ?_
    refine am 6 (Sl.v data0) rfl rfl rfl ?_
    refine am 7 (I a1) rfl rfl rfl ?_
    refine am 8 (I other10) rfl rfl rfl ?_
    refine ap 9 _ rfl rfl (p_add rfl rfl rfl) ?_
    obtain ⟨p_6, hap_6, hlp_6, hup_6, H⟩ := H
    refine ap 10 _ rfl rfl (p_indexAddr (s := data0) (ad := p_6) (size := 1) rfl u71 Try.ti9 rfl rfl hap_6 hlp_6 hup_6) ?_
    obtain ⟨adv_7, v_7, hev_7, hcv_7, H⟩ := H
    refine ar 11 (.string v_7) rfl rfl (wo rfl) rfl u9 rfl rfl hev_7 hcv_7 ?_
    refine am 12 (Sl.v data0) rfl rfl rfl ?_
    refine am 13 (I idx9) rfl rfl rfl ?_
    obtain ⟨p_8, hap_8, hlp_8, hup_8, H⟩ := H
    refine ap 14 _ rfl rfl (p_indexAddr (s := data0) (ad := p_8) (size := 1) rfl u71 Try.ti9 rfl rfl hap_8 hlp_8 hup_8) ?_
    obtain ⟨adv_9, v_9, hev_9, hcv_9, H⟩ := H
    refine ar 15 (.string v_9) rfl rfl (wo rfl) rfl u9 rfl rfl hev_9 hcv_9 ?_
    obtain ⟨p_10, hap_10, hlp_10, hup_10, H⟩ := H
    refine ap 16 _ rfl rfl (p_indexAddr (s := data0) (ad := p_10) (size := 1) rfl u71 Try.ti9 rfl rfl hap_10 hlp_10 hup_10) ?_
    refine an 17 rfl rfl rfl (wo rfl) (e_store rfl Try.ti9 rfl rfl rfl H) fun _ w_6 H => ?_
    obtain ⟨p_11, hap_11, hlp_11, hup_11, H⟩ := H
    refine ap 18 _ rfl rfl (p_indexAddr (s := data0) (ad := p_11) (size := 1) rfl u71 Try.ti9 rfl rfl hap_11 hlp_11 hup_11) ?_
    refine an 19 rfl rfl rfl (wo rfl) (e_store rfl Try.ti9 rfl rfl rfl H) fun _ w_7 H => ?_
    refine ax ?_
    refine r_inBlock ?_
    refine r_region ?_
    refine xm (I idx9) rfl rfl ?_
    refine xp _ rfl (p_add rfl rfl rfl) ?_
    refine xs (I (W (idx9 + 1))) rfl rfl ?_
    refine xe ?_
    refine ru4 0 (Sl.v data0) 1 (I a1) 6 (I length6) 7 (.pointer random7) rfl rfl rfl rfl ?_
    refine ru2 8 (.int .u64 modulus8) 9 (I (W (idx9 + 1))) rfl rfl ?_
    exact hag2 (data0, a1, length6, random7, modulus8, (W (idx9 + 1))) _ _ H
   ·intro J4
    refine sr ?_
    refine xm (I (W (andK .u64 v_5 (IntKind.u64.wrap (modulus8 - 1))))) rfl rfl ?_
    refine xm (I length6) rfl rfl ?_
    refine xp _ rfl (p_ge rfl rfl rfl) ?_
    refine xe ?_
    refine r_condB (b := (decide (length6 ≤ (W (andK .u64 v_5 (IntKind.u64.wrap (modulus8 - 1))))))) rfl H ?_ ?_
    ·clear H; intro hb5 H
     refine r_region ?_
     refine xm (I (W (andK .u64 v_5 (IntKind.u64.wrap (modulus8 - 1))))) rfl rfl ?_
     refine xm (I length6) rfl rfl ?_
     refine xp _ rfl (p_sub rfl rfl rfl) ?_
     refine xs (I (W ((W (andK .u64 v_5 (IntKind.u64.wrap (modulus8 - 1)))) - length6))) rfl rfl ?_
     refine xe ?_
     refine ru4 0 (Sl.v data0) 1 (I a1) 6 (I length6) 7 (.pointer random7) rfl rfl rfl rfl ?_
     refine ru3 8 (.int .u64 modulus8) 9 (I idx9) 10 (I (W ((W (andK .u64 v_5 (IntKind.u64.wrap (modulus8 - 1)))) - length6))) rfl rfl rfl ?_
     exact J4 (data0, a1, length6, random7, modulus8, idx9, (W ((W (andK .u64 v_5 (IntKind.u64.wrap (modulus8 - 1)))) - length6))) _ _ H
    ·clear H; intro hb5 H
     refine r_skip ?_
     refine ru4 0 (Sl.v data0) 1 (I a1) 6 (I length6) 7 (.pointer random7) rfl rfl rfl rfl ?_
     refine ru3 8 (.int .u64 modulus8) 9 (I idx9) 10 (I (W (andK .u64 v_5 (IntKind.u64.wrap (modulus8 - 1))))) rfl rfl rfl ?_
     exact J4 (data0, a1, length6, random7, modulus8, idx9, (W (andK .u64 v_5 (IntKind.u64.wrap (modulus8 - 1))))) _ _ H
  ·clear H; intro hb3 H
   refine r_exit rfl ?_
   exact r_end (fn := Try.f210) Try.func210 (res_0 rfl ) H
 ·clear H; intro hb1 H
  refine r_skip ?_
  exact r_end (fn := Try.f210) Try.func210 (res_0 rfl ) H
end Go.Proofs
