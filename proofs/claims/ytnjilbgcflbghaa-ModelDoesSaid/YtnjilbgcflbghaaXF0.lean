/- Laid by program. -/
import Derived.Test.YtnjilbgcflbghaaXFT
set_option linter.all false
set_option linter.unusedVariables false
set_option linter.unusedSimpArgs false
set_option maxRecDepth 20000
set_option maxHeartbeats 4000000
namespace Go.Proofs
open Go Go.X
/-! 14 sporran/sporranlaw15.ModelDoes -/
def f14_k1 (R : Value → World → Prop) (ag3 : (Option Addr × Sl × Sl × Int × Int) → World → Prop) (m3 : Option Addr) (next7 : Sl) (t15 : Sl) (t16 : Int) (t17 : Int) (t64 : Bool) (w : World) : Prop :=
 IfB t64 (
  R (.bool false) w) (
  ag3 (m3, next7, t15, t16, (IntKind.i64.wrap (t17 + 1))) w)
def f14_b0 (R : Value → World → Prop) (ag3 : (Option Addr × Sl × Sl × Int × Int) → World → Prop) (m3 : Option Addr) (l4 : Sl) (t15 : Sl) (t16 : Int) (t17 : Int) (w : World) : Prop :=
 IfB (decide (t17 < t16)) (
  Ix t15 t17 fun p_8 =>
  LdN 53 (some (p_8.add (t17.toNat * 53))) w fun v_9 =>
  New Try.z67 67 w fun a_10 w_5 =>
  StN 53 (some a_10) v_9 w_5 fun w_6 =>
  LdN 53 (some a_10) w_6 fun v_11 =>
  CallF Try.prog 63 #[(Sl.v l4), (.agg v_11)] w_6 fun u_12 w_7 => AsT2 Sl.v Value.agg u_12 fun v_13 v_14 =>
  New Try.z73 73 w_7 fun a_15 w_8 =>
  StN 51 (some a_15) v_14 w_8 fun w_9 =>
  LdN 53 (some a_10) (World.drew w_9) fun v_16 =>
  LdNH 51 (some a_15) (World.drew w_9) fun adv_17 v_17 =>
  CallF Try.prog 37 #[(.pointer m3), (.agg v_16)] (World.drew w_9) fun u_18 w_11 => As Value.agg u_18 fun v_19 =>
  (Row w_11 adv_17 v_17) ∧
  CallF Try.prog 54 #[(.agg v_19), (.agg v_17)] w_11 fun u_20 w_12 => As Value.bool u_20 fun v_21 =>
  IfB (!v_21) (
   f14_k1 R ag3 m3 v_13 t15 t16 t17 true w_12) (
   CallF Try.prog 50 #[(.pointer m3)] w_12 fun u_22 w_13 => As Sl.v u_22 fun v_23 =>
   CallF Try.prog 52 #[(Sl.v v_23), (Sl.v v_13)] w_13 fun u_24 w_14 => As Value.bool u_24 fun v_25 =>
   IfB (!v_25) (
    f14_k1 R ag3 m3 v_13 t15 t16 t17 true w_14) (
    CallF Try.prog 64 #[(.pointer m3)] w_14 fun u_26 w_15 => As (Value.int .i64) u_26 fun v_27 =>
    CallF Try.prog 65 #[(Sl.v v_13)] w_15 fun u_28 w_16 => As Sl.v u_28 fun v_29 =>
    IfB (!decide (v_27 = (v_29.len : Int))) (
     f14_k1 R ag3 m3 v_13 t15 t16 t17 true w_16) (
     Ld (Value.int .i64) (some (a_10.add 0)) w_16 fun v_30 =>
     LdH (Value.int .i64) (some (a_10.add 0)) w_16 fun adv_31 v_31 =>
     CallF Try.prog 53 #[(.int .i64 v_30)] w_16 fun u_32 w_17 => As Value.bool u_32 fun v_33 =>
     ((w_17).cell? adv_31 = some (.int .i64 v_31)) ∧
     CallF Try.prog 66 #[(.int .i64 v_31)] w_17 fun u_34 w_18 => As Value.bool u_34 fun v_35 =>
     IfB (!(v_33 == v_35)) (
      f14_k1 R ag3 m3 v_13 t15 t16 t17 true w_18) (
      LdN 53 (some a_10) w_18 fun v_36 =>
      LdNH 53 (some a_10) w_18 fun adv_37 v_37 =>
      CallF Try.prog 62 #[(.agg v_36)] w_18 fun u_38 w_19 => As Sl.v u_38 fun v_39 =>
      (Row w_19 adv_37 v_37) ∧
      CallF Try.prog 67 #[(.agg v_37)] w_19 fun u_40 w_20 => As Sl.v u_40 fun v_41 =>
      CallF Try.prog 21 #[(Sl.v v_39), (Sl.v v_41)] w_20 fun u_42 w_21 => As Value.bool u_42 fun v_43 =>
      f14_k1 R ag3 m3 v_13 t15 t16 t17 (!v_43) w_21))))) (
  R (.bool true) w)
def f14 (R : Value → World → Prop) (ops0 : Sl) (w : World) : Prop :=
 CallF Try.prog 34 #[] w fun u_1 w_1 => As Value.bool u_1 fun v_2 =>
 IfB (!v_2) (
  R (.bool false) w_1) (
  CallF Try.prog 35 #[(Sl.v ops0)] w_1 fun u_3 w_2 => As Value.bool u_3 fun v_4 =>
  IfB v_4 (
   R (.bool true) w_2) (
   CallF Try.prog 36 #[] w_2 fun u_5 w_3 => As Value.pointer u_5 fun v_6 =>
   New #[] 104 w_3 fun a_7 w_4 =>
   Lp (fun ag (s : Option Addr × Sl × Sl × Int × Int) w => f14_b0 R ag s.1 s.2.1 s.2.2.1 s.2.2.2.1 s.2.2.2.2 w) (v_6, ⟨some a_7, 0, 0⟩, ops0, (ops0.len : Int), 0) w_4))
theorem f14_ok (R : Value → World → Prop) (ops0 : Sl) (w : World) (H : f14 R ops0 w) : CallF Try.prog 14 #[(Sl.v ops0)] w R := by
 refine calls_of_runs (fn := Try.f14) Try.func14 rfl (Nat.le_of_ble_eq_true rfl) ?_
 show Runs _ _ 67 _ _ _ _
 unfold f14 at H
 refine ru 0 (Sl.v ops0) rfl ?_
 refine sr ?_
 refine xs (.bool false) rfl rfl ?_
 refine xe ?_
 refine r_seq ?_
 refine sr ?_
 refine xo_eff rfl (wo rfl) (e_call (fn := Try.f34) H rfl rfl Try.func34 rfl rfl rfl) ?_
 rintro _ w_1 ⟨v_2, rfl, H⟩
 refine xp (.bool (!v_2)) rfl (p_not rfl rfl) ?_
 refine xe ?_
 refine r_condB (b := (!v_2)) rfl H ?_ ?_
 ·clear H; intro hb1 H
  refine sr ?_
  refine xs (.bool false) rfl rfl ?_
  refine xe ?_
  exact r_ret (fn := Try.f14) Try.func14 (res_1 rfl ⟨by decide, rfl⟩) H
 ·clear H; intro hb1 H
  refine r_skip ?_
  refine r_seq ?_
  refine sr ?_
  refine xm (Sl.v ops0) rfl rfl ?_
  refine xo_eff rfl (wo rfl) (e_call (fn := Try.f35) H rfl rfl Try.func35 rfl rfl rfl) ?_
  rintro _ w_2 ⟨v_4, rfl, H⟩
  refine xe ?_
  refine r_condB (b := v_4) rfl H ?_ ?_
  ·clear H; intro hb2 H
   refine sr ?_
   refine xs (.bool true) rfl rfl ?_
   refine xe ?_
   exact r_ret (fn := Try.f14) Try.func14 (res_1 rfl ⟨by decide, rfl⟩) H
  ·clear H; intro hb2 H
   refine r_skip ?_
   refine sr ?_
   refine xo_eff rfl (wo rfl) (e_call (fn := Try.f36) H rfl rfl Try.func36 rfl rfl rfl) ?_
   rintro _ w_3 ⟨v_6, rfl, H⟩
   refine xo_eff rfl (wo rfl) (e_buildSlice0 rfl u100 Try.ti104 H) ?_
   rintro _ w_4 ⟨a_7, rfl, H⟩
   refine xs (.pointer v_6) rfl rfl ?_
   refine xs (Sl.v ⟨some a_7, 0, 0⟩) rfl rfl ?_
   refine xe ?_
   refine r_seq ?_
   refine sr ?_
   refine xm (Sl.v ops0) rfl rfl ?_
   refine xp (I (ops0.len : Int)) rfl (p_len rfl u63 rfl) ?_
   refine xm (I 0) rfl rfl ?_
   refine xe ?_
   refine r_block ?_
   refine ru4 3 (.pointer v_6) 4 (Sl.v ⟨some a_7, 0, 0⟩) 15 (Sl.v ops0) 16 (I (ops0.len : Int)) rfl rfl rfl rfl ?_
   refine ru 17 (I 0) rfl ?_
   refine r_loopJ (fun (s : Option Addr × Sl × Sl × Int × Int) σ => upd 17 (I s.2.2.2.2) (upd 16 (I s.2.2.2.1) (upd 15 (Sl.v s.2.2.1) (upd 4 (Sl.v s.2.1) (upd 3 (.pointer s.1) (σ)))))) (s := (v_6, ⟨some a_7, 0, 0⟩, ops0, (ops0.len : Int), 0)) H ?_
   clear H
   rintro ag3 ⟨m3, l4, t15, t16, t17⟩ σ w H hag3
   replace H : f14_b0 R ag3 m3 l4 t15 t16 t17 w := H
   try dsimp only
   unfold f14_b0 at H
   refine sr ?_
   refine xp _ rfl (p_lt rfl rfl rfl) ?_
   refine xe ?_
   refine r_seq ?_
   refine r_condB (b := (decide (t17 < t16))) rfl H ?_ ?_
   ·clear H; intro hb4 H
    refine r_skip ?_
    refine sb ?_
    refine sr ?_
    obtain ⟨p_8, hap_8, hlp_8, hup_8, H⟩ := H
    refine xp _ rfl (p_indexAddr (s := t15) (ad := p_8) (size := 53) rfl u63 Try.ti67 rfl rfl hap_8 hlp_8 hup_8) ?_
    obtain ⟨adv_9, v_9, hev_9, hnv_9, hcv_9, H⟩ := H
    refine xo_read (v := (.agg v_9)) rfl (wo rfl) (rd_loadN (ad := adv_9) rfl u67 rfl Try.ti67 (by show Value.pointer _ = _; rw [hev_9]) hnv_9 hcv_9) ?_
    refine xo_eff rfl (wo rfl) (e_alloc rfl Try.ti67 H) ?_
    rintro _ w_5 ⟨a_10, rfl, H⟩
    refine xo_effN rfl (wo rfl) (e_storeN rfl Try.ti67 rfl rfl H) ?_
    intro _ w_6 H
    refine xe ?_
    refine sr ?_
    refine xm (Sl.v l4) rfl rfl ?_
    obtain ⟨adv_11, v_11, hev_11, hnv_11, hcv_11, H⟩ := H
    refine xo_read (v := (.agg v_11)) rfl (wo rfl) (rd_loadN (ad := adv_11) rfl u67 rfl Try.ti67 (by show Value.pointer _ = _; rw [hev_11]) hnv_11 hcv_11) ?_
    refine xo_eff rfl (wo rfl) (e_call (fn := Try.f63) H rfl rfl Try.func63 rfl rfl rfl) ?_
    rintro _ w_7 ⟨v_13, v_14, rfl, H⟩
    refine xm (.tuple #[(Sl.v v_13), (.agg v_14)]) rfl rfl ?_
    refine xp (Sl.v v_13) rfl (p_extract (vs := #[(Sl.v v_13), (.agg v_14)]) rfl rfl rfl) ?_
    refine xp (.agg v_14) rfl (p_extract (vs := #[(Sl.v v_13), (.agg v_14)]) rfl rfl rfl) ?_
    refine xo_eff rfl (wo rfl) (e_alloc rfl Try.ti73 H) ?_
    rintro _ w_8 ⟨a_15, rfl, H⟩
    refine xs (Sl.v v_13) rfl rfl ?_
    refine xo_effN rfl (wo rfl) (e_storeN rfl Try.ti73 rfl rfl H) ?_
    intro _ w_9 H
    refine xe ?_
    refine r_seq ?_
    refine r_seq ?_
    refine r_topJ (fun (s : Option Addr × Sl × Sl × Int × Int × Bool) σ => upd 64 (.bool s.2.2.2.2.2) (upd 17 (I s.2.2.2.2.1) (upd 16 (I s.2.2.2.1) (upd 15 (Sl.v s.2.2.1) (upd 7 (Sl.v s.2.1) (upd 3 (.pointer s.1) (σ))))))) (fun (s : Option Addr × Sl × Sl × Int × Int × Bool) w => f14_k1 R ag3 s.1 s.2.1 s.2.2.1 s.2.2.2.1 s.2.2.2.2.1 s.2.2.2.2.2 w) ?_ ?_
    ·rintro ⟨m3, next7, t15, t16, t17, t64⟩ σ w H
     replace H : f14_k1 R ag3 m3 next7 t15 t16 t17 t64 w := H
     try dsimp only
     unfold f14_k1 at H
     refine r_condB (b := t64) rfl H ?_ ?_
     ·clear H; intro hb6 H
      refine sr ?_
      refine xs (.bool false) rfl rfl ?_
      refine xe ?_
      exact r_ret (fn := Try.f14) Try.func14 (res_1 rfl ⟨by decide, rfl⟩) H
     ·clear H; intro hb6 H
      refine r_skip ?_
      refine r_region ?_
      refine xm (Sl.v next7) rfl rfl ?_
      refine xs (Sl.v next7) rfl rfl ?_
      refine xe ?_
      refine r_inBlock ?_
      refine r_region ?_
      refine xp _ rfl (p_add rfl rfl rfl) ?_
      refine xm (I (W (t17 + 1))) rfl rfl ?_
      refine xe ?_
      refine ru4 3 (.pointer m3) 4 (Sl.v next7) 15 (Sl.v t15) 16 (I t16) rfl rfl rfl rfl ?_
      refine ru 17 (I (W (t17 + 1))) rfl ?_
      exact hag3 (m3, next7, t15, t16, (W (t17 + 1))) _ _ H
    ·intro J5
     refine r_draw #[[], [], [0, 1], [], [0, 1, 2, 3], [0, 1, 2, 3, 4], [0, 1, 2, 3, 4, 5], [0, 1, 2, 3, 4, 5, 6], [0, 1, 2, 3, 4, 5, 6, 7], [0, 1, 2, 3, 4, 5, 6], [0, 1, 2, 3, 4, 5, 6, 7, 8, 9], [0, 1, 2, 3, 4, 5, 6, 7, 8, 9, 10], [0, 1, 2, 3, 4, 5, 6, 7, 8, 9, 10, 11], [0, 1, 2, 3, 4, 5, 6, 7, 8, 9, 10, 11, 12], [0, 1, 2, 3, 4, 5, 6, 7, 8, 9, 10, 11, 12, 13], [0, 1, 2, 3, 4, 5, 6, 7, 8, 9, 10, 11, 12, 13, 14], [0, 1, 2, 3, 4, 5, 6, 7, 8, 9, 10, 11, 12, 13], [0, 1, 2, 3, 4, 5, 6, 7, 8, 9, 10, 11, 12, 13, 14, 15, 16], [0, 1, 2, 3, 4, 5, 6, 7, 8, 9, 10, 11, 12, 13, 14, 15, 16, 17], [0, 1, 2, 3, 4, 5, 6, 7, 8, 9, 10, 11, 12, 13, 14, 15, 16, 17, 18], [0, 1, 2, 3, 4, 5, 6, 7, 8, 9, 10, 11, 12, 13, 14, 15, 16, 17, 18, 19], [0, 1, 2, 3, 4, 5, 6, 7, 8, 9, 10, 11, 12, 13, 14, 15, 16, 17, 18, 19, 20], [0, 1, 2, 3, 4, 5, 6, 7, 8, 9, 10, 11, 12, 13, 14, 15, 16, 17, 18, 19, 20, 21], [0, 1, 2, 3, 4, 5, 6, 7, 8, 9, 10, 11, 12, 13, 14, 15, 16, 17, 18, 19, 20, 21, 22], [0, 1, 2, 3, 4, 5, 6, 7, 8, 9, 10, 11, 12, 13, 14, 15, 16, 17, 18, 19, 20, 21, 22, 23], [0, 1, 2, 3, 4, 5, 6, 7, 8, 9, 10, 11, 12, 13, 14, 15, 16, 17, 18, 19, 20, 21], [0, 1, 2, 3, 4, 5, 6, 7, 8, 9, 10, 11, 12, 13, 14, 15, 16, 17, 18, 19, 20, 21, 25], [0, 1, 2, 3, 4, 5, 6, 7, 8, 9, 10, 11, 12, 13, 14, 15, 16, 17, 18, 19, 20, 21, 22, 23, 24, 25, 26], [0, 1, 2, 3, 4, 5, 6, 7, 8, 9, 10, 11, 12, 13, 14, 15, 16, 17, 18, 19, 20, 21, 22, 23, 24, 25, 26, 27], [0, 1, 2, 3, 4, 5, 6, 7, 8, 9, 10, 11, 12, 13, 14, 15, 16, 17, 18, 19, 20, 21, 22, 23, 24, 25, 26, 27, 28], [0, 1, 2, 3, 4, 5, 6, 7, 8, 9, 10, 11, 12, 13, 14, 15, 16, 17, 18, 19, 20, 21, 22, 23, 24, 25, 26, 27, 28, 29], [0, 1, 2, 3, 4, 5, 6, 7, 8, 9, 10, 11, 12, 13, 14, 15, 16, 17, 18, 19, 20, 21, 22, 23, 24, 25, 26, 27, 28, 29, 30], [0, 1, 2, 3, 4, 5, 6, 7, 8, 9, 10, 11, 12, 13, 14, 15, 16, 17, 18, 19, 20, 21, 22, 23, 24, 25, 26, 27, 28, 29, 30, 31], [0, 1, 2, 3, 4, 5, 6, 7, 8, 9, 10, 11, 12, 13, 14, 15, 16, 17, 18, 19, 20, 21, 22, 23, 24, 25, 26, 27, 28, 29, 30], [0, 1, 2, 3, 4, 5, 6, 7, 8, 9, 10, 11, 12, 13, 14, 15, 16, 17, 18, 19, 20, 21, 22, 23, 24, 25, 26, 27, 28, 29, 30, 31, 32, 33], [0, 1, 2, 3, 4, 5, 6, 7, 8, 9, 10, 11, 12, 13, 14, 15, 16, 17, 18, 19, 20, 21, 22, 23, 24, 25, 26, 27, 28, 29, 30, 31, 32, 33, 34], [0, 1, 2, 3, 4, 5, 6, 7, 8, 9, 10, 11, 12, 13, 14, 15, 16, 17, 18, 19, 20, 21, 22, 23, 24, 25, 26, 27, 28, 29, 30, 31, 32, 33, 34, 35], [0, 1, 2, 3, 4, 5, 6, 7, 8, 9, 10, 11, 12, 13, 14, 15, 16, 17, 18, 19, 20, 21, 22, 23, 24, 25, 26, 27, 28, 29, 30, 31, 32, 33, 34, 35, 36]] 38 rfl rfl ?_
     refine am 0 (.pointer m3) rfl rfl rfl ?_
     obtain ⟨adv_16, v_16, hev_16, hnv_16, hcv_16, H⟩ := H
     refine xa_read (v := (.agg v_16)) (S := (fun w => Row w adv_16 v_16)) 1 (by decide +kernel) rfl rfl (wo rfl) (fun w hc => rd_loadN (ad := adv_16) rfl u67 rfl Try.ti67 (by show Value.pointer _ = _; rw [hev_16]) hnv_16 hc) hcv_16 ?_
     obtain ⟨adv_17, v_17, hev_17, hnv_17, hcv_17, H⟩ := H
     refine xa_read (v := (.agg v_17)) (S := (fun w => Row w adv_17 v_17)) 3 (by decide +kernel) rfl rfl (wo rfl) (fun w hc => rd_loadN (ad := adv_17) rfl u73 rfl Try.ti73 (by show Value.pointer _ = _; rw [hev_17]) hnv_17 hc) hcv_17 ?_
     refine ae 2 [(3, (fun w => Row w adv_17 v_17))] rfl rfl rfl (wo rfl) (e_call (fn := Try.f37) H rfl rfl Try.func37 rfl rfl rfl) ?_
     rintro _ w_11 ⟨v_19, rfl, H⟩
     obtain ⟨hk2_3, H⟩ := H
     refine ⟨(.cons hk2_3 AllHeld.nil), ?_⟩
     refine ae 4 [] rfl rfl rfl (wo rfl) (e_call (fn := Try.f54) H rfl rfl Try.func54 rfl rfl rfl) ?_
     rintro _ w_12 ⟨v_21, rfl, H⟩
     refine ⟨AllHeld.nil, ?_⟩
     refine ap 5 (.bool (!v_21)) rfl rfl (p_not rfl rfl) ?_
     refine am 6 (.bool (!v_21)) rfl rfl rfl ?_
     refine ifB_cases H ?_ ?_
     ·clear H; intro hb7 H
      refine ak 7 rfl rfl (wn 33 rfl rfl rfl hb7) ?_
      refine ak 9 rfl rfl (wn 33 rfl rfl rfl hb7) ?_
      refine ak 8 rfl rfl (wn 33 rfl rfl rfl hb7) ?_
      refine ak 10 rfl rfl (wn 33 rfl rfl rfl hb7) ?_
      refine ak 11 rfl rfl (wn 33 rfl rfl rfl hb7) ?_
      refine ap 12 (.bool true) rfl rfl (p_pickT rfl rfl hb7 rfl) ?_
      refine am 13 (.bool true) rfl rfl rfl ?_
      refine ak 14 rfl rfl (wn 40 rfl rfl rfl rfl) ?_
      refine ak 16 rfl rfl (wn 40 rfl rfl rfl rfl) ?_
      refine ak 15 rfl rfl (wn 40 rfl rfl rfl rfl) ?_
      refine ak 17 rfl rfl (wn 40 rfl rfl rfl rfl) ?_
      refine ak 18 rfl rfl (wn 40 rfl rfl rfl rfl) ?_
      refine ak 19 rfl rfl (wn 40 rfl rfl rfl rfl) ?_
      refine ap 20 (.bool true) rfl rfl (p_pickT rfl rfl rfl rfl) ?_
      refine am 21 (.bool true) rfl rfl rfl ?_
      refine ak 22 rfl rfl (wn 48 rfl rfl rfl rfl) ?_
      refine ak 23 rfl rfl (wn 48 rfl rfl rfl rfl) ?_
      refine ak 25 rfl rfl (wn 48 rfl rfl rfl rfl) ?_
      refine ak 26 rfl rfl (wn 48 rfl rfl rfl rfl) ?_
      refine ak 24 rfl rfl (wn 48 rfl rfl rfl rfl) ?_
      refine ak 27 rfl rfl (wn 48 rfl rfl rfl rfl) ?_
      refine ak 28 rfl rfl (wn 48 rfl rfl rfl rfl) ?_
      refine ap 29 (.bool true) rfl rfl (p_pickT rfl rfl rfl rfl) ?_
      refine am 30 (.bool true) rfl rfl rfl ?_
      refine ak 31 rfl rfl (wn 57 rfl rfl rfl rfl) ?_
      refine ak 33 rfl rfl (wn 57 rfl rfl rfl rfl) ?_
      refine ak 32 rfl rfl (wn 57 rfl rfl rfl rfl) ?_
      refine ak 34 rfl rfl (wn 57 rfl rfl rfl rfl) ?_
      refine ak 35 rfl rfl (wn 57 rfl rfl rfl rfl) ?_
      refine ak 36 rfl rfl (wn 57 rfl rfl rfl rfl) ?_
      refine ap 37 (.bool true) rfl rfl (p_pickT rfl rfl rfl rfl) ?_
      refine ax ?_
      refine ru4 3 (.pointer m3) 7 (Sl.v v_13) 15 (Sl.v t15) 16 (I t16) rfl rfl rfl rfl ?_
      refine ru2 17 (I t17) 64 (.bool true) rfl rfl ?_
      exact J5 (m3, v_13, t15, t16, t17, true) _ _ H
     ·clear H; intro hb7 H
      refine ay 7 (.pointer m3) rfl rfl (wy 33 rfl rfl rfl hb7) (p_move rfl rfl) ?_
      refine ay 9 (Sl.v v_13) rfl rfl (wy 33 rfl rfl rfl hb7) (p_move rfl rfl) ?_
      refine ae 8 [] rfl rfl rfl (wy 33 rfl rfl rfl hb7) (e_call (fn := Try.f50) H rfl rfl Try.func50 rfl rfl rfl) ?_
      rintro _ w_13 ⟨v_23, rfl, H⟩
      refine ⟨AllHeld.nil, ?_⟩
      refine ae 10 [] rfl rfl rfl (wy 33 rfl rfl rfl hb7) (e_call (fn := Try.f52) H rfl rfl Try.func52 rfl rfl rfl) ?_
      rintro _ w_14 ⟨v_25, rfl, H⟩
      refine ⟨AllHeld.nil, ?_⟩
      refine ay 11 (.bool (!v_25)) rfl rfl (wy 33 rfl rfl rfl hb7) (p_not rfl rfl) ?_
      refine ap 12 (.bool (!v_25)) rfl rfl (p_pickF rfl rfl hb7 rfl) ?_
      refine am 13 (.bool (!v_25)) rfl rfl rfl ?_
      refine ifB_cases H ?_ ?_
      ·clear H; intro hb8 H
       refine ak 14 rfl rfl (wn 40 rfl rfl rfl hb8) ?_
       refine ak 16 rfl rfl (wn 40 rfl rfl rfl hb8) ?_
       refine ak 15 rfl rfl (wn 40 rfl rfl rfl hb8) ?_
       refine ak 17 rfl rfl (wn 40 rfl rfl rfl hb8) ?_
       refine ak 18 rfl rfl (wn 40 rfl rfl rfl hb8) ?_
       refine ak 19 rfl rfl (wn 40 rfl rfl rfl hb8) ?_
       refine ap 20 (.bool true) rfl rfl (p_pickT rfl rfl hb8 rfl) ?_
       refine am 21 (.bool true) rfl rfl rfl ?_
       refine ak 22 rfl rfl (wn 48 rfl rfl rfl rfl) ?_
       refine ak 23 rfl rfl (wn 48 rfl rfl rfl rfl) ?_
       refine ak 25 rfl rfl (wn 48 rfl rfl rfl rfl) ?_
       refine ak 26 rfl rfl (wn 48 rfl rfl rfl rfl) ?_
       refine ak 24 rfl rfl (wn 48 rfl rfl rfl rfl) ?_
       refine ak 27 rfl rfl (wn 48 rfl rfl rfl rfl) ?_
       refine ak 28 rfl rfl (wn 48 rfl rfl rfl rfl) ?_
       refine ap 29 (.bool true) rfl rfl (p_pickT rfl rfl rfl rfl) ?_
       refine am 30 (.bool true) rfl rfl rfl ?_
       refine ak 31 rfl rfl (wn 57 rfl rfl rfl rfl) ?_
       refine ak 33 rfl rfl (wn 57 rfl rfl rfl rfl) ?_
       refine ak 32 rfl rfl (wn 57 rfl rfl rfl rfl) ?_
       refine ak 34 rfl rfl (wn 57 rfl rfl rfl rfl) ?_
       refine ak 35 rfl rfl (wn 57 rfl rfl rfl rfl) ?_
       refine ak 36 rfl rfl (wn 57 rfl rfl rfl rfl) ?_
       refine ap 37 (.bool true) rfl rfl (p_pickT rfl rfl rfl rfl) ?_
       refine ax ?_
       refine ru4 3 (.pointer m3) 7 (Sl.v v_13) 15 (Sl.v t15) 16 (I t16) rfl rfl rfl rfl ?_
       refine ru2 17 (I t17) 64 (.bool true) rfl rfl ?_
       exact J5 (m3, v_13, t15, t16, t17, true) _ _ H
      ·clear H; intro hb8 H
       refine ay 14 (.pointer m3) rfl rfl (wy 40 rfl rfl rfl hb8) (p_move rfl rfl) ?_
       refine ay 16 (Sl.v v_13) rfl rfl (wy 40 rfl rfl rfl hb8) (p_move rfl rfl) ?_
       refine ae 15 [] rfl rfl rfl (wy 40 rfl rfl rfl hb8) (e_call (fn := Try.f64) H rfl rfl Try.func64 rfl rfl rfl) ?_
       rintro _ w_15 ⟨v_27, rfl, H⟩
       refine ⟨AllHeld.nil, ?_⟩
       refine ae 17 [] rfl rfl rfl (wy 40 rfl rfl rfl hb8) (e_call (fn := Try.f65) H rfl rfl Try.func65 rfl rfl rfl) ?_
       rintro _ w_16 ⟨v_29, rfl, H⟩
       refine ⟨AllHeld.nil, ?_⟩
       refine ay 18 (I (v_29.len : Int)) rfl rfl (wy 40 rfl rfl rfl hb8) (p_len rfl u126 rfl) ?_
       refine ay 19 (.bool (!decide (v_27 = (v_29.len : Int)))) rfl rfl (wy 40 rfl rfl rfl hb8) (p_ne rfl rfl rfl) ?_
       refine ap 20 (.bool (!decide (v_27 = (v_29.len : Int)))) rfl rfl (p_pickF rfl rfl hb8 rfl) ?_
       refine am 21 (.bool (!decide (v_27 = (v_29.len : Int)))) rfl rfl rfl ?_
       refine ifB_cases H ?_ ?_
       ·clear H; intro hb9 H
        refine ak 22 rfl rfl (wn 48 rfl rfl rfl hb9) ?_
        refine ak 23 rfl rfl (wn 48 rfl rfl rfl hb9) ?_
        refine ak 25 rfl rfl (wn 48 rfl rfl rfl hb9) ?_
        refine ak 26 rfl rfl (wn 48 rfl rfl rfl hb9) ?_
        refine ak 24 rfl rfl (wn 48 rfl rfl rfl hb9) ?_
        refine ak 27 rfl rfl (wn 48 rfl rfl rfl hb9) ?_
        refine ak 28 rfl rfl (wn 48 rfl rfl rfl hb9) ?_
        refine ap 29 (.bool true) rfl rfl (p_pickT rfl rfl hb9 rfl) ?_
        refine am 30 (.bool true) rfl rfl rfl ?_
        refine ak 31 rfl rfl (wn 57 rfl rfl rfl rfl) ?_
        refine ak 33 rfl rfl (wn 57 rfl rfl rfl rfl) ?_
        refine ak 32 rfl rfl (wn 57 rfl rfl rfl rfl) ?_
        refine ak 34 rfl rfl (wn 57 rfl rfl rfl rfl) ?_
        refine ak 35 rfl rfl (wn 57 rfl rfl rfl rfl) ?_
        refine ak 36 rfl rfl (wn 57 rfl rfl rfl rfl) ?_
        refine ap 37 (.bool true) rfl rfl (p_pickT rfl rfl rfl rfl) ?_
        refine ax ?_
        refine ru4 3 (.pointer m3) 7 (Sl.v v_13) 15 (Sl.v t15) 16 (I t16) rfl rfl rfl rfl ?_
        refine ru2 17 (I t17) 64 (.bool true) rfl rfl ?_
        exact J5 (m3, v_13, t15, t16, t17, true) _ _ H
       ·clear H; intro hb9 H
        refine ay 22 (.pointer (some (a_10.add 0))) rfl rfl (wy 48 rfl rfl rfl hb9) (p_fieldAddr (off := 0) (ft := 3) (size := 1) rfl u67 rfl Try.ti3 (by decide) rfl rfl) ?_
        obtain ⟨adv_30, v_30, hev_30, hcv_30, H⟩ := H
        refine ar 23 (I v_30) rfl rfl (wy 48 rfl rfl rfl hb9) rfl u3 rfl rfl hev_30 hcv_30 ?_
        refine ay 25 (.pointer (some (a_10.add 0))) rfl rfl (wy 48 rfl rfl rfl hb9) (p_fieldAddr (off := 0) (ft := 3) (size := 1) rfl u67 rfl Try.ti3 (by decide) rfl rfl) ?_
        obtain ⟨adv_31, v_31, hev_31, hcv_31, H⟩ := H
        refine ar 26 (I v_31) rfl rfl (wy 48 rfl rfl rfl hb9) rfl u3 rfl rfl hev_31 hcv_31 ?_
        refine ae 24 [(26, (fun w => w.cell? adv_31 = some (I v_31)))] rfl rfl rfl (wy 48 rfl rfl rfl hb9) (e_call (fn := Try.f53) H rfl rfl Try.func53 rfl rfl rfl) ?_
        rintro _ w_17 ⟨v_33, rfl, H⟩
        obtain ⟨hk24_26, H⟩ := H
        refine ⟨(.cons hk24_26 AllHeld.nil), ?_⟩
        refine ae 27 [] rfl rfl rfl (wy 48 rfl rfl rfl hb9) (e_call (fn := Try.f66) H rfl rfl Try.func66 rfl rfl rfl) ?_
        rintro _ w_18 ⟨v_35, rfl, H⟩
        refine ⟨AllHeld.nil, ?_⟩
        refine ay 28 (.bool (!(v_33 == v_35))) rfl rfl (wy 48 rfl rfl rfl hb9) (p_bne rfl u4 rfl rfl) ?_
        refine ap 29 (.bool (!(v_33 == v_35))) rfl rfl (p_pickF rfl rfl hb9 rfl) ?_
        refine am 30 (.bool (!(v_33 == v_35))) rfl rfl rfl ?_
        refine ifB_cases H ?_ ?_
        ·clear H; intro hb10 H
         refine ak 31 rfl rfl (wn 57 rfl rfl rfl hb10) ?_
         refine ak 33 rfl rfl (wn 57 rfl rfl rfl hb10) ?_
         refine ak 32 rfl rfl (wn 57 rfl rfl rfl hb10) ?_
         refine ak 34 rfl rfl (wn 57 rfl rfl rfl hb10) ?_
         refine ak 35 rfl rfl (wn 57 rfl rfl rfl hb10) ?_
         refine ak 36 rfl rfl (wn 57 rfl rfl rfl hb10) ?_
         refine ap 37 (.bool true) rfl rfl (p_pickT rfl rfl hb10 rfl) ?_
         refine ax ?_
         refine ru4 3 (.pointer m3) 7 (Sl.v v_13) 15 (Sl.v t15) 16 (I t16) rfl rfl rfl rfl ?_
         refine ru2 17 (I t17) 64 (.bool true) rfl rfl ?_
         exact J5 (m3, v_13, t15, t16, t17, true) _ _ H
        ·clear H; intro hb10 H
         obtain ⟨adv_36, v_36, hev_36, hnv_36, hcv_36, H⟩ := H
         refine xa_read (v := (.agg v_36)) (S := (fun w => Row w adv_36 v_36)) 31 (by decide +kernel) rfl rfl (wy 57 rfl rfl rfl hb10) (fun w hc => rd_loadN (ad := adv_36) rfl u67 rfl Try.ti67 (by show Value.pointer _ = _; rw [hev_36]) hnv_36 hc) hcv_36 ?_
         obtain ⟨adv_37, v_37, hev_37, hnv_37, hcv_37, H⟩ := H
         refine xa_read (v := (.agg v_37)) (S := (fun w => Row w adv_37 v_37)) 33 (by decide +kernel) rfl rfl (wy 57 rfl rfl rfl hb10) (fun w hc => rd_loadN (ad := adv_37) rfl u67 rfl Try.ti67 (by show Value.pointer _ = _; rw [hev_37]) hnv_37 hc) hcv_37 ?_
         refine ae 32 [(33, (fun w => Row w adv_37 v_37))] rfl rfl rfl (wy 57 rfl rfl rfl hb10) (e_call (fn := Try.f62) H rfl rfl Try.func62 rfl rfl rfl) ?_
         rintro _ w_19 ⟨v_39, rfl, H⟩
         obtain ⟨hk32_33, H⟩ := H
         refine ⟨(.cons hk32_33 AllHeld.nil), ?_⟩
         refine ae 34 [] rfl rfl rfl (wy 57 rfl rfl rfl hb10) (e_call (fn := Try.f67) H rfl rfl Try.func67 rfl rfl rfl) ?_
         rintro _ w_20 ⟨v_41, rfl, H⟩
         refine ⟨AllHeld.nil, ?_⟩
         refine ae 35 [] rfl rfl rfl (wy 57 rfl rfl rfl hb10) (e_call (fn := Try.f21) H rfl rfl Try.func21 rfl rfl rfl) ?_
         rintro _ w_21 ⟨v_43, rfl, H⟩
         refine ⟨AllHeld.nil, ?_⟩
         refine ay 36 (.bool (!v_43)) rfl rfl (wy 57 rfl rfl rfl hb10) (p_not rfl rfl) ?_
         refine ap 37 (.bool (!v_43)) rfl rfl (p_pickF rfl rfl hb10 rfl) ?_
         refine ax ?_
         refine ru4 3 (.pointer m3) 7 (Sl.v v_13) 15 (Sl.v t15) 16 (I t16) rfl rfl rfl rfl ?_
         refine ru2 17 (I t17) 64 (.bool (!v_43)) rfl rfl ?_
         exact J5 (m3, v_13, t15, t16, t17, (!v_43)) _ _ H
   ·clear H; intro hb4 H
    refine r_exit rfl ?_
    refine sr ?_
    refine xs (.bool true) rfl rfl ?_
    refine xe ?_
    exact r_ret (fn := Try.f14) Try.func14 (res_1 rfl ⟨by decide, rfl⟩) H

/-! 21 sporran/sporranref01.Same -/
def f21_b0 (R : Value → World → Prop) (ag2 : (Sl × Sl × Int) → World → Prop) (a0 : Sl) (b1 : Sl) (i5 : Int) (w : World) : Prop :=
 IfB (decide (i5 < (a0.len : Int))) (
  Ix a0 i5 fun p_1 =>
  Ld (Value.int .u8) (some (p_1.add (i5.toNat * 1))) (World.drew w) fun v_2 =>
  Ix b1 i5 fun p_3 =>
  Ld (Value.int .u8) (some (p_3.add (i5.toNat * 1))) (World.drew w) fun v_4 =>
  IfB (!decide (v_2 = v_4)) (
   R (.bool false) (World.drew w)) (
   ag2 (a0, b1, (IntKind.i64.wrap (i5 + 1))) (World.drew w))) (
  R (.bool true) w)
def f21 (R : Value → World → Prop) (a0 : Sl) (b1 : Sl) (w : World) : Prop :=
 IfB (!decide ((a0.len : Int) = (b1.len : Int))) (
  R (.bool false) w) (
  Lp (fun ag (s : Sl × Sl × Int) w => f21_b0 R ag s.1 s.2.1 s.2.2 w) (a0, b1, 0) w)
theorem f21_ok (R : Value → World → Prop) (a0 : Sl) (b1 : Sl) (w : World) (H : f21 R a0 b1 w) : CallF Try.prog 21 #[(Sl.v a0), (Sl.v b1)] w R := by
 refine calls_of_runs (fn := Try.f21) Try.func21 rfl (Nat.le_of_ble_eq_true rfl) ?_
 show Runs _ _ 26 _ _ _ _
 unfold f21 at H
 refine ru2 0 (Sl.v a0) 1 (Sl.v b1) rfl rfl ?_
 refine sr ?_
 refine xs (.bool false) rfl rfl ?_
 refine xe ?_
 refine r_seq ?_
 refine sr ?_
 refine xm (Sl.v a0) rfl rfl ?_
 refine xp (I (a0.len : Int)) rfl (p_len rfl u39 rfl) ?_
 refine xm (Sl.v b1) rfl rfl ?_
 refine xp (I (b1.len : Int)) rfl (p_len rfl u39 rfl) ?_
 refine xp _ rfl (p_ne rfl rfl rfl) ?_
 refine xe ?_
 refine r_condB (b := (!decide ((a0.len : Int) = (b1.len : Int)))) rfl H ?_ ?_
 ·clear H; intro hb1 H
  refine sr ?_
  refine xs (.bool false) rfl rfl ?_
  refine xe ?_
  exact r_ret (fn := Try.f21) Try.func21 (res_1 rfl ⟨by decide, rfl⟩) H
 ·clear H; intro hb1 H
  refine r_skip ?_
  refine r_seq ?_
  refine sr ?_
  refine xs (I 0) rfl rfl ?_
  refine xe ?_
  refine r_block ?_
  refine ru3 0 (Sl.v a0) 1 (Sl.v b1) 5 (I 0) rfl rfl rfl ?_
  refine r_loopJ (fun (s : Sl × Sl × Int) σ => upd 5 (I s.2.2) (upd 1 (Sl.v s.2.1) (upd 0 (Sl.v s.1) (σ)))) (s := (a0, b1, 0)) H ?_
  clear H
  rintro ag2 ⟨a0, b1, i5⟩ σ w H hag2
  replace H : f21_b0 R ag2 a0 b1 i5 w := H
  try dsimp only
  unfold f21_b0 at H
  refine r_seq ?_
  refine sr ?_
  refine xm (I i5) rfl rfl ?_
  refine xm (Sl.v a0) rfl rfl ?_
  refine xp (I (a0.len : Int)) rfl (p_len rfl u39 rfl) ?_
  refine xp _ rfl (p_lt rfl rfl rfl) ?_
  refine xe ?_
  refine r_condB (b := (decide (i5 < (a0.len : Int)))) rfl H ?_ ?_
  ·clear H; intro hb3 H
   refine r_skip ?_
   refine sb ?_
   refine r_seq ?_
   refine r_draw #[[], [], [0, 1], [0, 1, 2], [], [], [4, 5], [4, 5, 6], [0, 1, 2, 3, 4, 5, 6, 7]] 9 rfl rfl ?_
   refine am 0 (Sl.v a0) rfl rfl rfl ?_
   refine am 1 (I i5) rfl rfl rfl ?_
   obtain ⟨p_1, hap_1, hlp_1, hup_1, H⟩ := H
   refine ap 2 _ rfl rfl (p_indexAddr (s := a0) (ad := p_1) (size := 1) rfl u39 Try.ti5 rfl rfl hap_1 hlp_1 hup_1) ?_
   obtain ⟨adv_2, v_2, hev_2, hcv_2, H⟩ := H
   refine ar 3 (.int .u8 v_2) rfl rfl (wo rfl) rfl u5 rfl rfl hev_2 hcv_2 ?_
   refine am 4 (Sl.v b1) rfl rfl rfl ?_
   refine am 5 (I i5) rfl rfl rfl ?_
   obtain ⟨p_3, hap_3, hlp_3, hup_3, H⟩ := H
   refine ap 6 _ rfl rfl (p_indexAddr (s := b1) (ad := p_3) (size := 1) rfl u39 Try.ti5 rfl rfl hap_3 hlp_3 hup_3) ?_
   obtain ⟨adv_4, v_4, hev_4, hcv_4, H⟩ := H
   refine ar 7 (.int .u8 v_4) rfl rfl (wo rfl) rfl u5 rfl rfl hev_4 hcv_4 ?_
   refine ap 8 _ rfl rfl (p_ne rfl rfl rfl) ?_
   refine ax ?_
   refine r_condB (b := (!decide (v_2 = v_4))) rfl H ?_ ?_
   ·clear H; intro hb4 H
    refine sr ?_
    refine xs (.bool false) rfl rfl ?_
    refine xe ?_
    exact r_ret (fn := Try.f21) Try.func21 (res_1 rfl ⟨by decide, rfl⟩) H
   ·clear H; intro hb4 H
    refine r_skip ?_
    refine r_inBlock ?_
    refine r_region ?_
    refine xm (I i5) rfl rfl ?_
    refine xp _ rfl (p_add rfl rfl rfl) ?_
    refine xs (I (W (i5 + 1))) rfl rfl ?_
    refine xe ?_
    refine ru3 0 (Sl.v a0) 1 (Sl.v b1) 5 (I (W (i5 + 1))) rfl rfl rfl ?_
    exact hag2 (a0, b1, (W (i5 + 1))) _ _ H
  ·clear H; intro hb3 H
   refine r_exit rfl ?_
   refine sr ?_
   refine xs (.bool true) rfl rfl ?_
   refine xe ?_
   exact r_ret (fn := Try.f21) Try.func21 (res_1 rfl ⟨by decide, rfl⟩) H

/-! 34 sporran/sporranlaw15.speaks -/
def f34 (R : Value → World → Prop)  (w : World) : Prop :=
 CallF Try.prog 36 #[] w fun u_1 w_1 => As Value.pointer u_1 fun v_2 =>
 Built #[(0, 1), (1, 1), (2, 1), (3, 1), (4, 1), (5, 48)] Try.z67 [(0, (.int .i64 1)), (1, (.string (ByteArray.mk #[97]))), (4, (.int .i64 1))] fun c_3 =>
 CallF Try.prog 37 #[(.pointer v_2), (.agg c_3)] w_1 fun u_4 w_2 => As Value.agg u_4 fun v_5 =>
 New Try.z73 73 w_2 fun a_6 w_3 =>
 StN 51 (some a_6) v_5 w_3 fun w_4 =>
 BuiltA 1 Try.z65 [(0, (.int .u8 7))] fun c_7 =>
 Built #[(0, 1), (1, 1), (2, 1), (3, 1), (4, 1), (5, 48)] Try.z67 [(0, (.int .i64 3)), (1, (.string (ByteArray.mk #[97]))), (5, (.agg c_7))] fun c_8 =>
 CallF Try.prog 37 #[(.pointer v_2), (.agg c_8)] w_4 fun u_9 w_5 => As Value.agg u_9 fun v_10 =>
 New Try.z73 73 w_5 fun a_11 w_6 =>
 StN 51 (some a_11) v_10 w_6 fun w_7 =>
 Built #[(0, 1), (1, 1), (2, 1), (3, 1), (4, 1), (5, 48)] Try.z67 [(0, (.int .i64 5)), (1, (.string (ByteArray.mk #[97])))] fun c_12 =>
 CallF Try.prog 37 #[(.pointer v_2), (.agg c_12)] w_7 fun u_13 w_8 => As Value.agg u_13 fun v_14 =>
 New Try.z73 73 w_8 fun a_15 w_9 =>
 StN 51 (some a_15) v_14 w_9 fun w_10 =>
 Ld (Value.int .i64) (some (a_6.add 0)) w_10 fun v_16 =>
 IfB (decide (v_16 = 0)) (
  Ld (Value.int .i64) (some (a_11.add 0)) w_10 fun v_17 =>
  IfB (decide (v_17 = 0)) (
   Ld Value.bool (some (a_15.add 1)) w_10 fun v_18 =>
   IfB v_18 (
    LdN 48 (some (a_15.add 2)) w_10 fun v_19 =>
    BuiltA 1 Try.z65 [(0, (.int .u8 7))] fun c_20 =>
    AggEq Try.prog 65 v_19 c_20 fun b_21 =>
    IfB b_21 (
     CallF Try.prog 64 #[(.pointer v_2)] w_10 fun u_22 w_11 => As (Value.int .i64) u_22 fun v_23 =>
     R (.bool (decide (v_23 = 1))) w_11) (
     R (.bool false) w_10)) (
    R (.bool false) w_10)) (
   R (.bool false) w_10)) (
  R (.bool false) w_10)
theorem f34_ok (R : Value → World → Prop)  (w : World) (H : f34 R  w) : CallF Try.prog 34 #[] w R := by
 refine calls_of_runs (fn := Try.f34) Try.func34 rfl (Nat.le_of_ble_eq_true rfl) ?_
 show Runs _ _ 39 _ _ _ _
 unfold f34 at H

 refine sr ?_
 refine xs (.bool false) rfl rfl ?_
 refine xe ?_
 refine sr ?_
 refine xo_eff rfl (wo rfl) (e_call (fn := Try.f36) H rfl rfl Try.func36 rfl rfl rfl) ?_
 rintro _ w_1 ⟨v_2, rfl, H⟩
 refine xs (.pointer v_2) rfl rfl ?_
 refine xe ?_
 refine sr ?_
 refine xm (.pointer v_2) rfl rfl ?_
 obtain ⟨c_3, hflc_3, H⟩ := H
 refine xp (.agg c_3) rfl (p_buildS (places := #[(0, 1), (1, 1), (2, 1), (3, 1), (4, 1), (5, 48)]) rfl Try.pl67 Try.ti67 hflc_3 rfl) ?_
 refine xo_eff rfl (wo rfl) (e_call (fn := Try.f37) H rfl rfl Try.func37 rfl rfl rfl) ?_
 rintro _ w_2 ⟨v_5, rfl, H⟩
 refine xo_eff rfl (wo rfl) (e_alloc rfl Try.ti73 H) ?_
 rintro _ w_3 ⟨a_6, rfl, H⟩
 refine xo_effN rfl (wo rfl) (e_storeN rfl Try.ti73 rfl rfl H) ?_
 intro _ w_4 H
 refine xe ?_
 refine sr ?_
 refine xm (.pointer v_2) rfl rfl ?_
 obtain ⟨c_7, hflc_7, H⟩ := H
 refine xp (.agg c_7) rfl (p_buildA (size := 1) rfl u65 Try.ti65 Try.ti5 hflc_7 rfl) ?_
 obtain ⟨c_8, hflc_8, H⟩ := H
 refine xp (.agg c_8) rfl (p_buildS (places := #[(0, 1), (1, 1), (2, 1), (3, 1), (4, 1), (5, 48)]) rfl Try.pl67 Try.ti67 hflc_8 rfl) ?_
 refine xo_eff rfl (wo rfl) (e_call (fn := Try.f37) H rfl rfl Try.func37 rfl rfl rfl) ?_
 rintro _ w_5 ⟨v_10, rfl, H⟩
 refine xo_eff rfl (wo rfl) (e_alloc rfl Try.ti73 H) ?_
 rintro _ w_6 ⟨a_11, rfl, H⟩
 refine xo_effN rfl (wo rfl) (e_storeN rfl Try.ti73 rfl rfl H) ?_
 intro _ w_7 H
 refine xe ?_
 refine sr ?_
 refine xm (.pointer v_2) rfl rfl ?_
 obtain ⟨c_12, hflc_12, H⟩ := H
 refine xp (.agg c_12) rfl (p_buildS (places := #[(0, 1), (1, 1), (2, 1), (3, 1), (4, 1), (5, 48)]) rfl Try.pl67 Try.ti67 hflc_12 rfl) ?_
 refine xo_eff rfl (wo rfl) (e_call (fn := Try.f37) H rfl rfl Try.func37 rfl rfl rfl) ?_
 rintro _ w_8 ⟨v_14, rfl, H⟩
 refine xo_eff rfl (wo rfl) (e_alloc rfl Try.ti73 H) ?_
 rintro _ w_9 ⟨a_15, rfl, H⟩
 refine xo_effN rfl (wo rfl) (e_storeN rfl Try.ti73 rfl rfl H) ?_
 intro _ w_10 H
 refine xe ?_
 refine sr ?_
 refine xp _ rfl (p_fieldAddr (off := 0) (ft := 31) (size := 1) rfl u73 rfl Try.ti31 (by decide) rfl rfl) ?_
 obtain ⟨adv_16, v_16, hev_16, hcv_16, H⟩ := H
 refine xr (I v_16) rfl (wo rfl) rfl u31 rfl rfl hev_16 hcv_16 ?_
 refine xp _ rfl (p_eq rfl rfl rfl) ?_
 refine xm (.bool (decide (v_16 = 0))) rfl rfl ?_
 refine ifB_cases H ?_ ?_
 ·clear H; intro hb1 H
  refine yp (.pointer (some (a_11.add 0))) rfl (wy 19 rfl rfl rfl hb1) (p_fieldAddr (off := 0) (ft := 31) (size := 1) rfl u73 rfl Try.ti31 (by decide) rfl rfl) ?_
  obtain ⟨adv_17, v_17, hev_17, hcv_17, H⟩ := H
  refine xr (I v_17) rfl (wy 19 rfl rfl rfl hb1) rfl u31 rfl rfl hev_17 hcv_17 ?_
  refine yp (.bool (decide (v_17 = 0))) rfl (wy 19 rfl rfl rfl hb1) (p_eq rfl rfl rfl) ?_
  refine xp (.bool (decide (v_17 = 0))) rfl (p_pickT rfl rfl hb1 rfl) ?_
  refine xm (.bool (decide (v_17 = 0))) rfl rfl ?_
  refine ifB_cases H ?_ ?_
  ·clear H; intro hb2 H
   refine yp (.pointer (some (a_15.add 1))) rfl (wy 24 rfl rfl rfl hb2) (p_fieldAddr (off := 1) (ft := 4) (size := 1) rfl u73 rfl Try.ti4 (by decide) rfl rfl) ?_
   obtain ⟨adv_18, v_18, hev_18, hcv_18, H⟩ := H
   refine xr (.bool v_18) rfl (wy 24 rfl rfl rfl hb2) rfl u4 rfl rfl hev_18 hcv_18 ?_
   refine xp (.bool v_18) rfl (p_pickT rfl rfl hb2 rfl) ?_
   refine xm (.bool v_18) rfl rfl ?_
   refine ifB_cases H ?_ ?_
   ·clear H; intro hb3 H
    refine yp (.pointer (some (a_15.add 2))) rfl (wy 28 rfl rfl rfl hb3) (p_fieldAddr (off := 2) (ft := 65) (size := 48) rfl u73 rfl Try.ti65 (by decide) rfl rfl) ?_
    obtain ⟨adv_19, v_19, hev_19, hnv_19, hcv_19, H⟩ := H
    refine xo_read (v := (.agg v_19)) rfl (wy 28 rfl rfl rfl hb3) (rd_loadN (ad := adv_19) rfl u65 rfl Try.ti65 (by show Value.pointer _ = _; rw [hev_19]) hnv_19 hcv_19) ?_
    obtain ⟨c_20, hflc_20, H⟩ := H
    refine yp (.agg c_20) rfl (wy 28 rfl rfl rfl hb3) (p_buildA (size := 1) rfl u65 Try.ti65 Try.ti5 hflc_20 rfl) ?_
    obtain ⟨b_21, hqb_21, H⟩ := H
    refine yp (.bool b_21) rfl (wy 28 rfl rfl rfl hb3) (p_aggEq rfl hqb_21 rfl rfl) ?_
    refine xp (.bool b_21) rfl (p_pickT rfl rfl hb3 rfl) ?_
    refine xm (.bool b_21) rfl rfl ?_
    refine ifB_cases H ?_ ?_
    ·clear H; intro hb4 H
     refine yp (.pointer v_2) rfl (wy 34 rfl rfl rfl hb4) (p_move rfl rfl) ?_
     refine xo_eff rfl (wy 34 rfl rfl rfl hb4) (e_call (fn := Try.f64) H rfl rfl Try.func64 rfl rfl rfl) ?_
     rintro _ w_11 ⟨v_23, rfl, H⟩
     refine yp (.bool (decide (v_23 = 1))) rfl (wy 34 rfl rfl rfl hb4) (p_eq rfl rfl rfl) ?_
     refine xp (.bool (decide (v_23 = 1))) rfl (p_pickT rfl rfl hb4 rfl) ?_
     refine xs (.bool (decide (v_23 = 1))) rfl rfl ?_
     refine xe ?_
     exact r_ret (fn := Try.f34) Try.func34 (res_1 rfl ⟨by decide, rfl⟩) H
    ·clear H; intro hb4 H
     refine xo_skip rfl (wn 34 rfl rfl rfl hb4) ?_
     refine xo_skip rfl (wn 34 rfl rfl rfl hb4) ?_
     refine xo_skip rfl (wn 34 rfl rfl rfl hb4) ?_
     refine xp (.bool false) rfl (p_pickF rfl rfl hb4 rfl) ?_
     refine xs (.bool false) rfl rfl ?_
     refine xe ?_
     exact r_ret (fn := Try.f34) Try.func34 (res_1 rfl ⟨by decide, rfl⟩) H
   ·clear H; intro hb3 H
    refine xo_skip rfl (wn 28 rfl rfl rfl hb3) ?_
    refine xo_skip rfl (wn 28 rfl rfl rfl hb3) ?_
    refine xo_skip rfl (wn 28 rfl rfl rfl hb3) ?_
    refine xo_skip rfl (wn 28 rfl rfl rfl hb3) ?_
    refine xp (.bool false) rfl (p_pickF rfl rfl hb3 rfl) ?_
    refine xm (.bool false) rfl rfl ?_
    refine xo_skip rfl (wn 34 rfl rfl rfl rfl) ?_
    refine xo_skip rfl (wn 34 rfl rfl rfl rfl) ?_
    refine xo_skip rfl (wn 34 rfl rfl rfl rfl) ?_
    refine xp (.bool false) rfl (p_pickF rfl rfl rfl rfl) ?_
    refine xs (.bool false) rfl rfl ?_
    refine xe ?_
    exact r_ret (fn := Try.f34) Try.func34 (res_1 rfl ⟨by decide, rfl⟩) H
  ·clear H; intro hb2 H
   refine xo_skip rfl (wn 24 rfl rfl rfl hb2) ?_
   refine xo_skip rfl (wn 24 rfl rfl rfl hb2) ?_
   refine xp (.bool false) rfl (p_pickF rfl rfl hb2 rfl) ?_
   refine xm (.bool false) rfl rfl ?_
   refine xo_skip rfl (wn 28 rfl rfl rfl rfl) ?_
   refine xo_skip rfl (wn 28 rfl rfl rfl rfl) ?_
   refine xo_skip rfl (wn 28 rfl rfl rfl rfl) ?_
   refine xo_skip rfl (wn 28 rfl rfl rfl rfl) ?_
   refine xp (.bool false) rfl (p_pickF rfl rfl rfl rfl) ?_
   refine xm (.bool false) rfl rfl ?_
   refine xo_skip rfl (wn 34 rfl rfl rfl rfl) ?_
   refine xo_skip rfl (wn 34 rfl rfl rfl rfl) ?_
   refine xo_skip rfl (wn 34 rfl rfl rfl rfl) ?_
   refine xp (.bool false) rfl (p_pickF rfl rfl rfl rfl) ?_
   refine xs (.bool false) rfl rfl ?_
   refine xe ?_
   exact r_ret (fn := Try.f34) Try.func34 (res_1 rfl ⟨by decide, rfl⟩) H
 ·clear H; intro hb1 H
  refine xo_skip rfl (wn 19 rfl rfl rfl hb1) ?_
  refine xo_skip rfl (wn 19 rfl rfl rfl hb1) ?_
  refine xo_skip rfl (wn 19 rfl rfl rfl hb1) ?_
  refine xp (.bool false) rfl (p_pickF rfl rfl hb1 rfl) ?_
  refine xm (.bool false) rfl rfl ?_
  refine xo_skip rfl (wn 24 rfl rfl rfl rfl) ?_
  refine xo_skip rfl (wn 24 rfl rfl rfl rfl) ?_
  refine xp (.bool false) rfl (p_pickF rfl rfl rfl rfl) ?_
  refine xm (.bool false) rfl rfl ?_
  refine xo_skip rfl (wn 28 rfl rfl rfl rfl) ?_
  refine xo_skip rfl (wn 28 rfl rfl rfl rfl) ?_
  refine xo_skip rfl (wn 28 rfl rfl rfl rfl) ?_
  refine xo_skip rfl (wn 28 rfl rfl rfl rfl) ?_
  refine xp (.bool false) rfl (p_pickF rfl rfl rfl rfl) ?_
  refine xm (.bool false) rfl rfl ?_
  refine xo_skip rfl (wn 34 rfl rfl rfl rfl) ?_
  refine xo_skip rfl (wn 34 rfl rfl rfl rfl) ?_
  refine xo_skip rfl (wn 34 rfl rfl rfl rfl) ?_
  refine xp (.bool false) rfl (p_pickF rfl rfl rfl rfl) ?_
  refine xs (.bool false) rfl rfl ?_
  refine xe ?_
  exact r_ret (fn := Try.f34) Try.func34 (res_1 rfl ⟨by decide, rfl⟩) H

/-! 35 sporran/sporranlaw15.Great -/
def f35_k1 (R : Value → World → Prop) (ag2 : (Sl × Int × Int) → World → Prop) (t8 : Sl) (t9 : Int) (t10 : Int) (t23 : Bool) (w : World) : Prop :=
 IfB t23 (
  R (.bool true) w) (
  ag2 (t8, t9, (IntKind.i64.wrap (t10 + 1))) w)
def f35_b0 (R : Value → World → Prop) (ag2 : (Sl × Int × Int) → World → Prop) (t8 : Sl) (t9 : Int) (t10 : Int) (w : World) : Prop :=
 IfB (decide (t10 < t9)) (
  Ix t8 t10 fun p_1 =>
  LdN 53 (some (p_1.add (t10.toNat * 53))) w fun v_2 =>
  New Try.z67 67 w fun a_3 w_1 =>
  StN 53 (some a_3) v_2 w_1 fun w_2 =>
  Ld Value.string (some (a_3.add 1)) w_2 fun v_4 =>
  IfB (decide (100 < (v_4.size : Int))) (
   f35_k1 R ag2 t8 t9 t10 true w_2) (
   Ld Value.string (some (a_3.add 2)) w_2 fun v_5 =>
   f35_k1 R ag2 t8 t9 t10 (decide (100 < (v_5.size : Int))) w_2)) (
  R (.bool false) w)
def f35 (R : Value → World → Prop) (ops0 : Sl) (w : World) : Prop :=
 IfB (decide (80 < (ops0.len : Int))) (
  R (.bool true) w) (
  Lp (fun ag (s : Sl × Int × Int) w => f35_b0 R ag s.1 s.2.1 s.2.2 w) (ops0, (ops0.len : Int), 0) w)
theorem f35_ok (R : Value → World → Prop) (ops0 : Sl) (w : World) (H : f35 R ops0 w) : CallF Try.prog 35 #[(Sl.v ops0)] w R := by
 refine calls_of_runs (fn := Try.f35) Try.func35 rfl (Nat.le_of_ble_eq_true rfl) ?_
 show Runs _ _ 25 _ _ _ _
 unfold f35 at H
 refine ru 0 (Sl.v ops0) rfl ?_
 refine sr ?_
 refine xs (.bool false) rfl rfl ?_
 refine xe ?_
 refine r_seq ?_
 refine sr ?_
 refine xm (Sl.v ops0) rfl rfl ?_
 refine xp (I (ops0.len : Int)) rfl (p_len rfl u63 rfl) ?_
 refine xp _ rfl (p_gt rfl rfl rfl) ?_
 refine xe ?_
 refine r_condB (b := (decide (80 < (ops0.len : Int)))) rfl H ?_ ?_
 ·clear H; intro hb1 H
  refine sr ?_
  refine xs (.bool true) rfl rfl ?_
  refine xe ?_
  exact r_ret (fn := Try.f35) Try.func35 (res_1 rfl ⟨by decide, rfl⟩) H
 ·clear H; intro hb1 H
  refine r_skip ?_
  refine r_seq ?_
  refine sr ?_
  refine xm (Sl.v ops0) rfl rfl ?_
  refine xp (I (ops0.len : Int)) rfl (p_len rfl u63 rfl) ?_
  refine xm (I 0) rfl rfl ?_
  refine xe ?_
  refine r_block ?_
  refine ru3 8 (Sl.v ops0) 9 (I (ops0.len : Int)) 10 (I 0) rfl rfl rfl ?_
  refine r_loopJ (fun (s : Sl × Int × Int) σ => upd 10 (I s.2.2) (upd 9 (I s.2.1) (upd 8 (Sl.v s.1) (σ)))) (s := (ops0, (ops0.len : Int), 0)) H ?_
  clear H
  rintro ag2 ⟨t8, t9, t10⟩ σ w H hag2
  replace H : f35_b0 R ag2 t8 t9 t10 w := H
  try dsimp only
  unfold f35_b0 at H
  refine sr ?_
  refine xp _ rfl (p_lt rfl rfl rfl) ?_
  refine xe ?_
  refine r_seq ?_
  refine r_condB (b := (decide (t10 < t9))) rfl H ?_ ?_
  ·clear H; intro hb3 H
   refine r_skip ?_
   refine sb ?_
   refine sr ?_
   obtain ⟨p_1, hap_1, hlp_1, hup_1, H⟩ := H
   refine xp _ rfl (p_indexAddr (s := t8) (ad := p_1) (size := 53) rfl u63 Try.ti67 rfl rfl hap_1 hlp_1 hup_1) ?_
   obtain ⟨adv_2, v_2, hev_2, hnv_2, hcv_2, H⟩ := H
   refine xo_read (v := (.agg v_2)) rfl (wo rfl) (rd_loadN (ad := adv_2) rfl u67 rfl Try.ti67 (by show Value.pointer _ = _; rw [hev_2]) hnv_2 hcv_2) ?_
   refine xo_eff rfl (wo rfl) (e_alloc rfl Try.ti67 H) ?_
   rintro _ w_1 ⟨a_3, rfl, H⟩
   refine xo_effN rfl (wo rfl) (e_storeN rfl Try.ti67 rfl rfl H) ?_
   intro _ w_2 H
   refine xe ?_
   refine r_seq ?_
   refine r_topJ (fun (s : Sl × Int × Int × Bool) σ => upd 23 (.bool s.2.2.2) (upd 10 (I s.2.2.1) (upd 9 (I s.2.1) (upd 8 (Sl.v s.1) (σ))))) (fun (s : Sl × Int × Int × Bool) w => f35_k1 R ag2 s.1 s.2.1 s.2.2.1 s.2.2.2 w) ?_ ?_
   ·rintro ⟨t8, t9, t10, t23⟩ σ w H
    replace H : f35_k1 R ag2 t8 t9 t10 t23 w := H
    try dsimp only
    unfold f35_k1 at H
    refine r_condB (b := t23) rfl H ?_ ?_
    ·clear H; intro hb5 H
     refine sr ?_
     refine xs (.bool true) rfl rfl ?_
     refine xe ?_
     exact r_ret (fn := Try.f35) Try.func35 (res_1 rfl ⟨by decide, rfl⟩) H
    ·clear H; intro hb5 H
     refine r_skip ?_
     refine r_inBlock ?_
     refine r_region ?_
     refine xp _ rfl (p_add rfl rfl rfl) ?_
     refine xm (I (W (t10 + 1))) rfl rfl ?_
     refine xe ?_
     refine ru3 8 (Sl.v t8) 9 (I t9) 10 (I (W (t10 + 1))) rfl rfl rfl ?_
     exact hag2 (t8, t9, (W (t10 + 1))) _ _ H
   ·intro J4
    refine r_region ?_
    refine xp _ rfl (p_fieldAddr (off := 1) (ft := 9) (size := 1) rfl u67 rfl Try.ti9 (by decide) rfl rfl) ?_
    obtain ⟨adv_4, v_4, hev_4, hcv_4, H⟩ := H
    refine xr (.string v_4) rfl (wo rfl) rfl u9 rfl rfl hev_4 hcv_4 ?_
    refine xp (I (v_4.size : Int)) rfl (p_lenS rfl u9 rfl) ?_
    refine xp _ rfl (p_gt rfl rfl rfl) ?_
    refine xm (.bool (decide (100 < (v_4.size : Int)))) rfl rfl ?_
    refine ifB_cases H ?_ ?_
    ·clear H; intro hb6 H
     refine xo_skip rfl (wn 18 rfl rfl rfl hb6) ?_
     refine xo_skip rfl (wn 18 rfl rfl rfl hb6) ?_
     refine xo_skip rfl (wn 18 rfl rfl rfl hb6) ?_
     refine xo_skip rfl (wn 18 rfl rfl rfl hb6) ?_
     refine xp (.bool true) rfl (p_pickT rfl rfl hb6 rfl) ?_
     refine xe ?_
     refine ru4 8 (Sl.v t8) 9 (I t9) 10 (I t10) 23 (.bool true) rfl rfl rfl rfl ?_
     exact J4 (t8, t9, t10, true) _ _ H
    ·clear H; intro hb6 H
     refine yp (.pointer (some (a_3.add 2))) rfl (wy 18 rfl rfl rfl hb6) (p_fieldAddr (off := 2) (ft := 9) (size := 1) rfl u67 rfl Try.ti9 (by decide) rfl rfl) ?_
     obtain ⟨adv_5, v_5, hev_5, hcv_5, H⟩ := H
     refine xr (.string v_5) rfl (wy 18 rfl rfl rfl hb6) rfl u9 rfl rfl hev_5 hcv_5 ?_
     refine yp (I (v_5.size : Int)) rfl (wy 18 rfl rfl rfl hb6) (p_lenS rfl u9 rfl) ?_
     refine yp (.bool (decide (100 < (v_5.size : Int)))) rfl (wy 18 rfl rfl rfl hb6) (p_gt rfl rfl rfl) ?_
     refine xp (.bool (decide (100 < (v_5.size : Int)))) rfl (p_pickF rfl rfl hb6 rfl) ?_
     refine xe ?_
     refine ru4 8 (Sl.v t8) 9 (I t9) 10 (I t10) 23 (.bool (decide (100 < (v_5.size : Int)))) rfl rfl rfl rfl ?_
     exact J4 (t8, t9, t10, (decide (100 < (v_5.size : Int)))) _ _ H
  ·clear H; intro hb3 H
   refine r_exit rfl ?_
   refine sr ?_
   refine xs (.bool false) rfl rfl ?_
   refine xe ?_
   exact r_ret (fn := Try.f35) Try.func35 (res_1 rfl ⟨by decide, rfl⟩) H

/-! 36 sporran/model.New -/
def f36 (R : Value → World → Prop)  (w : World) : Prop :=
 Ef Try.prog (Instr.makeMap 163 none) Value.map w fun v_1 w_1 =>
 Built #[(0, 1)] #[(.map none)] [(0, (.map v_1))] fun c_2 =>
 New c_2 165 w_1 fun a_3 w_2 =>
 R (.pointer (some a_3)) w_2
theorem f36_ok (R : Value → World → Prop)  (w : World) (H : f36 R  w) : CallF Try.prog 36 #[] w R := by
 refine calls_of_runs (fn := Try.f36) Try.func36 rfl (Nat.le_of_ble_eq_true rfl) ?_
 show Runs _ _ 4 _ _ _ _
 unfold f36 at H

 refine sr ?_
 refine xs (.pointer none) rfl rfl ?_
 refine xe ?_
 refine sr ?_
 refine xo_eff rfl (wo rfl) (e_gen (s := Instr.makeMap 163 none) (enc := Value.map) rfl H) ?_
 rintro _ w_1 ⟨v_1, rfl, H⟩
 obtain ⟨c_2, hflc_2, H⟩ := H
 refine xp (.agg c_2) rfl (p_buildS (places := #[(0, 1)]) rfl Try.pl165 Try.ti165 hflc_2 rfl) ?_
 refine xo_eff rfl (wo rfl) (e_box (v := (.agg c_2)) rfl rfl H) ?_
 rintro _ w_2 ⟨a_3, rfl, H⟩
 refine xs (.pointer (some a_3)) rfl rfl ?_
 refine xe ?_
 exact r_ret (fn := Try.f36) Try.func36 (res_1 rfl ⟨by decide, rfl⟩) H

/-! 37 (*sporran/model.Model).Do -/
def f37_k1 (R : Value → World → Prop) (m0 : Option Addr) (o3 : Option Addr) (t4 : Option Addr) (t8 : Int) (t50 : Bool) (w : World) : Prop :=
 IfB t50 (
  LdN 53 o3 w fun v_31 =>
  CallF Try.prog 94 #[(.pointer m0), (.agg v_31)] w fun u_32 w_15 => As (Value.int .i64) u_32 fun v_33 =>
  Built #[(0, 1), (1, 1), (2, 48), (50, 1)] Try.z73 [(0, (.int .i64 v_33))] fun c_34 =>
  StN 51 t4 c_34 w_15 fun w_16 =>
  LdN 51 t4 w_16 fun r_35 =>
  R (.agg r_35) w_16) (
  IfB (decide (t8 = 8)) (
   NotNil m0 fun p_36 =>
   Ld Value.map (some (p_36.add 0)) w fun v_37 =>
   CallF Try.prog 96 #[(.map v_37)] w fun v_39 w_17 =>
   CallF Try.prog 95 #[v_39] w_17 fun u_40 w_18 => As Sl.v u_40 fun v_41 =>
   Built #[(0, 1), (1, 1), (2, 48), (50, 1)] Try.z73 [(3, (Sl.v v_41))] fun c_42 =>
   StN 51 t4 c_42 w_18 fun w_19 =>
   LdN 51 t4 w_19 fun r_43 =>
   R (.agg r_43) w_19) (
   Built #[(0, 1), (1, 1), (2, 48), (50, 1)] Try.z73 [(0, (.int .i64 1))] fun c_44 =>
   StN 51 t4 c_44 w fun w_20 =>
   LdN 51 t4 w_20 fun r_45 =>
   R (.agg r_45) w_20))
def f37_k0 (R : Value → World → Prop) (m0 : Option Addr) (o3 : Option Addr) (t4 : Option Addr) (t8 : Int) (t43 : Bool) (w : World) : Prop :=
 IfB t43 (
  LdN 53 o3 w fun v_27 =>
  CallF Try.prog 93 #[(.pointer m0), (.agg v_27)] w fun u_28 w_13 => As Value.agg u_28 fun v_29 =>
  StN 51 t4 v_29 w_13 fun w_14 =>
  LdN 51 t4 w_14 fun r_30 =>
  R (.agg r_30) w_14) (
  IfB (decide (t8 = 6)) (
   f37_k1 R m0 o3 t4 t8 (decide (t8 = 6)) w) (
   f37_k1 R m0 o3 t4 t8 (decide (t8 = 7)) w))
def f37 (R : Value → World → Prop) (m0 : Option Addr) (o1 : Array Value) (w : World) : Prop :=
 New o1 67 w fun a_1 w_1 =>
 New Try.z73 73 w_1 fun a_2 w_2 =>
 Ld (Value.int .i64) (some (a_1.add 0)) w_2 fun v_3 =>
 IfB (decide (v_3 = 1)) (
  Ld Value.string (some (a_1.add 1)) w_2 fun v_4 =>
  Ld (Value.int .i64) (some (a_1.add 4)) w_2 fun v_5 =>
  Ef Try.prog (Instr.makeMap 168 none) Value.map w_2 fun v_6 w_3 =>
  Built #[(0, 1), (1, 1), (2, 1)] #[(.int .i64 0), (.bool false), (.map none)] [(0, (.int .i64 v_5)), (2, (.map v_6))] fun c_7 =>
  New c_7 170 w_3 fun a_8 w_4 =>
  CallF Try.prog 92 #[(.pointer m0), (.string v_4), (.pointer (some a_8)), (.int .i64 0)] w_4 fun u_9 w_5 => As (Value.int .i64) u_9 fun v_10 =>
  Built #[(0, 1), (1, 1), (2, 48), (50, 1)] Try.z73 [(0, (.int .i64 v_10))] fun c_11 =>
  StN 51 (some a_2) c_11 w_5 fun w_6 =>
  LdN 51 (some a_2) w_6 fun r_12 =>
  R (.agg r_12) w_6) (
  IfB (decide (v_3 = 2)) (
   NotNil m0 fun p_13 =>
   Ld Value.map (some (p_13.add 0)) (World.drew w_2) fun v_14 =>
   Ld Value.string (some (a_1.add 1)) (World.drew w_2) fun v_15 =>
   Ef Try.prog (Instr.lookup 163 (.map v_14) (.string v_15) true) id (World.drew w_2) fun u_18 w_8 => AsT2 Value.pointer Value.bool u_18 fun v_16 v_17 =>
   IfB (!v_17) (
    Built #[(0, 1), (1, 1), (2, 48), (50, 1)] Try.z73 [(0, (.int .i64 5))] fun c_19 =>
    StN 51 (some a_2) c_19 w_8 fun w_9 =>
    LdN 51 (some a_2) w_9 fun r_20 =>
    R (.agg r_20) w_9) (
    NotNil m0 fun p_21 =>
    Ld Value.map (some (p_21.add 0)) (World.drew w_8) fun v_22 =>
    Ld Value.string (some (a_1.add 1)) (World.drew w_8) fun v_23 =>
    Ef Try.prog (Builtin.delete_ #[163, 9] 0 #[(.map v_22), (.string v_23)]) id (World.drew w_8) fun v_24 w_11 =>
    Built #[(0, 1), (1, 1), (2, 48), (50, 1)] Try.z73 [] fun c_25 =>
    StN 51 (some a_2) c_25 w_11 fun w_12 =>
    LdN 51 (some a_2) w_12 fun r_26 =>
    R (.agg r_26) w_12)) (
   IfB (decide (v_3 = 3)) (
    f37_k0 R m0 (some a_1) (some a_2) v_3 (decide (v_3 = 3)) w_2) (
    IfB (decide (v_3 = 4)) (
     f37_k0 R m0 (some a_1) (some a_2) v_3 (decide (v_3 = 4)) w_2) (
     f37_k0 R m0 (some a_1) (some a_2) v_3 (decide (v_3 = 5)) w_2))))
theorem f37_ok (R : Value → World → Prop) (m0 : Option Addr) (o1 : Array Value) (w : World) (H : f37 R m0 o1 w) : CallF Try.prog 37 #[(.pointer m0), (.agg o1)] w R := by
 refine calls_of_runs (fn := Try.f37) Try.func37 rfl (Nat.le_of_ble_eq_true rfl) ?_
 show Runs _ _ 67 _ _ _ _
 unfold f37 at H
 refine ru2 0 (.pointer m0) 1 (.agg o1) rfl rfl ?_
 refine sr ?_
 refine xo_eff rfl (wo rfl) (e_box (v := (.agg o1)) rfl rfl H) ?_
 rintro _ w_1 ⟨a_1, rfl, H⟩
 refine xo_eff rfl (wo rfl) (e_alloc rfl Try.ti73 H) ?_
 rintro _ w_2 ⟨a_2, rfl, H⟩
 refine xe ?_
 refine r_seq ?_
 refine sr ?_
 refine xp _ rfl (p_fieldAddr (off := 0) (ft := 3) (size := 1) rfl u67 rfl Try.ti3 (by decide) rfl rfl) ?_
 obtain ⟨adv_3, v_3, hev_3, hcv_3, H⟩ := H
 refine xr (I v_3) rfl (wo rfl) rfl u3 rfl rfl hev_3 hcv_3 ?_
 refine xe ?_
 refine r_block ?_
 refine sr ?_
 refine xp _ rfl (p_eq rfl rfl rfl) ?_
 refine xs (.bool (decide (v_3 = 1))) rfl rfl ?_
 refine xe ?_
 refine r_condB (b := (decide (v_3 = 1))) rfl H ?_ ?_
 ·clear H; intro hb1 H
  refine sr ?_
  refine xm (.pointer m0) rfl rfl ?_
  refine xp _ rfl (p_fieldAddr (off := 1) (ft := 9) (size := 1) rfl u67 rfl Try.ti9 (by decide) rfl rfl) ?_
  obtain ⟨adv_4, v_4, hev_4, hcv_4, H⟩ := H
  refine xr (.string v_4) rfl (wo rfl) rfl u9 rfl rfl hev_4 hcv_4 ?_
  refine xp _ rfl (p_fieldAddr (off := 4) (ft := 3) (size := 1) rfl u67 rfl Try.ti3 (by decide) rfl rfl) ?_
  obtain ⟨adv_5, v_5, hev_5, hcv_5, H⟩ := H
  refine xr (I v_5) rfl (wo rfl) rfl u3 rfl rfl hev_5 hcv_5 ?_
  refine xo_eff rfl (wo rfl) (e_gen (s := Instr.makeMap 168 none) (enc := Value.map) rfl H) ?_
  rintro _ w_3 ⟨v_6, rfl, H⟩
  obtain ⟨c_7, hflc_7, H⟩ := H
  refine xp (.agg c_7) rfl (p_buildS (places := #[(0, 1), (1, 1), (2, 1)]) rfl Try.pl170 Try.ti170 hflc_7 rfl) ?_
  refine xo_eff rfl (wo rfl) (e_box (v := (.agg c_7)) rfl rfl H) ?_
  rintro _ w_4 ⟨a_8, rfl, H⟩
  refine xo_eff rfl (wo rfl) (e_call (fn := Try.f92) H rfl rfl Try.func92 rfl rfl rfl) ?_
  rintro _ w_5 ⟨v_10, rfl, H⟩
  obtain ⟨c_11, hflc_11, H⟩ := H
  refine xp (.agg c_11) rfl (p_buildS (places := #[(0, 1), (1, 1), (2, 48), (50, 1)]) rfl Try.pl73 Try.ti73 hflc_11 rfl) ?_
  refine xo_effN rfl (wo rfl) (e_storeN rfl Try.ti73 rfl rfl H) ?_
  intro _ w_6 H
  refine xe ?_
  obtain ⟨adr_12, r_12, her_12, hnr_12, hrr_12, H⟩ := H
  exact r_ret (fn := Try.f37) Try.func37 (res_1 rfl (resV_cellN (by decide) (by show Value.pointer _ = _; rw [her_12]) u73 rfl Try.ti73 hnr_12 hrr_12)) H
 ·clear H; intro hb1 H
  refine sr ?_
  refine xp _ rfl (p_eq rfl rfl rfl) ?_
  refine xs (.bool (decide (v_3 = 2))) rfl rfl ?_
  refine xe ?_
  refine r_condB (b := (decide (v_3 = 2))) rfl H ?_ ?_
  ·clear H; intro hb2 H
   refine r_seq ?_
   refine r_seq ?_
   refine r_draw #[[], [0], [0, 1], [0, 1, 2], [], [4], [0, 1, 2, 3, 4, 5], [0, 1, 2, 3, 4, 5, 6], [0, 1, 2, 3, 4, 5, 6, 7], [0, 1, 2, 3, 4, 5, 6, 7], [0, 1, 2, 3, 4, 5, 6, 7, 8], [0, 1, 2, 3, 4, 5, 6, 7, 8, 9, 10]] 12 rfl rfl ?_
   refine am 0 (.pointer m0) rfl rfl rfl ?_
   obtain ⟨p_13, hpp_13, H⟩ := H
   refine ap 1 (.pointer (some p_13)) rfl rfl (p_nilCheck rfl rfl hpp_13) ?_
   refine ap 2 _ rfl rfl (p_fieldAddr (off := 0) (ft := 163) (size := 1) rfl u165 rfl Try.ti163 (by decide) rfl rfl) ?_
   obtain ⟨adv_14, v_14, hev_14, hcv_14, H⟩ := H
   refine ar 3 (.map v_14) rfl rfl (wo rfl) rfl u163 rfl rfl hev_14 hcv_14 ?_
   refine ap 4 _ rfl rfl (p_fieldAddr (off := 1) (ft := 9) (size := 1) rfl u67 rfl Try.ti9 (by decide) rfl rfl) ?_
   obtain ⟨adv_15, v_15, hev_15, hcv_15, H⟩ := H
   refine ar 5 (.string v_15) rfl rfl (wo rfl) rfl u9 rfl rfl hev_15 hcv_15 ?_
   refine ae 6 [] rfl rfl rfl (wo rfl) (e_genV (s := Instr.lookup 163 (.map v_14) (.string v_15) true) rfl H) ?_
   rintro _ w_8 ⟨v_16, v_17, rfl, H⟩
   refine ⟨AllHeld.nil, ?_⟩
   refine am 7 (.tuple #[(.pointer v_16), (.bool v_17)]) rfl rfl rfl ?_
   refine ap 8 (.pointer v_16) rfl rfl (p_extract (vs := #[(.pointer v_16), (.bool v_17)]) rfl rfl rfl) ?_
   refine ap 9 (.bool v_17) rfl rfl (p_extract (vs := #[(.pointer v_16), (.bool v_17)]) rfl rfl rfl) ?_
   refine as_ 10 (.pointer v_16) rfl rfl rfl ?_
   refine as_ 11 (.bool v_17) rfl rfl rfl ?_
   refine ax ?_
   refine sr ?_
   refine xm (.bool v_17) rfl rfl ?_
   refine xp (.bool (!v_17)) rfl (p_not rfl rfl) ?_
   refine xe ?_
   refine r_condB (b := (!v_17)) rfl H ?_ ?_
   ·clear H; intro hb3 H
    refine sr ?_
    obtain ⟨c_19, hflc_19, H⟩ := H
    refine xp (.agg c_19) rfl (p_buildS (places := #[(0, 1), (1, 1), (2, 48), (50, 1)]) rfl Try.pl73 Try.ti73 hflc_19 rfl) ?_
    refine xo_effN rfl (wo rfl) (e_storeN rfl Try.ti73 rfl rfl H) ?_
    intro _ w_9 H
    refine xe ?_
    obtain ⟨adr_20, r_20, her_20, hnr_20, hrr_20, H⟩ := H
    exact r_ret (fn := Try.f37) Try.func37 (res_1 rfl (resV_cellN (by decide) (by show Value.pointer _ = _; rw [her_20]) u73 rfl Try.ti73 hnr_20 hrr_20)) H
   ·clear H; intro hb3 H
    refine r_skip ?_
    refine r_seq ?_
    refine r_draw #[[], [0], [0, 1], [0, 1, 2], [], [4], [0, 1, 2, 3, 4, 5]] 7 rfl rfl ?_
    refine am 0 (.pointer m0) rfl rfl rfl ?_
    obtain ⟨p_21, hpp_21, H⟩ := H
    refine ap 1 (.pointer (some p_21)) rfl rfl (p_nilCheck rfl rfl hpp_21) ?_
    refine ap 2 _ rfl rfl (p_fieldAddr (off := 0) (ft := 163) (size := 1) rfl u165 rfl Try.ti163 (by decide) rfl rfl) ?_
    obtain ⟨adv_22, v_22, hev_22, hcv_22, H⟩ := H
    refine ar 3 (.map v_22) rfl rfl (wo rfl) rfl u163 rfl rfl hev_22 hcv_22 ?_
    refine ap 4 _ rfl rfl (p_fieldAddr (off := 1) (ft := 9) (size := 1) rfl u67 rfl Try.ti9 (by decide) rfl rfl) ?_
    obtain ⟨adv_23, v_23, hev_23, hcv_23, H⟩ := H
    refine ar 5 (.string v_23) rfl rfl (wo rfl) rfl u9 rfl rfl hev_23 hcv_23 ?_
    refine an 6 rfl rfl rfl (wo rfl) (e_biV (b := .delete) H rfl rfl rfl) fun v_24 w_11 H => ?_
    refine ax ?_
    refine sr ?_
    obtain ⟨c_25, hflc_25, H⟩ := H
    refine xp (.agg c_25) rfl (p_buildS (places := #[(0, 1), (1, 1), (2, 48), (50, 1)]) rfl Try.pl73 Try.ti73 hflc_25 rfl) ?_
    refine xo_effN rfl (wo rfl) (e_storeN rfl Try.ti73 rfl rfl H) ?_
    intro _ w_12 H
    refine xe ?_
    obtain ⟨adr_26, r_26, her_26, hnr_26, hrr_26, H⟩ := H
    exact r_ret (fn := Try.f37) Try.func37 (res_1 rfl (resV_cellN (by decide) (by show Value.pointer _ = _; rw [her_26]) u73 rfl Try.ti73 hnr_26 hrr_26)) H
  ·clear H; intro hb2 H
   refine r_seqJ (fun (s : Option Addr × Option Addr × Option Addr × Int × Bool) σ => upd 43 (.bool s.2.2.2.2) (upd 8 (I s.2.2.2.1) (upd 4 (.pointer s.2.2.1) (upd 3 (.pointer s.2.1) (upd 0 (.pointer s.1) (σ)))))) (fun (s : Option Addr × Option Addr × Option Addr × Int × Bool) w => f37_k0 R s.1 s.2.1 s.2.2.1 s.2.2.2.1 s.2.2.2.2 w) ?_ ?_
   ·rintro ⟨m0, o3, t4, t8, t43⟩ σ w H
    replace H : f37_k0 R m0 o3 t4 t8 t43 w := H
    try dsimp only
    unfold f37_k0 at H
    refine r_condB (b := t43) rfl H ?_ ?_
    ·clear H; intro hb5 H
     refine sr ?_
     refine xm (.pointer m0) rfl rfl ?_
     obtain ⟨adv_27, v_27, hev_27, hnv_27, hcv_27, H⟩ := H
     refine xo_read (v := (.agg v_27)) rfl (wo rfl) (rd_loadN (ad := adv_27) rfl u67 rfl Try.ti67 (by show Value.pointer _ = _; rw [hev_27]) hnv_27 hcv_27) ?_
     refine xo_eff rfl (wo rfl) (e_call (fn := Try.f93) H rfl rfl Try.func93 rfl rfl rfl) ?_
     rintro _ w_13 ⟨v_29, rfl, H⟩
     refine xo_effN rfl (wo rfl) (e_storeN rfl Try.ti73 rfl rfl H) ?_
     intro _ w_14 H
     refine xe ?_
     obtain ⟨adr_30, r_30, her_30, hnr_30, hrr_30, H⟩ := H
     exact r_ret (fn := Try.f37) Try.func37 (res_1 rfl (resV_cellN (by decide) (by show Value.pointer _ = _; rw [her_30]) u73 rfl Try.ti73 hnr_30 hrr_30)) H
    ·clear H; intro hb5 H
     refine r_seqJ (fun (s : Option Addr × Option Addr × Option Addr × Int × Bool) σ => upd 50 (.bool s.2.2.2.2) (upd 8 (I s.2.2.2.1) (upd 4 (.pointer s.2.2.1) (upd 3 (.pointer s.2.1) (upd 0 (.pointer s.1) (σ)))))) (fun (s : Option Addr × Option Addr × Option Addr × Int × Bool) w => f37_k1 R s.1 s.2.1 s.2.2.1 s.2.2.2.1 s.2.2.2.2 w) ?_ ?_
     ·rintro ⟨m0, o3, t4, t8, t50⟩ σ w H
      replace H : f37_k1 R m0 o3 t4 t8 t50 w := H
      try dsimp only
      unfold f37_k1 at H
      refine r_condB (b := t50) rfl H ?_ ?_
      ·clear H; intro hb7 H
       refine sr ?_
       refine xm (.pointer m0) rfl rfl ?_
       obtain ⟨adv_31, v_31, hev_31, hnv_31, hcv_31, H⟩ := H
       refine xo_read (v := (.agg v_31)) rfl (wo rfl) (rd_loadN (ad := adv_31) rfl u67 rfl Try.ti67 (by show Value.pointer _ = _; rw [hev_31]) hnv_31 hcv_31) ?_
       refine xo_eff rfl (wo rfl) (e_call (fn := Try.f94) H rfl rfl Try.func94 rfl rfl rfl) ?_
       rintro _ w_15 ⟨v_33, rfl, H⟩
       obtain ⟨c_34, hflc_34, H⟩ := H
       refine xp (.agg c_34) rfl (p_buildS (places := #[(0, 1), (1, 1), (2, 48), (50, 1)]) rfl Try.pl73 Try.ti73 hflc_34 rfl) ?_
       refine xo_effN rfl (wo rfl) (e_storeN rfl Try.ti73 rfl rfl H) ?_
       intro _ w_16 H
       refine xe ?_
       obtain ⟨adr_35, r_35, her_35, hnr_35, hrr_35, H⟩ := H
       exact r_ret (fn := Try.f37) Try.func37 (res_1 rfl (resV_cellN (by decide) (by show Value.pointer _ = _; rw [her_35]) u73 rfl Try.ti73 hnr_35 hrr_35)) H
      ·clear H; intro hb7 H
       refine sr ?_
       refine xp _ rfl (p_eq rfl rfl rfl) ?_
       refine xs (.bool (decide (t8 = 8))) rfl rfl ?_
       refine xe ?_
       refine r_condB (b := (decide (t8 = 8))) rfl H ?_ ?_
       ·clear H; intro hb8 H
        refine sr ?_
        refine xm (.pointer m0) rfl rfl ?_
        obtain ⟨p_36, hpp_36, H⟩ := H
        refine xp (.pointer (some p_36)) rfl (p_nilCheck rfl rfl hpp_36) ?_
        refine xp _ rfl (p_fieldAddr (off := 0) (ft := 163) (size := 1) rfl u165 rfl Try.ti163 (by decide) rfl rfl) ?_
        obtain ⟨adv_37, v_37, hev_37, hcv_37, H⟩ := H
        refine xr (.map v_37) rfl (wo rfl) rfl u163 rfl rfl hev_37 hcv_37 ?_
        refine xo_eff rfl (wo rfl) (e_call (fn := Try.f96) H rfl rfl Try.func96 rfl rfl rfl) ?_
        intro v_39 w_17 H
        refine xo_eff rfl (wo rfl) (e_call (fn := Try.f95) H rfl rfl Try.func95 rfl rfl rfl) ?_
        rintro _ w_18 ⟨v_41, rfl, H⟩
        obtain ⟨c_42, hflc_42, H⟩ := H
        refine xp (.agg c_42) rfl (p_buildS (places := #[(0, 1), (1, 1), (2, 48), (50, 1)]) rfl Try.pl73 Try.ti73 hflc_42 rfl) ?_
        refine xo_effN rfl (wo rfl) (e_storeN rfl Try.ti73 rfl rfl H) ?_
        intro _ w_19 H
        refine xe ?_
        obtain ⟨adr_43, r_43, her_43, hnr_43, hrr_43, H⟩ := H
        exact r_ret (fn := Try.f37) Try.func37 (res_1 rfl (resV_cellN (by decide) (by show Value.pointer _ = _; rw [her_43]) u73 rfl Try.ti73 hnr_43 hrr_43)) H
       ·clear H; intro hb8 H
        refine r_skip ?_
        refine r_inBlock ?_
        refine sr ?_
        obtain ⟨c_44, hflc_44, H⟩ := H
        refine xp (.agg c_44) rfl (p_buildS (places := #[(0, 1), (1, 1), (2, 48), (50, 1)]) rfl Try.pl73 Try.ti73 hflc_44 rfl) ?_
        refine xo_effN rfl (wo rfl) (e_storeN rfl Try.ti73 rfl rfl H) ?_
        intro _ w_20 H
        refine xe ?_
        obtain ⟨adr_45, r_45, her_45, hnr_45, hrr_45, H⟩ := H
        exact r_ret (fn := Try.f37) Try.func37 (res_1 rfl (resV_cellN (by decide) (by show Value.pointer _ = _; rw [her_45]) u73 rfl Try.ti73 hnr_45 hrr_45)) H
     ·intro J6
      refine sr ?_
      refine xp _ rfl (p_eq rfl rfl rfl) ?_
      refine xs (.bool (decide (t8 = 6))) rfl rfl ?_
      refine xe ?_
      refine r_condB (b := (decide (t8 = 6))) rfl H ?_ ?_
      ·clear H; intro hb9 H
       refine r_skip ?_
       refine ru4 0 (.pointer m0) 3 (.pointer o3) 4 (.pointer t4) 8 (I t8) rfl rfl rfl rfl ?_
       refine ru 50 (.bool (decide (t8 = 6))) rfl ?_
       exact J6 (m0, o3, t4, t8, (decide (t8 = 6))) _ _ H
      ·clear H; intro hb9 H
       refine r_region ?_
       refine xp _ rfl (p_eq rfl rfl rfl) ?_
       refine xs (.bool (decide (t8 = 7))) rfl rfl ?_
       refine xe ?_
       refine ru4 0 (.pointer m0) 3 (.pointer o3) 4 (.pointer t4) 8 (I t8) rfl rfl rfl rfl ?_
       refine ru 50 (.bool (decide (t8 = 7))) rfl ?_
       exact J6 (m0, o3, t4, t8, (decide (t8 = 7))) _ _ H
   ·intro J4
    refine sr ?_
    refine xp _ rfl (p_eq rfl rfl rfl) ?_
    refine xs (.bool (decide (v_3 = 3))) rfl rfl ?_
    refine xe ?_
    refine r_condB (b := (decide (v_3 = 3))) rfl H ?_ ?_
    ·clear H; intro hb10 H
     refine r_skip ?_
     refine ru4 0 (.pointer m0) 3 (.pointer (some a_1)) 4 (.pointer (some a_2)) 8 (I v_3) rfl rfl rfl rfl ?_
     refine ru 43 (.bool (decide (v_3 = 3))) rfl ?_
     exact J4 (m0, (some a_1), (some a_2), v_3, (decide (v_3 = 3))) _ _ H
    ·clear H; intro hb10 H
     refine sr ?_
     refine xp _ rfl (p_eq rfl rfl rfl) ?_
     refine xs (.bool (decide (v_3 = 4))) rfl rfl ?_
     refine xe ?_
     refine r_condB (b := (decide (v_3 = 4))) rfl H ?_ ?_
     ·clear H; intro hb11 H
      refine r_skip ?_
      refine ru4 0 (.pointer m0) 3 (.pointer (some a_1)) 4 (.pointer (some a_2)) 8 (I v_3) rfl rfl rfl rfl ?_
      refine ru 43 (.bool (decide (v_3 = 4))) rfl ?_
      exact J4 (m0, (some a_1), (some a_2), v_3, (decide (v_3 = 4))) _ _ H
     ·clear H; intro hb11 H
      refine r_region ?_
      refine xp _ rfl (p_eq rfl rfl rfl) ?_
      refine xs (.bool (decide (v_3 = 5))) rfl rfl ?_
      refine xe ?_
      refine ru4 0 (.pointer m0) 3 (.pointer (some a_1)) 4 (.pointer (some a_2)) 8 (I v_3) rfl rfl rfl rfl ?_
      refine ru 43 (.bool (decide (v_3 = 5))) rfl ?_
      exact J4 (m0, (some a_1), (some a_2), v_3, (decide (v_3 = 5))) _ _ H

/-! 50 (*sporran/model.Model).Images -/
def f50_b1 (R : Value → World → Prop) (ag1 : (Option Addr × Sl × Sl × Int × Int) → World → Prop) (ag3 : (Option Addr × Sl × Option Addr × Option Addr × Sl × Int × Int × Sl × Int × Int) → World → Prop) (m0 : Option Addr) (out2 : Sl) (v5 : Option Addr) (x6 : Option Addr) (t14 : Sl) (t15 : Int) (t16 : Int) (t41 : Sl) (t42 : Int) (t43 : Int) (w : World) : Prop :=
 IfB (decide (t43 < t42)) (
  Ix t41 t43 fun p_24 =>
  Ld (Value.int .i64) (some (p_24.add (t43.toNat * 1))) w fun v_25 =>
  NotNil x6 fun p_26 =>
  LdH Sl.v (some (p_26.add 3)) (World.drew w) fun adv_27 v_27 =>
  NotNil v5 fun p_28 =>
  Ld Value.map (some (p_28.add 2)) (World.drew w) fun v_29 =>
  Ef Try.prog (Instr.lookup 168 (.map v_29) (.int .i64 v_25) false) Value.agg (World.drew w) fun v_30 w_10 =>
  ((w_10).cell? adv_27 = some (Sl.v v_27)) ∧
  Built #[(0, 1), (1, 48)] Try.z199 [(0, (.int .i64 v_25)), (1, (.agg v_30))] fun c_31 =>
  c_31.size = 49 ∧ (
  New c_31 199 w_10 fun a_32 w_11 =>
  ((w_11).cell? adv_27 = some (Sl.v v_27)) ∧
  Ef Try.prog (Builtin.append_ #[102, 102] 102 #[(Sl.v v_27), (Sl.v ⟨some a_32, 1, 1⟩)]) Sl.v w_11 fun v_34 w_12 =>
  NotNil x6 fun p_35 =>
  St (some (p_35.add 3)) (Sl.v v_34) w_12 fun w_13 =>
  ag3 (m0, out2, v5, x6, t14, t15, t16, t41, t42, (IntKind.i64.wrap (t43 + 1))) w_13)) (
  LdN 4 x6 w fun v_36 =>
  v_36.size = 4 ∧ (
  New v_36 104 w fun a_37 w_14 =>
  Ef Try.prog (Builtin.append_ #[100, 100] 100 #[(Sl.v out2), (Sl.v ⟨some a_37, 1, 1⟩)]) Sl.v w_14 fun v_39 w_15 =>
  ag1 (m0, v_39, t14, t15, (IntKind.i64.wrap (t16 + 1))) w_15))
def f50_b0 (R : Value → World → Prop) (ag1 : (Option Addr × Sl × Sl × Int × Int) → World → Prop) (m0 : Option Addr) (out2 : Sl) (t14 : Sl) (t15 : Int) (t16 : Int) (w : World) : Prop :=
 IfB (decide (t16 < t15)) (
  Ix t14 t16 fun p_7 =>
  Ld Value.string (some (p_7.add (t16.toNat * 1))) w fun v_8 =>
  NotNil m0 fun p_9 =>
  Ld Value.map (some (p_9.add 0)) w fun v_10 =>
  Ef Try.prog (Instr.lookup 163 (.map v_10) (.string v_8) false) Value.pointer w fun v_11 w_3 =>
  NotNil v_11 fun p_12 =>
  LdH (Value.int .i64) (some (p_12.add 0)) (World.drew w_3) fun adv_13 v_13 =>
  NotNil v_11 fun p_14 =>
  LdH Value.bool (some (p_14.add 1)) (World.drew w_3) fun adv_15 v_15 =>
  Built #[(0, 1), (1, 1), (2, 1), (3, 1)] #[(.string (ByteArray.mk #[])), (.int .i64 0), (.bool false), (Sl.v Sl.nil)] [(0, (.string v_8)), (1, (.int .i64 v_13)), (2, (.bool v_15))] fun c_16 =>
  New #[(.string (ByteArray.mk #[])), (.int .i64 0), (.bool false), (Sl.v Sl.nil)] 104 (World.drew w_3) fun a_17 w_5 =>
  ((w_5).cell? adv_15 = some (.bool v_15)) ∧
  ((w_5).cell? adv_13 = some (.int .i64 v_13)) ∧
  StN 4 (some a_17) c_16 w_5 fun w_6 =>
  NotNil v_11 fun p_18 =>
  Ld Value.map (some (p_18.add 2)) w_6 fun v_19 =>
  CallF Try.prog 108 #[(.map v_19)] w_6 fun v_21 w_7 =>
  CallF Try.prog 98 #[v_21] w_7 fun u_22 w_8 => As Sl.v u_22 fun v_23 =>
  Lp (fun ag (s : Option Addr × Sl × Option Addr × Option Addr × Sl × Int × Int × Sl × Int × Int) w => f50_b1 R ag1 ag s.1 s.2.1 s.2.2.1 s.2.2.2.1 s.2.2.2.2.1 s.2.2.2.2.2.1 s.2.2.2.2.2.2.1 s.2.2.2.2.2.2.2.1 s.2.2.2.2.2.2.2.2.1 s.2.2.2.2.2.2.2.2.2 w) (m0, out2, v_11, (some a_17), t14, t15, t16, v_23, (v_23.len : Int), 0) w_8) (
  R (Sl.v out2) w)
def f50 (R : Value → World → Prop) (m0 : Option Addr) (w : World) : Prop :=
 NotNil m0 fun p_1 =>
 Ld Value.map (some (p_1.add 0)) w fun v_2 =>
 CallF Try.prog 96 #[(.map v_2)] w fun v_4 w_1 =>
 CallF Try.prog 95 #[v_4] w_1 fun u_5 w_2 => As Sl.v u_5 fun v_6 =>
 Lp (fun ag (s : Option Addr × Sl × Sl × Int × Int) w => f50_b0 R ag s.1 s.2.1 s.2.2.1 s.2.2.2.1 s.2.2.2.2 w) (m0, Sl.nil, v_6, (v_6.len : Int), 0) w_2
theorem f50_ok (R : Value → World → Prop) (m0 : Option Addr) (w : World) (H : f50 R m0 w) : CallF Try.prog 50 #[(.pointer m0)] w R := by
 refine calls_of_runs (fn := Try.f50) Try.func50 rfl (Nat.le_of_ble_eq_true rfl) ?_
 show Runs _ _ 67 _ _ _ _
 unfold f50 at H
 refine ru 0 (.pointer m0) rfl ?_
 refine sr ?_
 refine xs (Sl.v Sl.nil) rfl rfl ?_
 refine xe ?_
 refine r_seq ?_
 refine sr ?_
 refine xm (.pointer m0) rfl rfl ?_
 obtain ⟨p_1, hpp_1, H⟩ := H
 refine xp (.pointer (some p_1)) rfl (p_nilCheck rfl rfl hpp_1) ?_
 refine xp _ rfl (p_fieldAddr (off := 0) (ft := 163) (size := 1) rfl u165 rfl Try.ti163 (by decide) rfl rfl) ?_
 obtain ⟨adv_2, v_2, hev_2, hcv_2, H⟩ := H
 refine xr (.map v_2) rfl (wo rfl) rfl u163 rfl rfl hev_2 hcv_2 ?_
 refine xo_eff rfl (wo rfl) (e_call (fn := Try.f96) H rfl rfl Try.func96 rfl rfl rfl) ?_
 intro v_4 w_1 H
 refine xo_eff rfl (wo rfl) (e_call (fn := Try.f95) H rfl rfl Try.func95 rfl rfl rfl) ?_
 rintro _ w_2 ⟨v_6, rfl, H⟩
 refine xp (I (v_6.len : Int)) rfl (p_len rfl u71 rfl) ?_
 refine xm (I 0) rfl rfl ?_
 refine xe ?_
 refine r_block ?_
 refine ru4 0 (.pointer m0) 2 (Sl.v Sl.nil) 14 (Sl.v v_6) 15 (I (v_6.len : Int)) rfl rfl rfl rfl ?_
 refine ru 16 (I 0) rfl ?_
 refine r_loopJ (fun (s : Option Addr × Sl × Sl × Int × Int) σ => upd 16 (I s.2.2.2.2) (upd 15 (I s.2.2.2.1) (upd 14 (Sl.v s.2.2.1) (upd 2 (Sl.v s.2.1) (upd 0 (.pointer s.1) (σ)))))) (s := (m0, Sl.nil, v_6, (v_6.len : Int), 0)) H ?_
 clear H
 rintro ag1 ⟨m0, out2, t14, t15, t16⟩ σ w H hag1
 replace H : f50_b0 R ag1 m0 out2 t14 t15 t16 w := H
 try dsimp only
 unfold f50_b0 at H
 refine sr ?_
 refine xp _ rfl (p_lt rfl rfl rfl) ?_
 refine xe ?_
 refine r_seq ?_
 refine r_condB (b := (decide (t16 < t15))) rfl H ?_ ?_
 ·clear H; intro hb2 H
  refine r_skip ?_
  refine sb ?_
  refine sr ?_
  obtain ⟨p_7, hap_7, hlp_7, hup_7, H⟩ := H
  refine xp _ rfl (p_indexAddr (s := t14) (ad := p_7) (size := 1) rfl u71 Try.ti9 rfl rfl hap_7 hlp_7 hup_7) ?_
  obtain ⟨adv_8, v_8, hev_8, hcv_8, H⟩ := H
  refine xr (.string v_8) rfl (wo rfl) rfl u9 rfl rfl hev_8 hcv_8 ?_
  refine xs (.string v_8) rfl rfl ?_
  refine xe ?_
  refine sr ?_
  refine xm (.pointer m0) rfl rfl ?_
  obtain ⟨p_9, hpp_9, H⟩ := H
  refine xp (.pointer (some p_9)) rfl (p_nilCheck rfl rfl hpp_9) ?_
  refine xp _ rfl (p_fieldAddr (off := 0) (ft := 163) (size := 1) rfl u165 rfl Try.ti163 (by decide) rfl rfl) ?_
  obtain ⟨adv_10, v_10, hev_10, hcv_10, H⟩ := H
  refine xr (.map v_10) rfl (wo rfl) rfl u163 rfl rfl hev_10 hcv_10 ?_
  refine xm (.string v_8) rfl rfl ?_
  refine xo_eff rfl (wo rfl) (e_gen (s := Instr.lookup 163 (.map v_10) (.string v_8) false) (enc := Value.pointer) rfl H) ?_
  rintro _ w_3 ⟨v_11, rfl, H⟩
  refine xs (.pointer v_11) rfl rfl ?_
  refine xe ?_
  refine r_seq ?_
  refine r_draw #[[], [], [1], [1, 2], [1, 2, 3], [], [5], [5, 6], [5, 6, 7], [0, 1, 2, 3, 4, 5, 6, 7, 8], [], [0, 1, 2, 3, 4, 5, 6, 7, 8, 9, 10]] 12 rfl rfl ?_
  refine am 0 (.string v_8) rfl rfl rfl ?_
  refine am 1 (.pointer v_11) rfl rfl rfl ?_
  obtain ⟨p_12, hpp_12, H⟩ := H
  refine ap 2 (.pointer (some p_12)) rfl rfl (p_nilCheck rfl rfl hpp_12) ?_
  refine ap 3 _ rfl rfl (p_fieldAddr (off := 0) (ft := 3) (size := 1) rfl u170 rfl Try.ti3 (by decide) rfl rfl) ?_
  obtain ⟨adv_13, v_13, hev_13, hcv_13, H⟩ := H
  refine ar 4 (I v_13) rfl rfl (wo rfl) rfl u3 rfl rfl hev_13 hcv_13 ?_
  refine am 5 (.pointer v_11) rfl rfl rfl ?_
  obtain ⟨p_14, hpp_14, H⟩ := H
  refine ap 6 (.pointer (some p_14)) rfl rfl (p_nilCheck rfl rfl hpp_14) ?_
  refine ap 7 _ rfl rfl (p_fieldAddr (off := 1) (ft := 4) (size := 1) rfl u170 rfl Try.ti4 (by decide) rfl rfl) ?_
  obtain ⟨adv_15, v_15, hev_15, hcv_15, H⟩ := H
  refine ar 8 (.bool v_15) rfl rfl (wo rfl) rfl u4 rfl rfl hev_15 hcv_15 ?_
  obtain ⟨c_16, hflc_16, H⟩ := H
  refine ap 9 (.agg c_16) rfl rfl (p_buildS (places := #[(0, 1), (1, 1), (2, 1), (3, 1)]) rfl Try.pl104 Try.ti104 hflc_16 rfl) ?_
  refine ae 10 [(8, (fun w => w.cell? adv_15 = some (.bool v_15))), (4, (fun w => w.cell? adv_13 = some (I v_13)))] rfl rfl rfl (wo rfl) (e_alloc rfl Try.ti104 H) ?_
  rintro _ w_5 ⟨a_17, rfl, H⟩
  obtain ⟨hk10_8, hk10_4, H⟩ := H
  refine ⟨(.cons hk10_8 (.cons hk10_4 AllHeld.nil)), ?_⟩
  refine an 11 rfl rfl rfl (wo rfl) (e_storeN rfl Try.ti104 rfl rfl H) fun _ w_6 H => ?_
  refine ax ?_
  refine r_seq ?_
  refine sr ?_
  refine xm (.pointer v_11) rfl rfl ?_
  obtain ⟨p_18, hpp_18, H⟩ := H
  refine xp (.pointer (some p_18)) rfl (p_nilCheck rfl rfl hpp_18) ?_
  refine xp _ rfl (p_fieldAddr (off := 2) (ft := 168) (size := 1) rfl u170 rfl Try.ti168 (by decide) rfl rfl) ?_
  obtain ⟨adv_19, v_19, hev_19, hcv_19, H⟩ := H
  refine xr (.map v_19) rfl (wo rfl) rfl u168 rfl rfl hev_19 hcv_19 ?_
  refine xo_eff rfl (wo rfl) (e_call (fn := Try.f108) H rfl rfl Try.func108 rfl rfl rfl) ?_
  intro v_21 w_7 H
  refine xo_eff rfl (wo rfl) (e_call (fn := Try.f98) H rfl rfl Try.func98 rfl rfl rfl) ?_
  rintro _ w_8 ⟨v_23, rfl, H⟩
  refine xp (I (v_23.len : Int)) rfl (p_len rfl u184 rfl) ?_
  refine xm (I 0) rfl rfl ?_
  refine xe ?_
  refine r_block ?_
  refine ru4 0 (.pointer m0) 2 (Sl.v out2) 5 (.pointer v_11) 6 (.pointer (some a_17)) rfl rfl rfl rfl ?_
  refine ru4 14 (Sl.v t14) 15 (I t15) 16 (I t16) 41 (Sl.v v_23) rfl rfl rfl rfl ?_
  refine ru2 42 (I (v_23.len : Int)) 43 (I 0) rfl rfl ?_
  refine r_loopJ (fun (s : Option Addr × Sl × Option Addr × Option Addr × Sl × Int × Int × Sl × Int × Int) σ => upd 43 (I s.2.2.2.2.2.2.2.2.2) (upd 42 (I s.2.2.2.2.2.2.2.2.1) (upd 41 (Sl.v s.2.2.2.2.2.2.2.1) (upd 16 (I s.2.2.2.2.2.2.1) (upd 15 (I s.2.2.2.2.2.1) (upd 14 (Sl.v s.2.2.2.2.1) (upd 6 (.pointer s.2.2.2.1) (upd 5 (.pointer s.2.2.1) (upd 2 (Sl.v s.2.1) (upd 0 (.pointer s.1) (σ))))))))))) (s := (m0, out2, v_11, (some a_17), t14, t15, t16, v_23, (v_23.len : Int), 0)) H ?_
  clear H
  rintro ag3 ⟨m0, out2, v5, x6, t14, t15, t16, t41, t42, t43⟩ σ w H hag3
  replace H : f50_b1 R ag1 ag3 m0 out2 v5 x6 t14 t15 t16 t41 t42 t43 w := H
  try dsimp only
  unfold f50_b1 at H
  refine sr ?_
  refine xp _ rfl (p_lt rfl rfl rfl) ?_
  refine xe ?_
  refine r_seq ?_
  refine r_condB (b := (decide (t43 < t42))) rfl H ?_ ?_
  ·clear H; intro hb4 H
   refine r_skip ?_
   refine sb ?_
   refine sr ?_
   obtain ⟨p_24, hap_24, hlp_24, hup_24, H⟩ := H
   refine xp _ rfl (p_indexAddr (s := t41) (ad := p_24) (size := 1) rfl u184 Try.ti3 rfl rfl hap_24 hlp_24 hup_24) ?_
   obtain ⟨adv_25, v_25, hev_25, hcv_25, H⟩ := H
   refine xr (I v_25) rfl (wo rfl) rfl u3 rfl rfl hev_25 hcv_25 ?_
   refine xs (I v_25) rfl rfl ?_
   refine xe ?_
   refine r_draw #[[], [0], [], [], [3], [3, 4], [3, 4, 5], [], [3, 4, 5, 6, 7], [2, 3, 4, 5, 6, 7, 8], [2, 3, 4, 5, 6, 7, 8, 9], [0, 1, 2, 3, 4, 5, 6, 7, 8, 9, 10], [0, 1, 2, 3, 4, 5, 6, 7, 8, 9, 10, 11], [0, 1, 2, 3, 4, 5, 6, 7, 8, 9, 10, 11, 12]] 14 rfl rfl ?_
   obtain ⟨p_26, hpp_26, H⟩ := H
   refine ap 0 _ rfl rfl (p_fieldAddr (off := 3) (ft := 102) (size := 1) rfl u104 rfl Try.ti102 (by decide) rfl hpp_26) ?_
   obtain ⟨adv_27, v_27, hev_27, hcv_27, H⟩ := H
   refine ar 1 (Sl.v v_27) rfl rfl (wo rfl) rfl u102 rfl rfl hev_27 hcv_27 ?_
   refine am 2 (I v_25) rfl rfl rfl ?_
   refine am 3 (.pointer v5) rfl rfl rfl ?_
   obtain ⟨p_28, hpp_28, H⟩ := H
   refine ap 4 (.pointer (some p_28)) rfl rfl (p_nilCheck rfl rfl hpp_28) ?_
   refine ap 5 _ rfl rfl (p_fieldAddr (off := 2) (ft := 168) (size := 1) rfl u170 rfl Try.ti168 (by decide) rfl rfl) ?_
   obtain ⟨adv_29, v_29, hev_29, hcv_29, H⟩ := H
   refine ar 6 (.map v_29) rfl rfl (wo rfl) rfl u168 rfl rfl hev_29 hcv_29 ?_
   refine am 7 (I v_25) rfl rfl rfl ?_
   refine ae 8 [(1, (fun w => w.cell? adv_27 = some (Sl.v v_27)))] rfl rfl rfl (wo rfl) (e_gen (s := Instr.lookup 168 (.map v_29) (I v_25) false) (enc := Value.agg) rfl H) ?_
   rintro _ w_10 ⟨v_30, rfl, H⟩
   obtain ⟨hk8_1, H⟩ := H
   refine ⟨(.cons hk8_1 AllHeld.nil), ?_⟩
   obtain ⟨c_31, hflc_31, H⟩ := H
   refine ap 9 (.agg c_31) rfl rfl (p_buildS (places := #[(0, 1), (1, 48)]) rfl Try.pl199 Try.ti199 hflc_31 rfl) ?_
   obtain ⟨hzq_33, H⟩ := H
   refine ae 10 [(1, (fun w => w.cell? adv_27 = some (Sl.v v_27)))] rfl rfl rfl (wo rfl) (e_buildAgg (size := 49) H rfl u102 Try.ti199 (by decide) (by decide) rfl hzq_33) ?_
   rintro _ w_11 ⟨a_32, rfl, H⟩
   obtain ⟨hk10_1, H⟩ := H
   refine ⟨(.cons hk10_1 AllHeld.nil), ?_⟩
   refine ae 11 [] rfl rfl rfl (wo rfl) (e_app H rfl rfl rfl) ?_
   rintro _ w_12 ⟨v_34, rfl, H⟩
   refine ⟨AllHeld.nil, ?_⟩
   obtain ⟨p_35, hpp_35, H⟩ := H
   refine ap 12 _ rfl rfl (p_fieldAddr (off := 3) (ft := 102) (size := 1) rfl u104 rfl Try.ti102 (by decide) rfl hpp_35) ?_
   refine an 13 rfl rfl rfl (wo rfl) (e_store rfl Try.ti102 rfl rfl rfl H) fun _ w_13 H => ?_
   refine ax ?_
   refine r_inBlock ?_
   refine r_region ?_
   refine xp _ rfl (p_add rfl rfl rfl) ?_
   refine xm (I (W (t43 + 1))) rfl rfl ?_
   refine xe ?_
   refine ru4 0 (.pointer m0) 2 (Sl.v out2) 5 (.pointer v5) 6 (.pointer x6) rfl rfl rfl rfl ?_
   refine ru4 14 (Sl.v t14) 15 (I t15) 16 (I t16) 41 (Sl.v t41) rfl rfl rfl rfl ?_
   refine ru2 42 (I t42) 43 (I (W (t43 + 1))) rfl rfl ?_
   exact hag3 (m0, out2, v5, x6, t14, t15, t16, t41, t42, (W (t43 + 1))) _ _ H
  ·clear H; intro hb4 H
   refine r_exit rfl ?_
   refine r_region ?_
   refine xm (Sl.v out2) rfl rfl ?_
   obtain ⟨adv_36, v_36, hev_36, hnv_36, hcv_36, H⟩ := H
   refine xo_read (v := (.agg v_36)) rfl (wo rfl) (rd_loadN (ad := adv_36) rfl u104 rfl Try.ti104 (by show Value.pointer _ = _; rw [hev_36]) hnv_36 hcv_36) ?_
   obtain ⟨hzq_38, H⟩ := H
   refine xo_eff rfl (wo rfl) (e_buildAgg (size := 4) H rfl u100 Try.ti104 (by decide) (by decide) rfl hzq_38) ?_
   rintro _ w_14 ⟨a_37, rfl, H⟩
   refine xo_eff rfl (wo rfl) (e_app H rfl rfl rfl) ?_
   rintro _ w_15 ⟨v_39, rfl, H⟩
   refine xs (Sl.v v_39) rfl rfl ?_
   refine xe ?_
   refine r_inBlock ?_
   refine r_region ?_
   refine xp _ rfl (p_add rfl rfl rfl) ?_
   refine xm (I (W (t16 + 1))) rfl rfl ?_
   refine xe ?_
   refine ru4 0 (.pointer m0) 2 (Sl.v v_39) 14 (Sl.v t14) 15 (I t15) rfl rfl rfl rfl ?_
   refine ru 16 (I (W (t16 + 1))) rfl ?_
   exact hag1 (m0, v_39, t14, t15, (W (t16 + 1))) _ _ H
 ·clear H; intro hb2 H
  refine r_exit rfl ?_
  refine sr ?_
  refine xm (Sl.v out2) rfl rfl ?_
  refine xs (Sl.v out2) rfl rfl ?_
  refine xe ?_
  exact r_ret (fn := Try.f50) Try.func50 (res_1 rfl ⟨by decide, rfl⟩) H

/-! 51 sporran/sporranref15.Find -/
def f51_b0 (R : Value → World → Prop) (ag1 : (Sl × ByteArray × Int) → World → Prop) (l0 : Sl) (name1 : ByteArray) (i5 : Int) (w : World) : Prop :=
 IfB (decide (i5 < (l0.len : Int))) (
  Ix l0 i5 fun p_1 =>
  Ld Value.string (some ((p_1.add (i5.toNat * 4)).add 0)) w fun v_2 =>
  IfB (seq v_2 name1) (
   R (.int .i64 i5) w) (
   ag1 (l0, name1, (IntKind.i64.wrap (i5 + 1))) w)) (
  R (.int .i64 (-1)) w)
def f51 (R : Value → World → Prop) (l0 : Sl) (name1 : ByteArray) (w : World) : Prop :=
 Lp (fun ag (s : Sl × ByteArray × Int) w => f51_b0 R ag s.1 s.2.1 s.2.2 w) (l0, name1, 0) w
theorem f51_ok (R : Value → World → Prop) (l0 : Sl) (name1 : ByteArray) (w : World) (H : f51 R l0 name1 w) : CallF Try.prog 51 #[(Sl.v l0), (.string name1)] w R := by
 refine calls_of_runs (fn := Try.f51) Try.func51 rfl (Nat.le_of_ble_eq_true rfl) ?_
 show Runs _ _ 20 _ _ _ _
 unfold f51 at H
 refine ru2 0 (Sl.v l0) 1 (.string name1) rfl rfl ?_
 refine sr ?_
 refine xs (I 0) rfl rfl ?_
 refine xe ?_
 refine r_seq ?_
 refine sr ?_
 refine xs (I 0) rfl rfl ?_
 refine xe ?_
 refine r_block ?_
 refine ru3 0 (Sl.v l0) 1 (.string name1) 5 (I 0) rfl rfl rfl ?_
 refine r_loopJ (fun (s : Sl × ByteArray × Int) σ => upd 5 (I s.2.2) (upd 1 (.string s.2.1) (upd 0 (Sl.v s.1) (σ)))) (s := (l0, name1, 0)) H ?_
 clear H
 rintro ag1 ⟨l0, name1, i5⟩ σ w H hag1
 replace H : f51_b0 R ag1 l0 name1 i5 w := H
 try dsimp only
 unfold f51_b0 at H
 refine r_seq ?_
 refine sr ?_
 refine xm (I i5) rfl rfl ?_
 refine xm (Sl.v l0) rfl rfl ?_
 refine xp (I (l0.len : Int)) rfl (p_len rfl u100 rfl) ?_
 refine xp _ rfl (p_lt rfl rfl rfl) ?_
 refine xe ?_
 refine r_condB (b := (decide (i5 < (l0.len : Int)))) rfl H ?_ ?_
 ·clear H; intro hb2 H
  refine r_skip ?_
  refine sb ?_
  refine sr ?_
  refine xm (Sl.v l0) rfl rfl ?_
  refine xm (I i5) rfl rfl ?_
  obtain ⟨p_1, hap_1, hlp_1, hup_1, H⟩ := H
  refine xp _ rfl (p_indexAddr (s := l0) (ad := p_1) (size := 4) rfl u100 Try.ti104 rfl rfl hap_1 hlp_1 hup_1) ?_
  refine xp _ rfl (p_fieldAddr (off := 0) (ft := 9) (size := 1) rfl u104 rfl Try.ti9 (by decide) rfl rfl) ?_
  obtain ⟨adv_2, v_2, hev_2, hcv_2, H⟩ := H
  refine xr (.string v_2) rfl (wo rfl) rfl u9 rfl rfl hev_2 hcv_2 ?_
  refine xm (.string name1) rfl rfl ?_
  refine xp (.bool (seq v_2 name1)) rfl (p_seq rfl rfl rfl) ?_
  refine xe ?_
  refine r_condB (b := (seq v_2 name1)) rfl H ?_ ?_
  ·clear H; intro hb3 H
   refine sr ?_
   refine xm (I i5) rfl rfl ?_
   refine xs (I i5) rfl rfl ?_
   refine xe ?_
   exact r_ret (fn := Try.f51) Try.func51 (res_1 rfl ⟨by decide, rfl⟩) H
  ·clear H; intro hb3 H
   refine r_skip ?_
   refine r_inBlock ?_
   refine r_region ?_
   refine xm (I i5) rfl rfl ?_
   refine xp _ rfl (p_add rfl rfl rfl) ?_
   refine xs (I (W (i5 + 1))) rfl rfl ?_
   refine xe ?_
   refine ru3 0 (Sl.v l0) 1 (.string name1) 5 (I (W (i5 + 1))) rfl rfl rfl ?_
   exact hag1 (l0, name1, (W (i5 + 1))) _ _ H
 ·clear H; intro hb2 H
  refine r_exit rfl ?_
  refine sr ?_
  refine xs (I (-1)) rfl rfl ?_
  refine xe ?_
  exact r_ret (fn := Try.f51) Try.func51 (res_1 rfl ⟨by decide, rfl⟩) H

/-! 52 sporran/sporranref15.Same -/
def f52_b2 (R : Value → World → Prop) (ag2 : (Sl × Sl × Int) → World → Prop) (ag6 : (Sl × Sl × Int × Int) → World → Prop) (a0 : Sl) (b1 : Sl) (i5 : Int) (k6 : Int) (w : World) : Prop :=
 Ix a0 i5 fun p_1 =>
 Ld Sl.v (some ((p_1.add (i5.toNat * 4)).add 3)) w fun v_2 =>
 IfB (decide (k6 < (v_2.len : Int))) (
  Ix a0 i5 fun p_3 =>
  Ld Sl.v (some ((p_3.add (i5.toNat * 4)).add 3)) (World.drew w) fun v_4 =>
  Ix v_4 k6 fun p_5 =>
  LdN 49 (some (p_5.add (k6.toNat * 49))) (World.drew w) fun v_6 =>
  Ix b1 i5 fun p_7 =>
  Ld Sl.v (some ((p_7.add (i5.toNat * 4)).add 3)) (World.drew w) fun v_8 =>
  Ix v_8 k6 fun p_9 =>
  LdN 49 (some (p_9.add (k6.toNat * 49))) (World.drew w) fun v_10 =>
  AggEq Try.prog 199 v_6 v_10 fun b_11 =>
  IfB (!b_11) (
   R (.bool false) (World.drew w)) (
   ag6 (a0, b1, i5, (IntKind.i64.wrap (k6 + 1))) (World.drew w))) (
  ag2 (a0, b1, (IntKind.i64.wrap (i5 + 1))) w)
def f52_k1 (R : Value → World → Prop) (ag2 : (Sl × Sl × Int) → World → Prop) (a0 : Sl) (b1 : Sl) (i5 : Int) (t69 : Bool) (w : World) : Prop :=
 IfB t69 (
  R (.bool false) w) (
  Lp (fun ag (s : Sl × Sl × Int × Int) w => f52_b2 R ag2 ag s.1 s.2.1 s.2.2.1 s.2.2.2 w) (a0, b1, i5, 0) w)
def f52_b0 (R : Value → World → Prop) (ag2 : (Sl × Sl × Int) → World → Prop) (a0 : Sl) (b1 : Sl) (i5 : Int) (w : World) : Prop :=
 IfB (decide (i5 < (a0.len : Int))) (
  Ix a0 i5 fun p_12 =>
  Ld Value.string (some ((p_12.add (i5.toNat * 4)).add 0)) (World.drew w) fun v_13 =>
  Ix b1 i5 fun p_14 =>
  Ld Value.string (some ((p_14.add (i5.toNat * 4)).add 0)) (World.drew w) fun v_15 =>
  IfB (!seq v_13 v_15) (
   f52_k1 R ag2 a0 b1 i5 true (World.drew w)) (
   Ix a0 i5 fun p_16 =>
   Ld (Value.int .i64) (some ((p_16.add (i5.toNat * 4)).add 1)) (World.drew w) fun v_17 =>
   Ix b1 i5 fun p_18 =>
   Ld (Value.int .i64) (some ((p_18.add (i5.toNat * 4)).add 1)) (World.drew w) fun v_19 =>
   IfB (!decide (v_17 = v_19)) (
    f52_k1 R ag2 a0 b1 i5 true (World.drew w)) (
    Ix a0 i5 fun p_20 =>
    Ld Value.bool (some ((p_20.add (i5.toNat * 4)).add 2)) (World.drew w) fun v_21 =>
    Ix b1 i5 fun p_22 =>
    Ld Value.bool (some ((p_22.add (i5.toNat * 4)).add 2)) (World.drew w) fun v_23 =>
    IfB (!(v_21 == v_23)) (
     f52_k1 R ag2 a0 b1 i5 true (World.drew w)) (
     Ix a0 i5 fun p_24 =>
     Ld Sl.v (some ((p_24.add (i5.toNat * 4)).add 3)) (World.drew w) fun v_25 =>
     Ix b1 i5 fun p_26 =>
     Ld Sl.v (some ((p_26.add (i5.toNat * 4)).add 3)) (World.drew w) fun v_27 =>
     f52_k1 R ag2 a0 b1 i5 (!decide ((v_25.len : Int) = (v_27.len : Int))) (World.drew w))))) (
  R (.bool true) w)
def f52 (R : Value → World → Prop) (a0 : Sl) (b1 : Sl) (w : World) : Prop :=
 IfB (!decide ((a0.len : Int) = (b1.len : Int))) (
  R (.bool false) w) (
  Lp (fun ag (s : Sl × Sl × Int) w => f52_b0 R ag s.1 s.2.1 s.2.2 w) (a0, b1, 0) w)
theorem f52_ok (R : Value → World → Prop) (a0 : Sl) (b1 : Sl) (w : World) (H : f52 R a0 b1 w) : CallF Try.prog 52 #[(Sl.v a0), (Sl.v b1)] w R := by
 refine calls_of_runs (fn := Try.f52) Try.func52 rfl (Nat.le_of_ble_eq_true rfl) ?_
 show Runs _ _ 97 _ _ _ _
 unfold f52 at H
 refine ru2 0 (Sl.v a0) 1 (Sl.v b1) rfl rfl ?_
 refine sr ?_
 refine xs (.bool false) rfl rfl ?_
 refine xe ?_
 refine r_seq ?_
 refine sr ?_
 refine xm (Sl.v a0) rfl rfl ?_
 refine xp (I (a0.len : Int)) rfl (p_len rfl u100 rfl) ?_
 refine xm (Sl.v b1) rfl rfl ?_
 refine xp (I (b1.len : Int)) rfl (p_len rfl u100 rfl) ?_
 refine xp _ rfl (p_ne rfl rfl rfl) ?_
 refine xe ?_
 refine r_condB (b := (!decide ((a0.len : Int) = (b1.len : Int)))) rfl H ?_ ?_
 ·clear H; intro hb1 H
  refine sr ?_
  refine xs (.bool false) rfl rfl ?_
  refine xe ?_
  exact r_ret (fn := Try.f52) Try.func52 (res_1 rfl ⟨by decide, rfl⟩) H
 ·clear H; intro hb1 H
  refine r_skip ?_
  refine r_seq ?_
  refine sr ?_
  refine xs (I 0) rfl rfl ?_
  refine xe ?_
  refine r_block ?_
  refine ru3 0 (Sl.v a0) 1 (Sl.v b1) 5 (I 0) rfl rfl rfl ?_
  refine r_loopJ (fun (s : Sl × Sl × Int) σ => upd 5 (I s.2.2) (upd 1 (Sl.v s.2.1) (upd 0 (Sl.v s.1) (σ)))) (s := (a0, b1, 0)) H ?_
  clear H
  rintro ag2 ⟨a0, b1, i5⟩ σ w H hag2
  replace H : f52_b0 R ag2 a0 b1 i5 w := H
  try dsimp only
  unfold f52_b0 at H
  refine r_seq ?_
  refine sr ?_
  refine xm (I i5) rfl rfl ?_
  refine xm (Sl.v a0) rfl rfl ?_
  refine xp (I (a0.len : Int)) rfl (p_len rfl u100 rfl) ?_
  refine xp _ rfl (p_lt rfl rfl rfl) ?_
  refine xe ?_
  refine r_condB (b := (decide (i5 < (a0.len : Int)))) rfl H ?_ ?_
  ·clear H; intro hb3 H
   refine r_skip ?_
   refine sb ?_
   refine r_seq ?_
   refine r_seq ?_
   refine r_topJ (fun (s : Sl × Sl × Int × Bool) σ => upd 69 (.bool s.2.2.2) (upd 5 (I s.2.2.1) (upd 1 (Sl.v s.2.1) (upd 0 (Sl.v s.1) (σ))))) (fun (s : Sl × Sl × Int × Bool) w => f52_k1 R ag2 s.1 s.2.1 s.2.2.1 s.2.2.2 w) ?_ ?_
   ·rintro ⟨a0, b1, i5, t69⟩ σ w H
    replace H : f52_k1 R ag2 a0 b1 i5 t69 w := H
    try dsimp only
    unfold f52_k1 at H
    refine r_condB (b := t69) rfl H ?_ ?_
    ·clear H; intro hb5 H
     refine sr ?_
     refine xs (.bool false) rfl rfl ?_
     refine xe ?_
     exact r_ret (fn := Try.f52) Try.func52 (res_1 rfl ⟨by decide, rfl⟩) H
    ·clear H; intro hb5 H
     refine r_skip ?_
     refine sr ?_
     refine xs (I 0) rfl rfl ?_
     refine xe ?_
     refine r_block ?_
     refine ru4 0 (Sl.v a0) 1 (Sl.v b1) 5 (I i5) 6 (I 0) rfl rfl rfl rfl ?_
     refine r_loopJ (fun (s : Sl × Sl × Int × Int) σ => upd 6 (I s.2.2.2) (upd 5 (I s.2.2.1) (upd 1 (Sl.v s.2.1) (upd 0 (Sl.v s.1) (σ))))) (s := (a0, b1, i5, 0)) H ?_
     clear H
     rintro ag6 ⟨a0, b1, i5, k6⟩ σ w H hag6
     replace H : f52_b2 R ag2 ag6 a0 b1 i5 k6 w := H
     try dsimp only
     unfold f52_b2 at H
     refine r_seq ?_
     refine sr ?_
     refine xm (I k6) rfl rfl ?_
     refine xm (Sl.v a0) rfl rfl ?_
     refine xm (I i5) rfl rfl ?_
     obtain ⟨p_1, hap_1, hlp_1, hup_1, H⟩ := H
     refine xp _ rfl (p_indexAddr (s := a0) (ad := p_1) (size := 4) rfl u100 Try.ti104 rfl rfl hap_1 hlp_1 hup_1) ?_
     refine xp _ rfl (p_fieldAddr (off := 3) (ft := 102) (size := 1) rfl u104 rfl Try.ti102 (by decide) rfl rfl) ?_
     obtain ⟨adv_2, v_2, hev_2, hcv_2, H⟩ := H
     refine xr (Sl.v v_2) rfl (wo rfl) rfl u102 rfl rfl hev_2 hcv_2 ?_
     refine xp (I (v_2.len : Int)) rfl (p_len rfl u102 rfl) ?_
     refine xp _ rfl (p_lt rfl rfl rfl) ?_
     refine xe ?_
     refine r_condB (b := (decide (k6 < (v_2.len : Int)))) rfl H ?_ ?_
     ·clear H; intro hb7 H
      refine r_skip ?_
      refine sb ?_
      refine r_seq ?_
      refine r_draw #[[], [], [0, 1], [0, 1, 2], [0, 1, 2, 3], [], [0, 1, 2, 3, 4, 5], [0, 1, 2, 3, 4, 5, 6], [], [], [8, 9], [8, 9, 10], [8, 9, 10, 11], [], [8, 9, 10, 11, 12, 13], [8, 9, 10, 11, 12, 13, 14], [0, 1, 2, 3, 4, 5, 6, 7, 8, 9, 10, 11, 12, 13, 14, 15]] 17 rfl rfl ?_
      refine am 0 (Sl.v a0) rfl rfl rfl ?_
      refine am 1 (I i5) rfl rfl rfl ?_
      obtain ⟨p_3, hap_3, hlp_3, hup_3, H⟩ := H
      refine ap 2 _ rfl rfl (p_indexAddr (s := a0) (ad := p_3) (size := 4) rfl u100 Try.ti104 rfl rfl hap_3 hlp_3 hup_3) ?_
      refine ap 3 _ rfl rfl (p_fieldAddr (off := 3) (ft := 102) (size := 1) rfl u104 rfl Try.ti102 (by decide) rfl rfl) ?_
      obtain ⟨adv_4, v_4, hev_4, hcv_4, H⟩ := H
      refine ar 4 (Sl.v v_4) rfl rfl (wo rfl) rfl u102 rfl rfl hev_4 hcv_4 ?_
      refine am 5 (I k6) rfl rfl rfl ?_
      obtain ⟨p_5, hap_5, hlp_5, hup_5, H⟩ := H
      refine ap 6 _ rfl rfl (p_indexAddr (s := v_4) (ad := p_5) (size := 49) rfl u102 Try.ti199 rfl rfl hap_5 hlp_5 hup_5) ?_
      obtain ⟨adv_6, v_6, hev_6, hnv_6, hcv_6, H⟩ := H
      refine xa_read (v := (.agg v_6)) (S := (fun w => Row w adv_6 v_6)) 7 (by decide +kernel) rfl rfl (wo rfl) (fun w hc => rd_loadN (ad := adv_6) rfl u199 rfl Try.ti199 (by show Value.pointer _ = _; rw [hev_6]) hnv_6 hc) hcv_6 ?_
      refine am 8 (Sl.v b1) rfl rfl rfl ?_
      refine am 9 (I i5) rfl rfl rfl ?_
      obtain ⟨p_7, hap_7, hlp_7, hup_7, H⟩ := H
      refine ap 10 _ rfl rfl (p_indexAddr (s := b1) (ad := p_7) (size := 4) rfl u100 Try.ti104 rfl rfl hap_7 hlp_7 hup_7) ?_
      refine ap 11 _ rfl rfl (p_fieldAddr (off := 3) (ft := 102) (size := 1) rfl u104 rfl Try.ti102 (by decide) rfl rfl) ?_
      obtain ⟨adv_8, v_8, hev_8, hcv_8, H⟩ := H
      refine ar 12 (Sl.v v_8) rfl rfl (wo rfl) rfl u102 rfl rfl hev_8 hcv_8 ?_
      refine am 13 (I k6) rfl rfl rfl ?_
      obtain ⟨p_9, hap_9, hlp_9, hup_9, H⟩ := H
      refine ap 14 _ rfl rfl (p_indexAddr (s := v_8) (ad := p_9) (size := 49) rfl u102 Try.ti199 rfl rfl hap_9 hlp_9 hup_9) ?_
      obtain ⟨adv_10, v_10, hev_10, hnv_10, hcv_10, H⟩ := H
      refine xa_read (v := (.agg v_10)) (S := (fun w => Row w adv_10 v_10)) 15 (by decide +kernel) rfl rfl (wo rfl) (fun w hc => rd_loadN (ad := adv_10) rfl u199 rfl Try.ti199 (by show Value.pointer _ = _; rw [hev_10]) hnv_10 hc) hcv_10 ?_
      obtain ⟨b_11, hqb_11, H⟩ := H
      refine ap 16 (.bool (!b_11)) rfl rfl (p_aggNe rfl hqb_11 rfl rfl) ?_
      refine ax ?_
      refine r_condB (b := (!b_11)) rfl H ?_ ?_
      ·clear H; intro hb8 H
       refine sr ?_
       refine xs (.bool false) rfl rfl ?_
       refine xe ?_
       exact r_ret (fn := Try.f52) Try.func52 (res_1 rfl ⟨by decide, rfl⟩) H
      ·clear H; intro hb8 H
       refine r_skip ?_
       refine r_inBlock ?_
       refine r_region ?_
       refine xm (I k6) rfl rfl ?_
       refine xp _ rfl (p_add rfl rfl rfl) ?_
       refine xs (I (W (k6 + 1))) rfl rfl ?_
       refine xe ?_
       refine ru4 0 (Sl.v a0) 1 (Sl.v b1) 5 (I i5) 6 (I (W (k6 + 1))) rfl rfl rfl rfl ?_
       exact hag6 (a0, b1, i5, (W (k6 + 1))) _ _ H
     ·clear H; intro hb7 H
      refine r_exit rfl ?_
      refine r_inBlock ?_
      refine r_region ?_
      refine xm (I i5) rfl rfl ?_
      refine xp _ rfl (p_add rfl rfl rfl) ?_
      refine xs (I (W (i5 + 1))) rfl rfl ?_
      refine xe ?_
      refine ru3 0 (Sl.v a0) 1 (Sl.v b1) 5 (I (W (i5 + 1))) rfl rfl rfl ?_
      exact hag2 (a0, b1, (W (i5 + 1))) _ _ H
   ·intro J4
    refine r_draw #[[], [], [0, 1], [0, 1, 2], [0, 1, 2, 3], [], [], [5, 6], [5, 6, 7], [5, 6, 7, 8], [0, 1, 2, 3, 4, 5, 6, 7, 8, 9], [0, 1, 2, 3, 4, 5, 6, 7, 8, 9, 10], [0, 1, 2, 3, 4, 5, 6, 7, 8, 9, 10, 11], [0, 1, 2, 3, 4, 5, 6, 7, 8, 9, 10, 11], [0, 1, 2, 3, 4, 5, 6, 7, 8, 9, 10, 11, 12, 13], [0, 1, 2, 3, 4, 5, 6, 7, 8, 9, 10, 11, 12, 13, 14], [0, 1, 2, 3, 4, 5, 6, 7, 8, 9, 10, 11, 12, 13, 14, 15], [0, 1, 2, 3, 4, 5, 6, 7, 8, 9, 10, 11], [0, 1, 2, 3, 4, 5, 6, 7, 8, 9, 10, 11], [0, 1, 2, 3, 4, 5, 6, 7, 8, 9, 10, 11, 17, 18], [0, 1, 2, 3, 4, 5, 6, 7, 8, 9, 10, 11, 17, 18, 19], [0, 1, 2, 3, 4, 5, 6, 7, 8, 9, 10, 11, 17, 18, 19, 20], [0, 1, 2, 3, 4, 5, 6, 7, 8, 9, 10, 11, 12, 13, 14, 15, 16, 17, 18, 19, 20, 21], [0, 1, 2, 3, 4, 5, 6, 7, 8, 9, 10, 11, 12, 13, 14, 15, 16, 17, 18, 19, 20, 21, 22], [0, 1, 2, 3, 4, 5, 6, 7, 8, 9, 10, 11, 12, 13, 14, 15, 16, 17, 18, 19, 20, 21, 22, 23], [0, 1, 2, 3, 4, 5, 6, 7, 8, 9, 10, 11, 12, 13, 14, 15, 16, 17, 18, 19, 20, 21, 22, 23, 24], [0, 1, 2, 3, 4, 5, 6, 7, 8, 9, 10, 11, 12, 13, 14, 15, 16, 17, 18, 19, 20, 21, 22, 23, 24], [0, 1, 2, 3, 4, 5, 6, 7, 8, 9, 10, 11, 12, 13, 14, 15, 16, 17, 18, 19, 20, 21, 22, 23, 24, 25, 26], [0, 1, 2, 3, 4, 5, 6, 7, 8, 9, 10, 11, 12, 13, 14, 15, 16, 17, 18, 19, 20, 21, 22, 23, 24, 25, 26, 27], [0, 1, 2, 3, 4, 5, 6, 7, 8, 9, 10, 11, 12, 13, 14, 15, 16, 17, 18, 19, 20, 21, 22, 23, 24, 25, 26, 27, 28], [0, 1, 2, 3, 4, 5, 6, 7, 8, 9, 10, 11, 12, 13, 14, 15, 16, 17, 18, 19, 20, 21, 22, 23, 24], [0, 1, 2, 3, 4, 5, 6, 7, 8, 9, 10, 11, 12, 13, 14, 15, 16, 17, 18, 19, 20, 21, 22, 23, 24], [0, 1, 2, 3, 4, 5, 6, 7, 8, 9, 10, 11, 12, 13, 14, 15, 16, 17, 18, 19, 20, 21, 22, 23, 24, 30, 31], [0, 1, 2, 3, 4, 5, 6, 7, 8, 9, 10, 11, 12, 13, 14, 15, 16, 17, 18, 19, 20, 21, 22, 23, 24, 30, 31, 32], [0, 1, 2, 3, 4, 5, 6, 7, 8, 9, 10, 11, 12, 13, 14, 15, 16, 17, 18, 19, 20, 21, 22, 23, 24, 30, 31, 32, 33], [0, 1, 2, 3, 4, 5, 6, 7, 8, 9, 10, 11, 12, 13, 14, 15, 16, 17, 18, 19, 20, 21, 22, 23, 24, 25, 26, 27, 28, 29, 30, 31, 32, 33, 34], [0, 1, 2, 3, 4, 5, 6, 7, 8, 9, 10, 11, 12, 13, 14, 15, 16, 17, 18, 19, 20, 21, 22, 23, 24, 25, 26, 27, 28, 29, 30, 31, 32, 33, 34, 35], [0, 1, 2, 3, 4, 5, 6, 7, 8, 9, 10, 11, 12, 13, 14, 15, 16, 17, 18, 19, 20, 21, 22, 23, 24, 25, 26, 27, 28, 29, 30, 31, 32, 33, 34, 35, 36], [0, 1, 2, 3, 4, 5, 6, 7, 8, 9, 10, 11, 12, 13, 14, 15, 16, 17, 18, 19, 20, 21, 22, 23, 24, 25, 26, 27, 28, 29, 30, 31, 32, 33, 34, 35, 36, 37], [0, 1, 2, 3, 4, 5, 6, 7, 8, 9, 10, 11, 12, 13, 14, 15, 16, 17, 18, 19, 20, 21, 22, 23, 24, 25, 26, 27, 28, 29, 30, 31, 32, 33, 34, 35, 36, 37], [0, 1, 2, 3, 4, 5, 6, 7, 8, 9, 10, 11, 12, 13, 14, 15, 16, 17, 18, 19, 20, 21, 22, 23, 24, 25, 26, 27, 28, 29, 30, 31, 32, 33, 34, 35, 36, 37, 38, 39], [0, 1, 2, 3, 4, 5, 6, 7, 8, 9, 10, 11, 12, 13, 14, 15, 16, 17, 18, 19, 20, 21, 22, 23, 24, 25, 26, 27, 28, 29, 30, 31, 32, 33, 34, 35, 36, 37, 38, 39, 40], [0, 1, 2, 3, 4, 5, 6, 7, 8, 9, 10, 11, 12, 13, 14, 15, 16, 17, 18, 19, 20, 21, 22, 23, 24, 25, 26, 27, 28, 29, 30, 31, 32, 33, 34, 35, 36, 37, 38, 39, 40, 41], [0, 1, 2, 3, 4, 5, 6, 7, 8, 9, 10, 11, 12, 13, 14, 15, 16, 17, 18, 19, 20, 21, 22, 23, 24, 25, 26, 27, 28, 29, 30, 31, 32, 33, 34, 35, 36, 37, 38, 39, 40, 41, 42], [0, 1, 2, 3, 4, 5, 6, 7, 8, 9, 10, 11, 12, 13, 14, 15, 16, 17, 18, 19, 20, 21, 22, 23, 24, 25, 26, 27, 28, 29, 30, 31, 32, 33, 34, 35, 36, 37], [0, 1, 2, 3, 4, 5, 6, 7, 8, 9, 10, 11, 12, 13, 14, 15, 16, 17, 18, 19, 20, 21, 22, 23, 24, 25, 26, 27, 28, 29, 30, 31, 32, 33, 34, 35, 36, 37], [0, 1, 2, 3, 4, 5, 6, 7, 8, 9, 10, 11, 12, 13, 14, 15, 16, 17, 18, 19, 20, 21, 22, 23, 24, 25, 26, 27, 28, 29, 30, 31, 32, 33, 34, 35, 36, 37, 44, 45], [0, 1, 2, 3, 4, 5, 6, 7, 8, 9, 10, 11, 12, 13, 14, 15, 16, 17, 18, 19, 20, 21, 22, 23, 24, 25, 26, 27, 28, 29, 30, 31, 32, 33, 34, 35, 36, 37, 44, 45, 46], [0, 1, 2, 3, 4, 5, 6, 7, 8, 9, 10, 11, 12, 13, 14, 15, 16, 17, 18, 19, 20, 21, 22, 23, 24, 25, 26, 27, 28, 29, 30, 31, 32, 33, 34, 35, 36, 37, 44, 45, 46, 47], [0, 1, 2, 3, 4, 5, 6, 7, 8, 9, 10, 11, 12, 13, 14, 15, 16, 17, 18, 19, 20, 21, 22, 23, 24, 25, 26, 27, 28, 29, 30, 31, 32, 33, 34, 35, 36, 37, 44, 45, 46, 47, 48], [0, 1, 2, 3, 4, 5, 6, 7, 8, 9, 10, 11, 12, 13, 14, 15, 16, 17, 18, 19, 20, 21, 22, 23, 24, 25, 26, 27, 28, 29, 30, 31, 32, 33, 34, 35, 36, 37, 38, 39, 40, 41, 42, 43, 44, 45, 46, 47, 48, 49], [0, 1, 2, 3, 4, 5, 6, 7, 8, 9, 10, 11, 12, 13, 14, 15, 16, 17, 18, 19, 20, 21, 22, 23, 24, 25, 26, 27, 28, 29, 30, 31, 32, 33, 34, 35, 36, 37, 38, 39, 40, 41, 42, 43, 44, 45, 46, 47, 48, 49, 50]] 52 rfl rfl ?_
    refine am 0 (Sl.v a0) rfl rfl rfl ?_
    refine am 1 (I i5) rfl rfl rfl ?_
    obtain ⟨p_12, hap_12, hlp_12, hup_12, H⟩ := H
    refine ap 2 _ rfl rfl (p_indexAddr (s := a0) (ad := p_12) (size := 4) rfl u100 Try.ti104 rfl rfl hap_12 hlp_12 hup_12) ?_
    refine ap 3 _ rfl rfl (p_fieldAddr (off := 0) (ft := 9) (size := 1) rfl u104 rfl Try.ti9 (by decide) rfl rfl) ?_
    obtain ⟨adv_13, v_13, hev_13, hcv_13, H⟩ := H
    refine ar 4 (.string v_13) rfl rfl (wo rfl) rfl u9 rfl rfl hev_13 hcv_13 ?_
    refine am 5 (Sl.v b1) rfl rfl rfl ?_
    refine am 6 (I i5) rfl rfl rfl ?_
    obtain ⟨p_14, hap_14, hlp_14, hup_14, H⟩ := H
    refine ap 7 _ rfl rfl (p_indexAddr (s := b1) (ad := p_14) (size := 4) rfl u100 Try.ti104 rfl rfl hap_14 hlp_14 hup_14) ?_
    refine ap 8 _ rfl rfl (p_fieldAddr (off := 0) (ft := 9) (size := 1) rfl u104 rfl Try.ti9 (by decide) rfl rfl) ?_
    obtain ⟨adv_15, v_15, hev_15, hcv_15, H⟩ := H
    refine ar 9 (.string v_15) rfl rfl (wo rfl) rfl u9 rfl rfl hev_15 hcv_15 ?_
    refine ap 10 (.bool (!seq v_13 v_15)) rfl rfl (p_sne rfl rfl rfl) ?_
    refine am 11 (.bool (!seq v_13 v_15)) rfl rfl rfl ?_
    refine ifB_cases H ?_ ?_
    ·clear H; intro hb9 H
     refine ak 12 rfl rfl (wn 29 rfl rfl rfl hb9) ?_
     refine ak 13 rfl rfl (wn 29 rfl rfl rfl hb9) ?_
     refine ak 14 rfl rfl (wn 29 rfl rfl rfl hb9) ?_
     refine ak 15 rfl rfl (wn 29 rfl rfl rfl hb9) ?_
     refine ak 16 rfl rfl (wn 29 rfl rfl rfl hb9) ?_
     refine ak 17 rfl rfl (wn 29 rfl rfl rfl hb9) ?_
     refine ak 18 rfl rfl (wn 29 rfl rfl rfl hb9) ?_
     refine ak 19 rfl rfl (wn 29 rfl rfl rfl hb9) ?_
     refine ak 20 rfl rfl (wn 29 rfl rfl rfl hb9) ?_
     refine ak 21 rfl rfl (wn 29 rfl rfl rfl hb9) ?_
     refine ak 22 rfl rfl (wn 29 rfl rfl rfl hb9) ?_
     refine ap 23 (.bool true) rfl rfl (p_pickT rfl rfl hb9 rfl) ?_
     refine am 24 (.bool true) rfl rfl rfl ?_
     refine ak 25 rfl rfl (wn 42 rfl rfl rfl rfl) ?_
     refine ak 26 rfl rfl (wn 42 rfl rfl rfl rfl) ?_
     refine ak 27 rfl rfl (wn 42 rfl rfl rfl rfl) ?_
     refine ak 28 rfl rfl (wn 42 rfl rfl rfl rfl) ?_
     refine ak 29 rfl rfl (wn 42 rfl rfl rfl rfl) ?_
     refine ak 30 rfl rfl (wn 42 rfl rfl rfl rfl) ?_
     refine ak 31 rfl rfl (wn 42 rfl rfl rfl rfl) ?_
     refine ak 32 rfl rfl (wn 42 rfl rfl rfl rfl) ?_
     refine ak 33 rfl rfl (wn 42 rfl rfl rfl rfl) ?_
     refine ak 34 rfl rfl (wn 42 rfl rfl rfl rfl) ?_
     refine ak 35 rfl rfl (wn 42 rfl rfl rfl rfl) ?_
     refine ap 36 (.bool true) rfl rfl (p_pickT rfl rfl rfl rfl) ?_
     refine am 37 (.bool true) rfl rfl rfl ?_
     refine ak 38 rfl rfl (wn 55 rfl rfl rfl rfl) ?_
     refine ak 39 rfl rfl (wn 55 rfl rfl rfl rfl) ?_
     refine ak 40 rfl rfl (wn 55 rfl rfl rfl rfl) ?_
     refine ak 41 rfl rfl (wn 55 rfl rfl rfl rfl) ?_
     refine ak 42 rfl rfl (wn 55 rfl rfl rfl rfl) ?_
     refine ak 43 rfl rfl (wn 55 rfl rfl rfl rfl) ?_
     refine ak 44 rfl rfl (wn 55 rfl rfl rfl rfl) ?_
     refine ak 45 rfl rfl (wn 55 rfl rfl rfl rfl) ?_
     refine ak 46 rfl rfl (wn 55 rfl rfl rfl rfl) ?_
     refine ak 47 rfl rfl (wn 55 rfl rfl rfl rfl) ?_
     refine ak 48 rfl rfl (wn 55 rfl rfl rfl rfl) ?_
     refine ak 49 rfl rfl (wn 55 rfl rfl rfl rfl) ?_
     refine ak 50 rfl rfl (wn 55 rfl rfl rfl rfl) ?_
     refine ap 51 (.bool true) rfl rfl (p_pickT rfl rfl rfl rfl) ?_
     refine ax ?_
     refine ru4 0 (Sl.v a0) 1 (Sl.v b1) 5 (I i5) 69 (.bool true) rfl rfl rfl rfl ?_
     exact J4 (a0, b1, i5, true) _ _ H
    ·clear H; intro hb9 H
     refine ay 12 (Sl.v a0) rfl rfl (wy 29 rfl rfl rfl hb9) (p_move rfl rfl) ?_
     refine ay 13 (I i5) rfl rfl (wy 29 rfl rfl rfl hb9) (p_move rfl rfl) ?_
     obtain ⟨p_16, hap_16, hlp_16, hup_16, H⟩ := H
     refine ay 14 (.pointer (some (p_16.add (i5.toNat * 4)))) rfl rfl (wy 29 rfl rfl rfl hb9) (p_indexAddr (s := a0) (ad := p_16) (size := 4) rfl u100 Try.ti104 rfl rfl hap_16 hlp_16 hup_16) ?_
     refine ay 15 (.pointer (some ((p_16.add (i5.toNat * 4)).add 1))) rfl rfl (wy 29 rfl rfl rfl hb9) (p_fieldAddr (off := 1) (ft := 3) (size := 1) rfl u104 rfl Try.ti3 (by decide) rfl rfl) ?_
     obtain ⟨adv_17, v_17, hev_17, hcv_17, H⟩ := H
     refine ar 16 (I v_17) rfl rfl (wy 29 rfl rfl rfl hb9) rfl u3 rfl rfl hev_17 hcv_17 ?_
     refine ay 17 (Sl.v b1) rfl rfl (wy 29 rfl rfl rfl hb9) (p_move rfl rfl) ?_
     refine ay 18 (I i5) rfl rfl (wy 29 rfl rfl rfl hb9) (p_move rfl rfl) ?_
     obtain ⟨p_18, hap_18, hlp_18, hup_18, H⟩ := H
     refine ay 19 (.pointer (some (p_18.add (i5.toNat * 4)))) rfl rfl (wy 29 rfl rfl rfl hb9) (p_indexAddr (s := b1) (ad := p_18) (size := 4) rfl u100 Try.ti104 rfl rfl hap_18 hlp_18 hup_18) ?_
     refine ay 20 (.pointer (some ((p_18.add (i5.toNat * 4)).add 1))) rfl rfl (wy 29 rfl rfl rfl hb9) (p_fieldAddr (off := 1) (ft := 3) (size := 1) rfl u104 rfl Try.ti3 (by decide) rfl rfl) ?_
     obtain ⟨adv_19, v_19, hev_19, hcv_19, H⟩ := H
     refine ar 21 (I v_19) rfl rfl (wy 29 rfl rfl rfl hb9) rfl u3 rfl rfl hev_19 hcv_19 ?_
     refine ay 22 (.bool (!decide (v_17 = v_19))) rfl rfl (wy 29 rfl rfl rfl hb9) (p_ne rfl rfl rfl) ?_
     refine ap 23 (.bool (!decide (v_17 = v_19))) rfl rfl (p_pickF rfl rfl hb9 rfl) ?_
     refine am 24 (.bool (!decide (v_17 = v_19))) rfl rfl rfl ?_
     refine ifB_cases H ?_ ?_
     ·clear H; intro hb10 H
      refine ak 25 rfl rfl (wn 42 rfl rfl rfl hb10) ?_
      refine ak 26 rfl rfl (wn 42 rfl rfl rfl hb10) ?_
      refine ak 27 rfl rfl (wn 42 rfl rfl rfl hb10) ?_
      refine ak 28 rfl rfl (wn 42 rfl rfl rfl hb10) ?_
      refine ak 29 rfl rfl (wn 42 rfl rfl rfl hb10) ?_
      refine ak 30 rfl rfl (wn 42 rfl rfl rfl hb10) ?_
      refine ak 31 rfl rfl (wn 42 rfl rfl rfl hb10) ?_
      refine ak 32 rfl rfl (wn 42 rfl rfl rfl hb10) ?_
      refine ak 33 rfl rfl (wn 42 rfl rfl rfl hb10) ?_
      refine ak 34 rfl rfl (wn 42 rfl rfl rfl hb10) ?_
      refine ak 35 rfl rfl (wn 42 rfl rfl rfl hb10) ?_
      refine ap 36 (.bool true) rfl rfl (p_pickT rfl rfl hb10 rfl) ?_
      refine am 37 (.bool true) rfl rfl rfl ?_
      refine ak 38 rfl rfl (wn 55 rfl rfl rfl rfl) ?_
      refine ak 39 rfl rfl (wn 55 rfl rfl rfl rfl) ?_
      refine ak 40 rfl rfl (wn 55 rfl rfl rfl rfl) ?_
      refine ak 41 rfl rfl (wn 55 rfl rfl rfl rfl) ?_
      refine ak 42 rfl rfl (wn 55 rfl rfl rfl rfl) ?_
      refine ak 43 rfl rfl (wn 55 rfl rfl rfl rfl) ?_
      refine ak 44 rfl rfl (wn 55 rfl rfl rfl rfl) ?_
      refine ak 45 rfl rfl (wn 55 rfl rfl rfl rfl) ?_
      refine ak 46 rfl rfl (wn 55 rfl rfl rfl rfl) ?_
      refine ak 47 rfl rfl (wn 55 rfl rfl rfl rfl) ?_
      refine ak 48 rfl rfl (wn 55 rfl rfl rfl rfl) ?_
      refine ak 49 rfl rfl (wn 55 rfl rfl rfl rfl) ?_
      refine ak 50 rfl rfl (wn 55 rfl rfl rfl rfl) ?_
      refine ap 51 (.bool true) rfl rfl (p_pickT rfl rfl rfl rfl) ?_
      refine ax ?_
      refine ru4 0 (Sl.v a0) 1 (Sl.v b1) 5 (I i5) 69 (.bool true) rfl rfl rfl rfl ?_
      exact J4 (a0, b1, i5, true) _ _ H
     ·clear H; intro hb10 H
      refine ay 25 (Sl.v a0) rfl rfl (wy 42 rfl rfl rfl hb10) (p_move rfl rfl) ?_
      refine ay 26 (I i5) rfl rfl (wy 42 rfl rfl rfl hb10) (p_move rfl rfl) ?_
      obtain ⟨p_20, hap_20, hlp_20, hup_20, H⟩ := H
      refine ay 27 (.pointer (some (p_20.add (i5.toNat * 4)))) rfl rfl (wy 42 rfl rfl rfl hb10) (p_indexAddr (s := a0) (ad := p_20) (size := 4) rfl u100 Try.ti104 rfl rfl hap_20 hlp_20 hup_20) ?_
      refine ay 28 (.pointer (some ((p_20.add (i5.toNat * 4)).add 2))) rfl rfl (wy 42 rfl rfl rfl hb10) (p_fieldAddr (off := 2) (ft := 4) (size := 1) rfl u104 rfl Try.ti4 (by decide) rfl rfl) ?_
      obtain ⟨adv_21, v_21, hev_21, hcv_21, H⟩ := H
      refine ar 29 (.bool v_21) rfl rfl (wy 42 rfl rfl rfl hb10) rfl u4 rfl rfl hev_21 hcv_21 ?_
      refine ay 30 (Sl.v b1) rfl rfl (wy 42 rfl rfl rfl hb10) (p_move rfl rfl) ?_
      refine ay 31 (I i5) rfl rfl (wy 42 rfl rfl rfl hb10) (p_move rfl rfl) ?_
      obtain ⟨p_22, hap_22, hlp_22, hup_22, H⟩ := H
      refine ay 32 (.pointer (some (p_22.add (i5.toNat * 4)))) rfl rfl (wy 42 rfl rfl rfl hb10) (p_indexAddr (s := b1) (ad := p_22) (size := 4) rfl u100 Try.ti104 rfl rfl hap_22 hlp_22 hup_22) ?_
      refine ay 33 (.pointer (some ((p_22.add (i5.toNat * 4)).add 2))) rfl rfl (wy 42 rfl rfl rfl hb10) (p_fieldAddr (off := 2) (ft := 4) (size := 1) rfl u104 rfl Try.ti4 (by decide) rfl rfl) ?_
      obtain ⟨adv_23, v_23, hev_23, hcv_23, H⟩ := H
      refine ar 34 (.bool v_23) rfl rfl (wy 42 rfl rfl rfl hb10) rfl u4 rfl rfl hev_23 hcv_23 ?_
      refine ay 35 (.bool (!(v_21 == v_23))) rfl rfl (wy 42 rfl rfl rfl hb10) (p_bne rfl u4 rfl rfl) ?_
      refine ap 36 (.bool (!(v_21 == v_23))) rfl rfl (p_pickF rfl rfl hb10 rfl) ?_
      refine am 37 (.bool (!(v_21 == v_23))) rfl rfl rfl ?_
      refine ifB_cases H ?_ ?_
      ·clear H; intro hb11 H
       refine ak 38 rfl rfl (wn 55 rfl rfl rfl hb11) ?_
       refine ak 39 rfl rfl (wn 55 rfl rfl rfl hb11) ?_
       refine ak 40 rfl rfl (wn 55 rfl rfl rfl hb11) ?_
       refine ak 41 rfl rfl (wn 55 rfl rfl rfl hb11) ?_
       refine ak 42 rfl rfl (wn 55 rfl rfl rfl hb11) ?_
       refine ak 43 rfl rfl (wn 55 rfl rfl rfl hb11) ?_
       refine ak 44 rfl rfl (wn 55 rfl rfl rfl hb11) ?_
       refine ak 45 rfl rfl (wn 55 rfl rfl rfl hb11) ?_
       refine ak 46 rfl rfl (wn 55 rfl rfl rfl hb11) ?_
       refine ak 47 rfl rfl (wn 55 rfl rfl rfl hb11) ?_
       refine ak 48 rfl rfl (wn 55 rfl rfl rfl hb11) ?_
       refine ak 49 rfl rfl (wn 55 rfl rfl rfl hb11) ?_
       refine ak 50 rfl rfl (wn 55 rfl rfl rfl hb11) ?_
       refine ap 51 (.bool true) rfl rfl (p_pickT rfl rfl hb11 rfl) ?_
       refine ax ?_
       refine ru4 0 (Sl.v a0) 1 (Sl.v b1) 5 (I i5) 69 (.bool true) rfl rfl rfl rfl ?_
       exact J4 (a0, b1, i5, true) _ _ H
      ·clear H; intro hb11 H
       refine ay 38 (Sl.v a0) rfl rfl (wy 55 rfl rfl rfl hb11) (p_move rfl rfl) ?_
       refine ay 39 (I i5) rfl rfl (wy 55 rfl rfl rfl hb11) (p_move rfl rfl) ?_
       obtain ⟨p_24, hap_24, hlp_24, hup_24, H⟩ := H
       refine ay 40 (.pointer (some (p_24.add (i5.toNat * 4)))) rfl rfl (wy 55 rfl rfl rfl hb11) (p_indexAddr (s := a0) (ad := p_24) (size := 4) rfl u100 Try.ti104 rfl rfl hap_24 hlp_24 hup_24) ?_
       refine ay 41 (.pointer (some ((p_24.add (i5.toNat * 4)).add 3))) rfl rfl (wy 55 rfl rfl rfl hb11) (p_fieldAddr (off := 3) (ft := 102) (size := 1) rfl u104 rfl Try.ti102 (by decide) rfl rfl) ?_
       obtain ⟨adv_25, v_25, hev_25, hcv_25, H⟩ := H
       refine ar 42 (Sl.v v_25) rfl rfl (wy 55 rfl rfl rfl hb11) rfl u102 rfl rfl hev_25 hcv_25 ?_
       refine ay 43 (I (v_25.len : Int)) rfl rfl (wy 55 rfl rfl rfl hb11) (p_len rfl u102 rfl) ?_
       refine ay 44 (Sl.v b1) rfl rfl (wy 55 rfl rfl rfl hb11) (p_move rfl rfl) ?_
       refine ay 45 (I i5) rfl rfl (wy 55 rfl rfl rfl hb11) (p_move rfl rfl) ?_
       obtain ⟨p_26, hap_26, hlp_26, hup_26, H⟩ := H
       refine ay 46 (.pointer (some (p_26.add (i5.toNat * 4)))) rfl rfl (wy 55 rfl rfl rfl hb11) (p_indexAddr (s := b1) (ad := p_26) (size := 4) rfl u100 Try.ti104 rfl rfl hap_26 hlp_26 hup_26) ?_
       refine ay 47 (.pointer (some ((p_26.add (i5.toNat * 4)).add 3))) rfl rfl (wy 55 rfl rfl rfl hb11) (p_fieldAddr (off := 3) (ft := 102) (size := 1) rfl u104 rfl Try.ti102 (by decide) rfl rfl) ?_
       obtain ⟨adv_27, v_27, hev_27, hcv_27, H⟩ := H
       refine ar 48 (Sl.v v_27) rfl rfl (wy 55 rfl rfl rfl hb11) rfl u102 rfl rfl hev_27 hcv_27 ?_
       refine ay 49 (I (v_27.len : Int)) rfl rfl (wy 55 rfl rfl rfl hb11) (p_len rfl u102 rfl) ?_
       refine ay 50 (.bool (!decide ((v_25.len : Int) = (v_27.len : Int)))) rfl rfl (wy 55 rfl rfl rfl hb11) (p_ne rfl rfl rfl) ?_
       refine ap 51 (.bool (!decide ((v_25.len : Int) = (v_27.len : Int)))) rfl rfl (p_pickF rfl rfl hb11 rfl) ?_
       refine ax ?_
       refine ru4 0 (Sl.v a0) 1 (Sl.v b1) 5 (I i5) 69 (.bool (!decide ((v_25.len : Int) = (v_27.len : Int)))) rfl rfl rfl rfl ?_
       exact J4 (a0, b1, i5, (!decide ((v_25.len : Int) = (v_27.len : Int)))) _ _ H
  ·clear H; intro hb3 H
   refine r_exit rfl ?_
   refine sr ?_
   refine xs (.bool true) rfl rfl ?_
   refine xe ?_
   exact r_ret (fn := Try.f52) Try.func52 (res_1 rfl ⟨by decide, rfl⟩) H

/-! 53 sporran/model.Changes -/
def f53 (R : Value → World → Prop) (kind0 : Int) (w : World) : Prop :=
 IfB (decide (1 ≤ kind0)) (
  IfB (decide (kind0 ≤ 7)) (
   R (.bool (!decide (kind0 = 5))) w) (
   R (.bool false) w)) (
  R (.bool false) w)
theorem f53_ok (R : Value → World → Prop) (kind0 : Int) (w : World) (H : f53 R kind0 w) : CallF Try.prog 53 #[(.int .i64 kind0)] w R := by
 refine calls_of_runs (fn := Try.f53) Try.func53 rfl (Nat.le_of_ble_eq_true rfl) ?_
 show Runs _ _ 13 _ _ _ _
 unfold f53 at H
 refine ru 0 (I kind0) rfl ?_
 refine sr ?_
 refine xs (.bool false) rfl rfl ?_
 refine xe ?_
 refine sr ?_
 refine xm (I kind0) rfl rfl ?_
 refine xp _ rfl (p_ge rfl rfl rfl) ?_
 refine xm (.bool (decide (1 ≤ kind0))) rfl rfl ?_
 refine ifB_cases H ?_ ?_
 ·clear H; intro hb1 H
  refine yp (I kind0) rfl (wy 5 rfl rfl rfl hb1) (p_move rfl rfl) ?_
  refine yp (.bool (decide (kind0 ≤ 7))) rfl (wy 5 rfl rfl rfl hb1) (p_le rfl rfl rfl) ?_
  refine xp (.bool (decide (kind0 ≤ 7))) rfl (p_pickT rfl rfl hb1 rfl) ?_
  refine xm (.bool (decide (kind0 ≤ 7))) rfl rfl ?_
  refine ifB_cases H ?_ ?_
  ·clear H; intro hb2 H
   refine yp (I kind0) rfl (wy 9 rfl rfl rfl hb2) (p_move rfl rfl) ?_
   refine yp (.bool (!decide (kind0 = 5))) rfl (wy 9 rfl rfl rfl hb2) (p_ne rfl rfl rfl) ?_
   refine xp (.bool (!decide (kind0 = 5))) rfl (p_pickT rfl rfl hb2 rfl) ?_
   refine xs (.bool (!decide (kind0 = 5))) rfl rfl ?_
   refine xe ?_
   exact r_ret (fn := Try.f53) Try.func53 (res_1 rfl ⟨by decide, rfl⟩) H
  ·clear H; intro hb2 H
   refine xo_skip rfl (wn 9 rfl rfl rfl hb2) ?_
   refine xo_skip rfl (wn 9 rfl rfl rfl hb2) ?_
   refine xp (.bool false) rfl (p_pickF rfl rfl hb2 rfl) ?_
   refine xs (.bool false) rfl rfl ?_
   refine xe ?_
   exact r_ret (fn := Try.f53) Try.func53 (res_1 rfl ⟨by decide, rfl⟩) H
 ·clear H; intro hb1 H
  refine xo_skip rfl (wn 5 rfl rfl rfl hb1) ?_
  refine xo_skip rfl (wn 5 rfl rfl rfl hb1) ?_
  refine xp (.bool false) rfl (p_pickF rfl rfl hb1 rfl) ?_
  refine xm (.bool false) rfl rfl ?_
  refine xo_skip rfl (wn 9 rfl rfl rfl rfl) ?_
  refine xo_skip rfl (wn 9 rfl rfl rfl rfl) ?_
  refine xp (.bool false) rfl (p_pickF rfl rfl rfl rfl) ?_
  refine xs (.bool false) rfl rfl ?_
  refine xe ?_
  exact r_ret (fn := Try.f53) Try.func53 (res_1 rfl ⟨by decide, rfl⟩) H

/-! 54 sporran/sporranref15.SameAnswer -/
def f54_b1 (R : Value → World → Prop) (ag3 : (Option Addr × Option Addr × Int) → World → Prop) (a2 : Option Addr) (b3 : Option Addr) (i5 : Int) (w : World) : Prop :=
 NotNil a2 fun p_3 =>
 Ld Sl.v (some (p_3.add 50)) w fun v_4 =>
 IfB (decide (i5 < (v_4.len : Int))) (
  NotNil a2 fun p_5 =>
  Ld Sl.v (some (p_5.add 50)) (World.drew w) fun v_6 =>
  Ix v_6 i5 fun p_7 =>
  Ld Value.string (some (p_7.add (i5.toNat * 1))) (World.drew w) fun v_8 =>
  NotNil b3 fun p_9 =>
  Ld Sl.v (some (p_9.add 50)) (World.drew w) fun v_10 =>
  Ix v_10 i5 fun p_11 =>
  Ld Value.string (some (p_11.add (i5.toNat * 1))) (World.drew w) fun v_12 =>
  IfB (!seq v_8 v_12) (
   R (.bool false) (World.drew w)) (
   ag3 (a2, b3, (IntKind.i64.wrap (i5 + 1))) (World.drew w))) (
  R (.bool true) w)
def f54_k0 (R : Value → World → Prop) (a2 : Option Addr) (b3 : Option Addr) (t33 : Bool) (w : World) : Prop :=
 IfB t33 (
  R (.bool false) w) (
  Lp (fun ag (s : Option Addr × Option Addr × Int) w => f54_b1 R ag s.1 s.2.1 s.2.2 w) (a2, b3, 0) w)
def f54 (R : Value → World → Prop) (a0 : Array Value) (b1 : Array Value) (w : World) : Prop :=
 New a0 73 w fun a_1 w_1 =>
 New b1 73 w_1 fun a_2 w_2 =>
 Ld (Value.int .i64) (some (a_1.add 0)) w_2 fun v_13 =>
 Ld (Value.int .i64) (some (a_2.add 0)) w_2 fun v_14 =>
 IfB (!decide (v_13 = v_14)) (
  f54_k0 R (some a_1) (some a_2) true w_2) (
  Ld Value.bool (some (a_1.add 1)) w_2 fun v_15 =>
  Ld Value.bool (some (a_2.add 1)) w_2 fun v_16 =>
  IfB (!(v_15 == v_16)) (
   f54_k0 R (some a_1) (some a_2) true w_2) (
   LdN 48 (some (a_1.add 2)) w_2 fun v_17 =>
   LdN 48 (some (a_2.add 2)) w_2 fun v_18 =>
   AggEq Try.prog 65 v_17 v_18 fun b_19 =>
   IfB (!b_19) (
    f54_k0 R (some a_1) (some a_2) true w_2) (
    Ld Sl.v (some (a_1.add 50)) w_2 fun v_20 =>
    Ld Sl.v (some (a_2.add 50)) w_2 fun v_21 =>
    f54_k0 R (some a_1) (some a_2) (!decide ((v_20.len : Int) = (v_21.len : Int))) w_2)))
theorem f54_ok (R : Value → World → Prop) (a0 : Array Value) (b1 : Array Value) (w : World) (H : f54 R a0 b1 w) : CallF Try.prog 54 #[(.agg a0), (.agg b1)] w R := by
 refine calls_of_runs (fn := Try.f54) Try.func54 rfl (Nat.le_of_ble_eq_true rfl) ?_
 show Runs _ _ 52 _ _ _ _
 unfold f54 at H
 refine ru2 0 (.agg a0) 1 (.agg b1) rfl rfl ?_
 refine sr ?_
 refine xo_eff rfl (wo rfl) (e_box (v := (.agg a0)) rfl rfl H) ?_
 rintro _ w_1 ⟨a_1, rfl, H⟩
 refine xo_eff rfl (wo rfl) (e_box (v := (.agg b1)) rfl rfl H) ?_
 rintro _ w_2 ⟨a_2, rfl, H⟩
 refine xs (.bool false) rfl rfl ?_
 refine xe ?_
 refine r_seq ?_
 refine r_seq ?_
 refine r_topJ (fun (s : Option Addr × Option Addr × Bool) σ => upd 33 (.bool s.2.2) (upd 3 (.pointer s.2.1) (upd 2 (.pointer s.1) (σ)))) (fun (s : Option Addr × Option Addr × Bool) w => f54_k0 R s.1 s.2.1 s.2.2 w) ?_ ?_
 ·rintro ⟨a2, b3, t33⟩ σ w H
  replace H : f54_k0 R a2 b3 t33 w := H
  try dsimp only
  unfold f54_k0 at H
  refine r_condB (b := t33) rfl H ?_ ?_
  ·clear H; intro hb2 H
   refine sr ?_
   refine xs (.bool false) rfl rfl ?_
   refine xe ?_
   exact r_ret (fn := Try.f54) Try.func54 (res_1 rfl ⟨by decide, rfl⟩) H
  ·clear H; intro hb2 H
   refine r_skip ?_
   refine r_seq ?_
   refine sr ?_
   refine xs (I 0) rfl rfl ?_
   refine xe ?_
   refine r_block ?_
   refine ru3 2 (.pointer a2) 3 (.pointer b3) 5 (I 0) rfl rfl rfl ?_
   refine r_loopJ (fun (s : Option Addr × Option Addr × Int) σ => upd 5 (I s.2.2) (upd 3 (.pointer s.2.1) (upd 2 (.pointer s.1) (σ)))) (s := (a2, b3, 0)) H ?_
   clear H
   rintro ag3 ⟨a2, b3, i5⟩ σ w H hag3
   replace H : f54_b1 R ag3 a2 b3 i5 w := H
   try dsimp only
   unfold f54_b1 at H
   refine r_seq ?_
   refine sr ?_
   refine xm (I i5) rfl rfl ?_
   obtain ⟨p_3, hpp_3, H⟩ := H
   refine xp _ rfl (p_fieldAddr (off := 50) (ft := 71) (size := 1) rfl u73 rfl Try.ti71 (by decide) rfl hpp_3) ?_
   obtain ⟨adv_4, v_4, hev_4, hcv_4, H⟩ := H
   refine xr (Sl.v v_4) rfl (wo rfl) rfl u71 rfl rfl hev_4 hcv_4 ?_
   refine xp (I (v_4.len : Int)) rfl (p_len rfl u71 rfl) ?_
   refine xp _ rfl (p_lt rfl rfl rfl) ?_
   refine xe ?_
   refine r_condB (b := (decide (i5 < (v_4.len : Int)))) rfl H ?_ ?_
   ·clear H; intro hb4 H
    refine r_skip ?_
    refine sb ?_
    refine r_seq ?_
    refine r_draw #[[], [0], [], [0, 1, 2], [0, 1, 2, 3], [], [5], [], [5, 6, 7], [5, 6, 7, 8], [0, 1, 2, 3, 4, 5, 6, 7, 8, 9]] 11 rfl rfl ?_
    obtain ⟨p_5, hpp_5, H⟩ := H
    refine ap 0 _ rfl rfl (p_fieldAddr (off := 50) (ft := 71) (size := 1) rfl u73 rfl Try.ti71 (by decide) rfl hpp_5) ?_
    obtain ⟨adv_6, v_6, hev_6, hcv_6, H⟩ := H
    refine ar 1 (Sl.v v_6) rfl rfl (wo rfl) rfl u71 rfl rfl hev_6 hcv_6 ?_
    refine am 2 (I i5) rfl rfl rfl ?_
    obtain ⟨p_7, hap_7, hlp_7, hup_7, H⟩ := H
    refine ap 3 _ rfl rfl (p_indexAddr (s := v_6) (ad := p_7) (size := 1) rfl u71 Try.ti9 rfl rfl hap_7 hlp_7 hup_7) ?_
    obtain ⟨adv_8, v_8, hev_8, hcv_8, H⟩ := H
    refine ar 4 (.string v_8) rfl rfl (wo rfl) rfl u9 rfl rfl hev_8 hcv_8 ?_
    obtain ⟨p_9, hpp_9, H⟩ := H
    refine ap 5 _ rfl rfl (p_fieldAddr (off := 50) (ft := 71) (size := 1) rfl u73 rfl Try.ti71 (by decide) rfl hpp_9) ?_
    obtain ⟨adv_10, v_10, hev_10, hcv_10, H⟩ := H
    refine ar 6 (Sl.v v_10) rfl rfl (wo rfl) rfl u71 rfl rfl hev_10 hcv_10 ?_
    refine am 7 (I i5) rfl rfl rfl ?_
    obtain ⟨p_11, hap_11, hlp_11, hup_11, H⟩ := H
    refine ap 8 _ rfl rfl (p_indexAddr (s := v_10) (ad := p_11) (size := 1) rfl u71 Try.ti9 rfl rfl hap_11 hlp_11 hup_11) ?_
    obtain ⟨adv_12, v_12, hev_12, hcv_12, H⟩ := H
    refine ar 9 (.string v_12) rfl rfl (wo rfl) rfl u9 rfl rfl hev_12 hcv_12 ?_
    refine ap 10 (.bool (!seq v_8 v_12)) rfl rfl (p_sne rfl rfl rfl) ?_
    refine ax ?_
    refine r_condB (b := (!seq v_8 v_12)) rfl H ?_ ?_
    ·clear H; intro hb5 H
     refine sr ?_
     refine xs (.bool false) rfl rfl ?_
     refine xe ?_
     exact r_ret (fn := Try.f54) Try.func54 (res_1 rfl ⟨by decide, rfl⟩) H
    ·clear H; intro hb5 H
     refine r_skip ?_
     refine r_inBlock ?_
     refine r_region ?_
     refine xm (I i5) rfl rfl ?_
     refine xp _ rfl (p_add rfl rfl rfl) ?_
     refine xs (I (W (i5 + 1))) rfl rfl ?_
     refine xe ?_
     refine ru3 2 (.pointer a2) 3 (.pointer b3) 5 (I (W (i5 + 1))) rfl rfl rfl ?_
     exact hag3 (a2, b3, (W (i5 + 1))) _ _ H
   ·clear H; intro hb4 H
    refine r_exit rfl ?_
    refine sr ?_
    refine xs (.bool true) rfl rfl ?_
    refine xe ?_
    exact r_ret (fn := Try.f54) Try.func54 (res_1 rfl ⟨by decide, rfl⟩) H
 ·intro J1
  refine r_region ?_
  refine xp _ rfl (p_fieldAddr (off := 0) (ft := 31) (size := 1) rfl u73 rfl Try.ti31 (by decide) rfl rfl) ?_
  obtain ⟨adv_13, v_13, hev_13, hcv_13, H⟩ := H
  refine xr (I v_13) rfl (wo rfl) rfl u31 rfl rfl hev_13 hcv_13 ?_
  refine xp _ rfl (p_fieldAddr (off := 0) (ft := 31) (size := 1) rfl u73 rfl Try.ti31 (by decide) rfl rfl) ?_
  obtain ⟨adv_14, v_14, hev_14, hcv_14, H⟩ := H
  refine xr (I v_14) rfl (wo rfl) rfl u31 rfl rfl hev_14 hcv_14 ?_
  refine xp _ rfl (p_ne rfl rfl rfl) ?_
  refine xm (.bool (!decide (v_13 = v_14))) rfl rfl ?_
  refine ifB_cases H ?_ ?_
  ·clear H; intro hb6 H
   refine xo_skip rfl (wn 11 rfl rfl rfl hb6) ?_
   refine xo_skip rfl (wn 11 rfl rfl rfl hb6) ?_
   refine xo_skip rfl (wn 11 rfl rfl rfl hb6) ?_
   refine xo_skip rfl (wn 11 rfl rfl rfl hb6) ?_
   refine xo_skip rfl (wn 11 rfl rfl rfl hb6) ?_
   refine xp (.bool true) rfl (p_pickT rfl rfl hb6 rfl) ?_
   refine xm (.bool true) rfl rfl ?_
   refine xo_skip rfl (wn 18 rfl rfl rfl rfl) ?_
   refine xo_skip rfl (wn 18 rfl rfl rfl rfl) ?_
   refine xo_skip rfl (wn 18 rfl rfl rfl rfl) ?_
   refine xo_skip rfl (wn 18 rfl rfl rfl rfl) ?_
   refine xo_skip rfl (wn 18 rfl rfl rfl rfl) ?_
   refine xp (.bool true) rfl (p_pickT rfl rfl rfl rfl) ?_
   refine xm (.bool true) rfl rfl ?_
   refine xo_skip rfl (wn 25 rfl rfl rfl rfl) ?_
   refine xo_skip rfl (wn 25 rfl rfl rfl rfl) ?_
   refine xo_skip rfl (wn 25 rfl rfl rfl rfl) ?_
   refine xo_skip rfl (wn 25 rfl rfl rfl rfl) ?_
   refine xo_skip rfl (wn 25 rfl rfl rfl rfl) ?_
   refine xo_skip rfl (wn 25 rfl rfl rfl rfl) ?_
   refine xo_skip rfl (wn 25 rfl rfl rfl rfl) ?_
   refine xp (.bool true) rfl (p_pickT rfl rfl rfl rfl) ?_
   refine xe ?_
   refine ru3 2 (.pointer (some a_1)) 3 (.pointer (some a_2)) 33 (.bool true) rfl rfl rfl ?_
   exact J1 ((some a_1), (some a_2), true) _ _ H
  ·clear H; intro hb6 H
   refine yp (.pointer (some (a_1.add 1))) rfl (wy 11 rfl rfl rfl hb6) (p_fieldAddr (off := 1) (ft := 4) (size := 1) rfl u73 rfl Try.ti4 (by decide) rfl rfl) ?_
   obtain ⟨adv_15, v_15, hev_15, hcv_15, H⟩ := H
   refine xr (.bool v_15) rfl (wy 11 rfl rfl rfl hb6) rfl u4 rfl rfl hev_15 hcv_15 ?_
   refine yp (.pointer (some (a_2.add 1))) rfl (wy 11 rfl rfl rfl hb6) (p_fieldAddr (off := 1) (ft := 4) (size := 1) rfl u73 rfl Try.ti4 (by decide) rfl rfl) ?_
   obtain ⟨adv_16, v_16, hev_16, hcv_16, H⟩ := H
   refine xr (.bool v_16) rfl (wy 11 rfl rfl rfl hb6) rfl u4 rfl rfl hev_16 hcv_16 ?_
   refine yp (.bool (!(v_15 == v_16))) rfl (wy 11 rfl rfl rfl hb6) (p_bne rfl u4 rfl rfl) ?_
   refine xp (.bool (!(v_15 == v_16))) rfl (p_pickF rfl rfl hb6 rfl) ?_
   refine xm (.bool (!(v_15 == v_16))) rfl rfl ?_
   refine ifB_cases H ?_ ?_
   ·clear H; intro hb7 H
    refine xo_skip rfl (wn 18 rfl rfl rfl hb7) ?_
    refine xo_skip rfl (wn 18 rfl rfl rfl hb7) ?_
    refine xo_skip rfl (wn 18 rfl rfl rfl hb7) ?_
    refine xo_skip rfl (wn 18 rfl rfl rfl hb7) ?_
    refine xo_skip rfl (wn 18 rfl rfl rfl hb7) ?_
    refine xp (.bool true) rfl (p_pickT rfl rfl hb7 rfl) ?_
    refine xm (.bool true) rfl rfl ?_
    refine xo_skip rfl (wn 25 rfl rfl rfl rfl) ?_
    refine xo_skip rfl (wn 25 rfl rfl rfl rfl) ?_
    refine xo_skip rfl (wn 25 rfl rfl rfl rfl) ?_
    refine xo_skip rfl (wn 25 rfl rfl rfl rfl) ?_
    refine xo_skip rfl (wn 25 rfl rfl rfl rfl) ?_
    refine xo_skip rfl (wn 25 rfl rfl rfl rfl) ?_
    refine xo_skip rfl (wn 25 rfl rfl rfl rfl) ?_
    refine xp (.bool true) rfl (p_pickT rfl rfl rfl rfl) ?_
    refine xe ?_
    refine ru3 2 (.pointer (some a_1)) 3 (.pointer (some a_2)) 33 (.bool true) rfl rfl rfl ?_
    exact J1 ((some a_1), (some a_2), true) _ _ H
   ·clear H; intro hb7 H
    refine yp (.pointer (some (a_1.add 2))) rfl (wy 18 rfl rfl rfl hb7) (p_fieldAddr (off := 2) (ft := 65) (size := 48) rfl u73 rfl Try.ti65 (by decide) rfl rfl) ?_
    obtain ⟨adv_17, v_17, hev_17, hnv_17, hcv_17, H⟩ := H
    refine xo_read (v := (.agg v_17)) rfl (wy 18 rfl rfl rfl hb7) (rd_loadN (ad := adv_17) rfl u65 rfl Try.ti65 (by show Value.pointer _ = _; rw [hev_17]) hnv_17 hcv_17) ?_
    refine yp (.pointer (some (a_2.add 2))) rfl (wy 18 rfl rfl rfl hb7) (p_fieldAddr (off := 2) (ft := 65) (size := 48) rfl u73 rfl Try.ti65 (by decide) rfl rfl) ?_
    obtain ⟨adv_18, v_18, hev_18, hnv_18, hcv_18, H⟩ := H
    refine xo_read (v := (.agg v_18)) rfl (wy 18 rfl rfl rfl hb7) (rd_loadN (ad := adv_18) rfl u65 rfl Try.ti65 (by show Value.pointer _ = _; rw [hev_18]) hnv_18 hcv_18) ?_
    obtain ⟨b_19, hqb_19, H⟩ := H
    refine yp (.bool (!b_19)) rfl (wy 18 rfl rfl rfl hb7) (p_aggNe rfl hqb_19 rfl rfl) ?_
    refine xp (.bool (!b_19)) rfl (p_pickF rfl rfl hb7 rfl) ?_
    refine xm (.bool (!b_19)) rfl rfl ?_
    refine ifB_cases H ?_ ?_
    ·clear H; intro hb8 H
     refine xo_skip rfl (wn 25 rfl rfl rfl hb8) ?_
     refine xo_skip rfl (wn 25 rfl rfl rfl hb8) ?_
     refine xo_skip rfl (wn 25 rfl rfl rfl hb8) ?_
     refine xo_skip rfl (wn 25 rfl rfl rfl hb8) ?_
     refine xo_skip rfl (wn 25 rfl rfl rfl hb8) ?_
     refine xo_skip rfl (wn 25 rfl rfl rfl hb8) ?_
     refine xo_skip rfl (wn 25 rfl rfl rfl hb8) ?_
     refine xp (.bool true) rfl (p_pickT rfl rfl hb8 rfl) ?_
     refine xe ?_
     refine ru3 2 (.pointer (some a_1)) 3 (.pointer (some a_2)) 33 (.bool true) rfl rfl rfl ?_
     exact J1 ((some a_1), (some a_2), true) _ _ H
    ·clear H; intro hb8 H
     refine yp (.pointer (some (a_1.add 50))) rfl (wy 25 rfl rfl rfl hb8) (p_fieldAddr (off := 50) (ft := 71) (size := 1) rfl u73 rfl Try.ti71 (by decide) rfl rfl) ?_
     obtain ⟨adv_20, v_20, hev_20, hcv_20, H⟩ := H
     refine xr (Sl.v v_20) rfl (wy 25 rfl rfl rfl hb8) rfl u71 rfl rfl hev_20 hcv_20 ?_
     refine yp (I (v_20.len : Int)) rfl (wy 25 rfl rfl rfl hb8) (p_len rfl u71 rfl) ?_
     refine yp (.pointer (some (a_2.add 50))) rfl (wy 25 rfl rfl rfl hb8) (p_fieldAddr (off := 50) (ft := 71) (size := 1) rfl u73 rfl Try.ti71 (by decide) rfl rfl) ?_
     obtain ⟨adv_21, v_21, hev_21, hcv_21, H⟩ := H
     refine xr (Sl.v v_21) rfl (wy 25 rfl rfl rfl hb8) rfl u71 rfl rfl hev_21 hcv_21 ?_
     refine yp (I (v_21.len : Int)) rfl (wy 25 rfl rfl rfl hb8) (p_len rfl u71 rfl) ?_
     refine yp (.bool (!decide ((v_20.len : Int) = (v_21.len : Int)))) rfl (wy 25 rfl rfl rfl hb8) (p_ne rfl rfl rfl) ?_
     refine xp (.bool (!decide ((v_20.len : Int) = (v_21.len : Int)))) rfl (p_pickF rfl rfl hb8 rfl) ?_
     refine xe ?_
     refine ru3 2 (.pointer (some a_1)) 3 (.pointer (some a_2)) 33 (.bool (!decide ((v_20.len : Int) = (v_21.len : Int)))) rfl rfl rfl ?_
     exact J1 ((some a_1), (some a_2), (!decide ((v_20.len : Int) = (v_21.len : Int)))) _ _ H
end Go.Proofs
