/- Laid by program. -/
import Derived.Test.YtnjilbgcflbghaaXFT
set_option linter.all false
set_option linter.unusedVariables false
set_option linter.unusedSimpArgs false
set_option maxRecDepth 20000
set_option maxHeartbeats 4000000
namespace Go.Proofs
open Go Go.X
/-! 7 sporran/sporranlaw12.VolumeErrors -/
def f7_k4 (R : Value → World → Prop) (ag3 : (Option Addr × Sl × Int × Int) → World → Prop) (ag8 : (Option Addr × Sl × Sl × Int × Int × Sl × Int × Int) → World → Prop) (s3 : Option Addr) (before6 : Sl) (t17 : Sl) (t18 : Int) (t19 : Int) (t87 : Sl) (t88 : Int) (t89 : Int) (t121 : Bool) (w : World) : Prop :=
 IfB t121 (
  R (.bool false) w) (
  ag8 (s3, before6, t17, t18, t19, t87, t88, (IntKind.i64.wrap (t89 + 1))) w)
def f7_b3 (R : Value → World → Prop) (ag3 : (Option Addr × Sl × Int × Int) → World → Prop) (ag8 : (Option Addr × Sl × Sl × Int × Int × Sl × Int × Int) → World → Prop) (s3 : Option Addr) (before6 : Sl) (t17 : Sl) (t18 : Int) (t19 : Int) (t87 : Sl) (t88 : Int) (t89 : Int) (w : World) : Prop :=
 IfB (decide (t89 < t88)) (
  Ix t87 t89 fun p_14 =>
  LdN 4 (some (p_14.add (t89.toNat * 4))) w fun v_15 =>
  New #[(.string (ByteArray.mk #[])), (.int .i64 0), (.bool false), (Sl.v Sl.nil)] 93 w fun a_16 w_8 =>
  StN 4 (some a_16) v_15 w_8 fun w_9 =>
  Ld Value.string (some (a_16.add 0)) w_9 fun v_17 =>
  CallF Try.prog 48 #[(Sl.v before6), (.string v_17)] w_9 fun u_18 w_10 => As (Value.int .i64) u_18 fun v_19 =>
  Ld Sl.v (some (a_16.add 3)) (World.drew w_10) fun v_20 =>
  Ld (Value.int .i64) (some (a_16.add 1)) (World.drew w_10) fun v_21 =>
  IfB (decide (v_21 < (v_20.len : Int))) (
   f7_k4 R ag3 ag8 s3 before6 t17 t18 t19 t87 t88 t89 true (World.drew w_10)) (
   Ld Value.bool (some (a_16.add 2)) (World.drew w_10) fun v_22 =>
   IfB v_22 (
    IfB (decide (0 ≤ v_19)) (
     LdN 4 (some a_16) (World.drew w_10) fun v_23 =>
     Cut before6 4 (some v_19) (some (IntKind.i64.wrap (v_19 + 1))) none fun s_24 =>
     v_23.size = 4 ∧ (
     New v_23 93 (World.drew w_10) fun a_25 w_12 =>
     CallF Try.prog 47 #[(Sl.v ⟨some a_25, 1, 1⟩), (Sl.v s_24)] w_12 fun u_27 w_13 => As Value.bool u_27 fun v_28 =>
     f7_k4 R ag3 ag8 s3 before6 t17 t18 t19 t87 t88 t89 (!v_28) w_13)) (
     f7_k4 R ag3 ag8 s3 before6 t17 t18 t19 t87 t88 t89 false (World.drew w_10))) (
    f7_k4 R ag3 ag8 s3 before6 t17 t18 t19 t87 t88 t89 false (World.drew w_10)))) (
  ag3 (s3, t17, t18, (IntKind.i64.wrap (t19 + 1))) w)
def f7_k2 (R : Value → World → Prop) (ag3 : (Option Addr × Sl × Int × Int) → World → Prop) (s3 : Option Addr) (before6 : Sl) (l8 : Sl) (t17 : Sl) (t18 : Int) (t19 : Int) (t86 : Bool) (w : World) : Prop :=
 IfB t86 (
  R (.bool false) w) (
  Lp (fun ag (s : Option Addr × Sl × Sl × Int × Int × Sl × Int × Int) w => f7_b3 R ag3 ag s.1 s.2.1 s.2.2.1 s.2.2.2.1 s.2.2.2.2.1 s.2.2.2.2.2.1 s.2.2.2.2.2.2.1 s.2.2.2.2.2.2.2 w) (s3, before6, t17, t18, t19, l8, (l8.len : Int), 0) w)
def f7_k1 (R : Value → World → Prop) (ag3 : (Option Addr × Sl × Int × Int) → World → Prop) (s3 : Option Addr) (before6 : Sl) (e7 : Int) (t17 : Sl) (t18 : Int) (t19 : Int) (w : World) : Prop :=
 CallF Try.prog 41 #[(.pointer s3)] w fun u_12 w_7 => As Sl.v u_12 fun v_13 =>
 IfB (!decide (e7 = 0)) (
  CallF Try.prog 47 #[(Sl.v v_13), (Sl.v before6)] w_7 fun u_29 w_14 => As Value.bool u_29 fun v_30 =>
  f7_k2 R ag3 s3 before6 v_13 t17 t18 t19 (!v_30) w_14) (
  f7_k2 R ag3 s3 before6 v_13 t17 t18 t19 false w_7)
def f7_b0 (R : Value → World → Prop) (ag3 : (Option Addr × Sl × Int × Int) → World → Prop) (s3 : Option Addr) (t17 : Sl) (t18 : Int) (t19 : Int) (w : World) : Prop :=
 IfB (decide (t19 < t18)) (
  Ix t17 t19 fun p_7 =>
  LdN 38 (some (p_7.add (t19.toNat * 38))) w fun v_8 =>
  New Try.z81 81 w fun a_9 w_4 =>
  StN 38 (some a_9) v_8 w_4 fun w_5 =>
  CallF Try.prog 41 #[(.pointer s3)] w_5 fun u_10 w_6 => As Sl.v u_10 fun v_11 =>
  Ld (Value.int .i64) (some (a_9.add 0)) w_6 fun v_31 =>
  IfB (decide (v_31 = 0)) (
   Ld Value.string (some (a_9.add 1)) w_6 fun v_32 =>
   Ld (Value.int .i64) (some (a_9.add 3)) w_6 fun v_33 =>
   LdN 32 (some (a_9.add 6)) w_6 fun v_34 =>
   CallF Try.prog 42 #[(.pointer s3), (.string v_32), (.int .i64 v_33), (.agg v_34)] w_6 fun u_35 w_15 => AsT3 Value.agg Value.bool (Value.int .i64) u_35 fun v_36 v_37 v_38 =>
   f7_k1 R ag3 s3 v_11 v_38 t17 t18 t19 w_15) (
   IfB (decide (v_31 = 1)) (
    Ld Value.string (some (a_9.add 1)) w_6 fun v_39 =>
    Ld (Value.int .i64) (some (a_9.add 3)) w_6 fun v_40 =>
    CallF Try.prog 43 #[(.pointer s3), (.string v_39), (.int .i64 v_40)] w_6 fun u_41 w_16 => AsT3 Value.agg Value.bool (Value.int .i64) u_41 fun v_42 v_43 v_44 =>
    f7_k1 R ag3 s3 v_11 v_44 t17 t18 t19 w_16) (
    IfB (decide (v_31 = 2)) (
     Ld Value.string (some (a_9.add 1)) w_6 fun v_45 =>
     Ld (Value.int .i64) (some (a_9.add 4)) w_6 fun v_46 =>
     CallF Try.prog 44 #[(.pointer s3), (.string v_45), (.int .i64 v_46)] w_6 fun u_47 w_17 => As (Value.int .i64) u_47 fun v_48 =>
     f7_k1 R ag3 s3 v_11 v_48 t17 t18 t19 w_17) (
     IfB (decide (v_31 = 3)) (
      Ld Value.string (some (a_9.add 1)) w_6 fun v_49 =>
      Ld Value.string (some (a_9.add 2)) w_6 fun v_50 =>
      Ld (Value.int .i64) (some (a_9.add 4)) w_6 fun v_51 =>
      Ld Value.bool (some (a_9.add 5)) w_6 fun v_52 =>
      CallF Try.prog 45 #[(.pointer s3), (.string v_49), (.string v_50), (.int .i64 v_51), (.bool v_52)] w_6 fun u_53 w_18 => As (Value.int .i64) u_53 fun v_54 =>
      f7_k1 R ag3 s3 v_11 v_54 t17 t18 t19 w_18) (
      Ld Value.string (some (a_9.add 1)) w_6 fun v_55 =>
      CallF Try.prog 46 #[(.pointer s3), (.string v_55)] w_6 fun u_56 w_19 => As (Value.int .i64) u_56 fun v_57 =>
      f7_k1 R ag3 s3 v_11 v_57 t17 t18 t19 w_19))))) (
  R (.bool true) w)
def f7 (R : Value → World → Prop) (calls0 : Sl) (w : World) : Prop :=
 CallF Try.prog 38 #[] w fun u_1 w_1 => As Value.bool u_1 fun v_2 =>
 IfB (!v_2) (
  R (.bool false) w_1) (
  CallF Try.prog 39 #[(Sl.v calls0)] w_1 fun u_3 w_2 => As Value.bool u_3 fun v_4 =>
  IfB v_4 (
   R (.bool true) w_2) (
   CallF Try.prog 40 #[] w_2 fun u_5 w_3 => As Value.pointer u_5 fun v_6 =>
   Lp (fun ag (s : Option Addr × Sl × Int × Int) w => f7_b0 R ag s.1 s.2.1 s.2.2.1 s.2.2.2 w) (v_6, calls0, (calls0.len : Int), 0) w_3))
theorem f7_ok (R : Value → World → Prop) (calls0 : Sl) (w : World) (H : f7 R calls0 w) : CallF Try.prog 7 #[(Sl.v calls0)] w R := by
 refine calls_of_runs (fn := Try.f7) Try.func7 rfl (Nat.le_of_ble_eq_true rfl) ?_
 show Runs _ _ 124 _ _ _ _
 unfold f7 at H
 refine ru 0 (Sl.v calls0) rfl ?_
 refine sr ?_
 refine xs (.bool false) rfl rfl ?_
 refine xe ?_
 refine r_seq ?_
 refine sr ?_
 refine xo_eff rfl (wo rfl) (e_call (fn := Try.f38) H rfl rfl Try.func38 rfl rfl rfl) ?_
 rintro _ w_1 ⟨v_2, rfl, H⟩
 refine xp (.bool (!v_2)) rfl (p_not rfl rfl) ?_
 refine xe ?_
 refine r_condB (b := (!v_2)) rfl H ?_ ?_
 ·clear H; intro hb1 H
  refine sr ?_
  refine xs (.bool false) rfl rfl ?_
  refine xe ?_
  exact r_ret (fn := Try.f7) Try.func7 (res_1 rfl ⟨by decide, rfl⟩) H
 ·clear H; intro hb1 H
  refine r_skip ?_
  refine r_seq ?_
  refine sr ?_
  refine xm (Sl.v calls0) rfl rfl ?_
  refine xo_eff rfl (wo rfl) (e_call (fn := Try.f39) H rfl rfl Try.func39 rfl rfl rfl) ?_
  rintro _ w_2 ⟨v_4, rfl, H⟩
  refine xe ?_
  refine r_condB (b := v_4) rfl H ?_ ?_
  ·clear H; intro hb2 H
   refine sr ?_
   refine xs (.bool true) rfl rfl ?_
   refine xe ?_
   exact r_ret (fn := Try.f7) Try.func7 (res_1 rfl ⟨by decide, rfl⟩) H
  ·clear H; intro hb2 H
   refine r_skip ?_
   refine sr ?_
   refine xo_eff rfl (wo rfl) (e_call (fn := Try.f40) H rfl rfl Try.func40 rfl rfl rfl) ?_
   rintro _ w_3 ⟨v_6, rfl, H⟩
   refine xs (.pointer v_6) rfl rfl ?_
   refine xe ?_
   refine r_seq ?_
   refine sr ?_
   refine xm (Sl.v calls0) rfl rfl ?_
   refine xp (I (calls0.len : Int)) rfl (p_len rfl u76 rfl) ?_
   refine xm (I 0) rfl rfl ?_
   refine xe ?_
   refine r_block ?_
   refine ru4 3 (.pointer v_6) 17 (Sl.v calls0) 18 (I (calls0.len : Int)) 19 (I 0) rfl rfl rfl rfl ?_
   refine r_loopJ (fun (s : Option Addr × Sl × Int × Int) σ => upd 19 (I s.2.2.2) (upd 18 (I s.2.2.1) (upd 17 (Sl.v s.2.1) (upd 3 (.pointer s.1) (σ))))) (s := (v_6, calls0, (calls0.len : Int), 0)) H ?_
   clear H
   rintro ag3 ⟨s3, t17, t18, t19⟩ σ w H hag3
   replace H : f7_b0 R ag3 s3 t17 t18 t19 w := H
   try dsimp only
   unfold f7_b0 at H
   refine sr ?_
   refine xp _ rfl (p_lt rfl rfl rfl) ?_
   refine xe ?_
   refine r_seq ?_
   refine r_condB (b := (decide (t19 < t18))) rfl H ?_ ?_
   ·clear H; intro hb4 H
    refine r_skip ?_
    refine sb ?_
    refine sr ?_
    obtain ⟨p_7, hap_7, hlp_7, hup_7, H⟩ := H
    refine xp _ rfl (p_indexAddr (s := t17) (ad := p_7) (size := 38) rfl u76 Try.ti81 rfl rfl hap_7 hlp_7 hup_7) ?_
    obtain ⟨adv_8, v_8, hev_8, hnv_8, hcv_8, H⟩ := H
    refine xo_read (v := (.agg v_8)) rfl (wo rfl) (rd_loadN (ad := adv_8) rfl u81 rfl Try.ti81 (by show Value.pointer _ = _; rw [hev_8]) hnv_8 hcv_8) ?_
    refine xo_eff rfl (wo rfl) (e_alloc rfl Try.ti81 H) ?_
    rintro _ w_4 ⟨a_9, rfl, H⟩
    refine xo_effN rfl (wo rfl) (e_storeN rfl Try.ti81 rfl rfl H) ?_
    intro _ w_5 H
    refine xe ?_
    refine sr ?_
    refine xm (.pointer s3) rfl rfl ?_
    refine xo_eff rfl (wo rfl) (e_call (fn := Try.f41) H rfl rfl Try.func41 rfl rfl rfl) ?_
    rintro _ w_6 ⟨v_11, rfl, H⟩
    refine xs (Sl.v v_11) rfl rfl ?_
    refine xe ?_
    refine sr ?_
    refine xs (I 0) rfl rfl ?_
    refine xe ?_
    refine r_seqJ (fun (s : Option Addr × Sl × Int × Sl × Int × Int) σ => upd 19 (I s.2.2.2.2.2) (upd 18 (I s.2.2.2.2.1) (upd 17 (Sl.v s.2.2.2.1) (upd 7 (I s.2.2.1) (upd 6 (Sl.v s.2.1) (upd 3 (.pointer s.1) (σ))))))) (fun (s : Option Addr × Sl × Int × Sl × Int × Int) w => f7_k1 R ag3 s.1 s.2.1 s.2.2.1 s.2.2.2.1 s.2.2.2.2.1 s.2.2.2.2.2 w) ?_ ?_
    ·rintro ⟨s3, before6, e7, t17, t18, t19⟩ σ w H
     replace H : f7_k1 R ag3 s3 before6 e7 t17 t18 t19 w := H
     try dsimp only
     unfold f7_k1 at H
     refine sr ?_
     refine xm (.pointer s3) rfl rfl ?_
     refine xo_eff rfl (wo rfl) (e_call (fn := Try.f41) H rfl rfl Try.func41 rfl rfl rfl) ?_
     rintro _ w_7 ⟨v_13, rfl, H⟩
     refine xs (Sl.v v_13) rfl rfl ?_
     refine xe ?_
     refine r_seq ?_
     refine r_seq ?_
     refine r_topJ (fun (s : Option Addr × Sl × Sl × Sl × Int × Int × Bool) σ => upd 86 (.bool s.2.2.2.2.2.2) (upd 19 (I s.2.2.2.2.2.1) (upd 18 (I s.2.2.2.2.1) (upd 17 (Sl.v s.2.2.2.1) (upd 8 (Sl.v s.2.2.1) (upd 6 (Sl.v s.2.1) (upd 3 (.pointer s.1) (σ)))))))) (fun (s : Option Addr × Sl × Sl × Sl × Int × Int × Bool) w => f7_k2 R ag3 s.1 s.2.1 s.2.2.1 s.2.2.2.1 s.2.2.2.2.1 s.2.2.2.2.2.1 s.2.2.2.2.2.2 w) ?_ ?_
     ·rintro ⟨s3, before6, l8, t17, t18, t19, t86⟩ σ w H
      replace H : f7_k2 R ag3 s3 before6 l8 t17 t18 t19 t86 w := H
      try dsimp only
      unfold f7_k2 at H
      refine r_condB (b := t86) rfl H ?_ ?_
      ·clear H; intro hb7 H
       refine sr ?_
       refine xs (.bool false) rfl rfl ?_
       refine xe ?_
       exact r_ret (fn := Try.f7) Try.func7 (res_1 rfl ⟨by decide, rfl⟩) H
      ·clear H; intro hb7 H
       refine r_skip ?_
       refine sr ?_
       refine xm (Sl.v l8) rfl rfl ?_
       refine xp (I (l8.len : Int)) rfl (p_len rfl u82 rfl) ?_
       refine xm (I 0) rfl rfl ?_
       refine xe ?_
       refine r_block ?_
       refine ru4 3 (.pointer s3) 6 (Sl.v before6) 17 (Sl.v t17) 18 (I t18) rfl rfl rfl rfl ?_
       refine ru4 19 (I t19) 87 (Sl.v l8) 88 (I (l8.len : Int)) 89 (I 0) rfl rfl rfl rfl ?_
       refine r_loopJ (fun (s : Option Addr × Sl × Sl × Int × Int × Sl × Int × Int) σ => upd 89 (I s.2.2.2.2.2.2.2) (upd 88 (I s.2.2.2.2.2.2.1) (upd 87 (Sl.v s.2.2.2.2.2.1) (upd 19 (I s.2.2.2.2.1) (upd 18 (I s.2.2.2.1) (upd 17 (Sl.v s.2.2.1) (upd 6 (Sl.v s.2.1) (upd 3 (.pointer s.1) (σ))))))))) (s := (s3, before6, t17, t18, t19, l8, (l8.len : Int), 0)) H ?_
       clear H
       rintro ag8 ⟨s3, before6, t17, t18, t19, t87, t88, t89⟩ σ w H hag8
       replace H : f7_b3 R ag3 ag8 s3 before6 t17 t18 t19 t87 t88 t89 w := H
       try dsimp only
       unfold f7_b3 at H
       refine sr ?_
       refine xp _ rfl (p_lt rfl rfl rfl) ?_
       refine xe ?_
       refine r_seq ?_
       refine r_condB (b := (decide (t89 < t88))) rfl H ?_ ?_
       ·clear H; intro hb9 H
        refine r_skip ?_
        refine sb ?_
        refine sr ?_
        obtain ⟨p_14, hap_14, hlp_14, hup_14, H⟩ := H
        refine xp _ rfl (p_indexAddr (s := t87) (ad := p_14) (size := 4) rfl u82 Try.ti93 rfl rfl hap_14 hlp_14 hup_14) ?_
        obtain ⟨adv_15, v_15, hev_15, hnv_15, hcv_15, H⟩ := H
        refine xo_read (v := (.agg v_15)) rfl (wo rfl) (rd_loadN (ad := adv_15) rfl u93 rfl Try.ti93 (by show Value.pointer _ = _; rw [hev_15]) hnv_15 hcv_15) ?_
        refine xo_eff rfl (wo rfl) (e_alloc rfl Try.ti93 H) ?_
        rintro _ w_8 ⟨a_16, rfl, H⟩
        refine xo_effN rfl (wo rfl) (e_storeN rfl Try.ti93 rfl rfl H) ?_
        intro _ w_9 H
        refine xe ?_
        refine sr ?_
        refine xm (Sl.v before6) rfl rfl ?_
        refine xp _ rfl (p_fieldAddr (off := 0) (ft := 9) (size := 1) rfl u93 rfl Try.ti9 (by decide) rfl rfl) ?_
        obtain ⟨adv_17, v_17, hev_17, hcv_17, H⟩ := H
        refine xr (.string v_17) rfl (wo rfl) rfl u9 rfl rfl hev_17 hcv_17 ?_
        refine xo_eff rfl (wo rfl) (e_call (fn := Try.f48) H rfl rfl Try.func48 rfl rfl rfl) ?_
        rintro _ w_10 ⟨v_19, rfl, H⟩
        refine xs (I v_19) rfl rfl ?_
        refine xe ?_
        refine r_seq ?_
        refine r_topJ (fun (s : Option Addr × Sl × Sl × Int × Int × Sl × Int × Int × Bool) σ => upd 121 (.bool s.2.2.2.2.2.2.2.2) (upd 89 (I s.2.2.2.2.2.2.2.1) (upd 88 (I s.2.2.2.2.2.2.1) (upd 87 (Sl.v s.2.2.2.2.2.1) (upd 19 (I s.2.2.2.2.1) (upd 18 (I s.2.2.2.1) (upd 17 (Sl.v s.2.2.1) (upd 6 (Sl.v s.2.1) (upd 3 (.pointer s.1) (σ)))))))))) (fun (s : Option Addr × Sl × Sl × Int × Int × Sl × Int × Int × Bool) w => f7_k4 R ag3 ag8 s.1 s.2.1 s.2.2.1 s.2.2.2.1 s.2.2.2.2.1 s.2.2.2.2.2.1 s.2.2.2.2.2.2.1 s.2.2.2.2.2.2.2.1 s.2.2.2.2.2.2.2.2 w) ?_ ?_
        ·rintro ⟨s3, before6, t17, t18, t19, t87, t88, t89, t121⟩ σ w H
         replace H : f7_k4 R ag3 ag8 s3 before6 t17 t18 t19 t87 t88 t89 t121 w := H
         try dsimp only
         unfold f7_k4 at H
         refine r_condB (b := t121) rfl H ?_ ?_
         ·clear H; intro hb11 H
          refine sr ?_
          refine xs (.bool false) rfl rfl ?_
          refine xe ?_
          exact r_ret (fn := Try.f7) Try.func7 (res_1 rfl ⟨by decide, rfl⟩) H
         ·clear H; intro hb11 H
          refine r_skip ?_
          refine r_inBlock ?_
          refine r_region ?_
          refine xp _ rfl (p_add rfl rfl rfl) ?_
          refine xm (I (W (t89 + 1))) rfl rfl ?_
          refine xe ?_
          refine ru4 3 (.pointer s3) 6 (Sl.v before6) 17 (Sl.v t17) 18 (I t18) rfl rfl rfl rfl ?_
          refine ru4 19 (I t19) 87 (Sl.v t87) 88 (I t88) 89 (I (W (t89 + 1))) rfl rfl rfl rfl ?_
          exact hag8 (s3, before6, t17, t18, t19, t87, t88, (W (t89 + 1))) _ _ H
        ·intro J10
         refine r_draw #[[], [0], [0, 1], [], [3], [0, 1, 2, 3, 4], [0, 1, 2, 3, 4, 5], [0, 1, 2, 3, 4, 5, 6], [0, 1, 2, 3, 4, 5, 6, 7], [0, 1, 2, 3, 4, 5, 6, 7, 8], [0, 1, 2, 3, 4, 5, 6, 7, 8, 9], [0, 1, 2, 3, 4, 5, 6, 7, 8, 9, 10], [0, 1, 2, 3, 4, 5, 6, 7, 8, 9, 10, 11], [0, 1, 2, 3, 4, 5, 6, 7, 8, 9, 10, 11, 12], [0, 1, 2, 3, 4, 5, 6, 7, 8, 9, 10, 11, 12, 13], [0, 1, 2, 3, 4, 5, 6, 7, 8, 9, 10, 11, 12, 13, 14], [0, 1, 2, 3, 4, 5, 6, 7, 8, 9, 10, 11, 12, 13], [0, 1, 2, 3, 4, 5, 6, 7, 8, 9, 10, 11, 12, 13], [0, 1, 2, 3, 4, 5, 6, 7, 8, 9, 10, 11, 12, 13], [0, 1, 2, 3, 4, 5, 6, 7, 8, 9, 10, 11, 12, 13, 18], [0, 1, 2, 3, 4, 5, 6, 7, 8, 9, 10, 11, 12, 13, 16, 17, 18, 19], [0, 1, 2, 3, 4, 5, 6, 7, 8, 9, 10, 11, 12, 13, 14, 15, 16, 17, 18, 19, 20], [0, 1, 2, 3, 4, 5, 6, 7, 8, 9, 10, 11, 12, 13, 14, 15, 16, 17, 18, 19, 20, 21], [0, 1, 2, 3, 4, 5, 6, 7, 8, 9, 10, 11, 12, 13, 14, 15, 16, 17, 18, 19, 20, 21, 22], [0, 1, 2, 3, 4, 5, 6, 7, 8, 9, 10, 11, 12, 13, 14, 15, 16, 17, 18, 19, 20, 21, 22, 23]] 25 rfl rfl ?_
         refine ap 0 _ rfl rfl (p_fieldAddr (off := 3) (ft := 91) (size := 1) rfl u93 rfl Try.ti91 (by decide) rfl rfl) ?_
         obtain ⟨adv_20, v_20, hev_20, hcv_20, H⟩ := H
         refine ar 1 (Sl.v v_20) rfl rfl (wo rfl) rfl u91 rfl rfl hev_20 hcv_20 ?_
         refine ap 2 (I (v_20.len : Int)) rfl rfl (p_len rfl u91 rfl) ?_
         refine ap 3 _ rfl rfl (p_fieldAddr (off := 1) (ft := 3) (size := 1) rfl u93 rfl Try.ti3 (by decide) rfl rfl) ?_
         obtain ⟨adv_21, v_21, hev_21, hcv_21, H⟩ := H
         refine ar 4 (I v_21) rfl rfl (wo rfl) rfl u3 rfl rfl hev_21 hcv_21 ?_
         refine ap 5 _ rfl rfl (p_gt rfl rfl rfl) ?_
         refine am 6 (.bool (decide (v_21 < (v_20.len : Int)))) rfl rfl rfl ?_
         refine ifB_cases H ?_ ?_
         ·clear H; intro hb12 H
          refine ak 7 rfl rfl (wn 103 rfl rfl rfl hb12) ?_
          refine ak 8 rfl rfl (wn 103 rfl rfl rfl hb12) ?_
          refine ak 9 rfl rfl (wn 103 rfl rfl rfl hb12) ?_
          refine ak 10 rfl rfl (wanted_undef (d := 106) rfl rfl (by decide) rfl) ?_
          refine ak 11 rfl rfl (wanted_undef (d := 106) rfl rfl (by decide) rfl) ?_
          refine ak 12 rfl rfl (wn 103 rfl rfl rfl hb12) ?_
          refine ak 13 rfl rfl (wn 103 rfl rfl rfl hb12) ?_
          refine ak 14 rfl rfl (wanted_undef (d := 110) rfl rfl (by decide) rfl) ?_
          refine ak 16 rfl rfl (wanted_undef (d := 110) rfl rfl (by decide) rfl) ?_
          refine ak 17 rfl rfl (wanted_undef (d := 110) rfl rfl (by decide) rfl) ?_
          refine ak 18 rfl rfl (wanted_undef (d := 110) rfl rfl (by decide) rfl) ?_
          refine ak 19 rfl rfl (wanted_undef (d := 110) rfl rfl (by decide) rfl) ?_
          refine ak 20 rfl rfl (wanted_undef (d := 110) rfl rfl (by decide) rfl) ?_
          refine ak 15 rfl rfl (wanted_undef (d := 110) rfl rfl (by decide) rfl) ?_
          refine ak 21 rfl rfl (wanted_undef (d := 110) rfl rfl (by decide) rfl) ?_
          refine ak 22 rfl rfl (wanted_undef (d := 110) rfl rfl (by decide) rfl) ?_
          refine ak 23 rfl rfl (wn 103 rfl rfl rfl hb12) ?_
          refine ap 24 (.bool true) rfl rfl (p_pickT rfl rfl hb12 rfl) ?_
          refine ax ?_
          refine ru4 3 (.pointer s3) 6 (Sl.v before6) 17 (Sl.v t17) 18 (I t18) rfl rfl rfl rfl ?_
          refine ru4 19 (I t19) 87 (Sl.v t87) 88 (I t88) 89 (I t89) rfl rfl rfl rfl ?_
          refine ru 121 (.bool true) rfl ?_
          exact J10 (s3, before6, t17, t18, t19, t87, t88, t89, true) _ _ H
         ·clear H; intro hb12 H
          refine ay 7 (.pointer (some (a_16.add 2))) rfl rfl (wy 103 rfl rfl rfl hb12) (p_fieldAddr (off := 2) (ft := 4) (size := 1) rfl u93 rfl Try.ti4 (by decide) rfl rfl) ?_
          obtain ⟨adv_22, v_22, hev_22, hcv_22, H⟩ := H
          refine ar 8 (.bool v_22) rfl rfl (wy 103 rfl rfl rfl hb12) rfl u4 rfl rfl hev_22 hcv_22 ?_
          refine ay 9 (.bool v_22) rfl rfl (wy 103 rfl rfl rfl hb12) (p_move rfl rfl) ?_
          refine ifB_cases H ?_ ?_
          ·clear H; intro hb13 H
           refine ay 10 (I v_19) rfl rfl (wy 106 rfl rfl rfl hb13) (p_move rfl rfl) ?_
           refine ay 11 (.bool (decide (0 ≤ v_19))) rfl rfl (wy 106 rfl rfl rfl hb13) (p_ge rfl rfl rfl) ?_
           refine ay 12 (.bool (decide (0 ≤ v_19))) rfl rfl (wy 103 rfl rfl rfl hb12) (p_pickT rfl rfl hb13 rfl) ?_
           refine ay 13 (.bool (decide (0 ≤ v_19))) rfl rfl (wy 103 rfl rfl rfl hb12) (p_move rfl rfl) ?_
           refine ifB_cases H ?_ ?_
           ·clear H; intro hb14 H
            obtain ⟨adv_23, v_23, hev_23, hnv_23, hcv_23, H⟩ := H
            refine xa_read (v := (.agg v_23)) (S := (fun w => Row w adv_23 v_23)) 14 (by decide +kernel) rfl rfl (wy 110 rfl rfl rfl hb14) (fun w hc => rd_loadN (ad := adv_23) rfl u93 rfl Try.ti93 (by show Value.pointer _ = _; rw [hev_23]) hnv_23 hc) hcv_23 ?_
            refine ay 16 (Sl.v before6) rfl rfl (wy 110 rfl rfl rfl hb14) (p_move rfl rfl) ?_
            refine ay 17 (I v_19) rfl rfl (wy 110 rfl rfl rfl hb14) (p_move rfl rfl) ?_
            refine ay 18 (I v_19) rfl rfl (wy 110 rfl rfl rfl hb14) (p_move rfl rfl) ?_
            refine ay 19 (I (W (v_19 + 1))) rfl rfl (wy 110 rfl rfl rfl hb14) (p_add rfl rfl rfl) ?_
            obtain ⟨ls_24, hs_24, ms_24, c3s_24, c4s_24, c5s_24, c6s_24, c7s_24, H⟩ := H
            obtain ⟨s_24, hds_24⟩ : ∃ q : Sl, q = ⟨if ms_24 = ls_24 then before6.a else before6.a.map (·.add (ls_24 * 4)), hs_24 - ls_24, ms_24 - ls_24⟩ := ⟨_, rfl⟩
            rw [← hds_24] at H
            refine ay 20 (Sl.v s_24) rfl rfl (wy 110 rfl rfl rfl hb14) (by rw [hds_24]; exact p_slice (s := before6) (size := 4) (vl := some v_19) (vh := some (W (v_19 + 1))) (vm := none) rfl u82 Try.ti93 rfl (OptI.some rfl) (OptI.some rfl) OptI.none c3s_24 c4s_24 c5s_24 c6s_24 c7s_24) ?_
            obtain ⟨hzq_26, H⟩ := H
            refine ae 15 [] rfl rfl rfl (wy 110 rfl rfl rfl hb14) (e_buildAgg (size := 4) H rfl u82 Try.ti93 (by decide) (by decide) rfl hzq_26) ?_
            rintro _ w_12 ⟨a_25, rfl, H⟩
            refine ⟨AllHeld.nil, ?_⟩
            refine ae 21 [] rfl rfl rfl (wy 110 rfl rfl rfl hb14) (e_call (fn := Try.f47) H rfl rfl Try.func47 rfl rfl rfl) ?_
            rintro _ w_13 ⟨v_28, rfl, H⟩
            refine ⟨AllHeld.nil, ?_⟩
            refine ay 22 (.bool (!v_28)) rfl rfl (wy 110 rfl rfl rfl hb14) (p_not rfl rfl) ?_
            refine ay 23 (.bool (!v_28)) rfl rfl (wy 103 rfl rfl rfl hb12) (p_pickT rfl rfl hb14 rfl) ?_
            refine ap 24 (.bool (!v_28)) rfl rfl (p_pickF rfl rfl hb12 rfl) ?_
            refine ax ?_
            refine ru4 3 (.pointer s3) 6 (Sl.v before6) 17 (Sl.v t17) 18 (I t18) rfl rfl rfl rfl ?_
            refine ru4 19 (I t19) 87 (Sl.v t87) 88 (I t88) 89 (I t89) rfl rfl rfl rfl ?_
            refine ru 121 (.bool (!v_28)) rfl ?_
            exact J10 (s3, before6, t17, t18, t19, t87, t88, t89, (!v_28)) _ _ H
           ·clear H; intro hb14 H
            refine ak 14 rfl rfl (wn 110 rfl rfl rfl hb14) ?_
            refine ak 16 rfl rfl (wn 110 rfl rfl rfl hb14) ?_
            refine ak 17 rfl rfl (wn 110 rfl rfl rfl hb14) ?_
            refine ak 18 rfl rfl (wn 110 rfl rfl rfl hb14) ?_
            refine ak 19 rfl rfl (wn 110 rfl rfl rfl hb14) ?_
            refine ak 20 rfl rfl (wn 110 rfl rfl rfl hb14) ?_
            refine ak 15 rfl rfl (wn 110 rfl rfl rfl hb14) ?_
            refine ak 21 rfl rfl (wn 110 rfl rfl rfl hb14) ?_
            refine ak 22 rfl rfl (wn 110 rfl rfl rfl hb14) ?_
            refine ay 23 (.bool false) rfl rfl (wy 103 rfl rfl rfl hb12) (p_pickF rfl rfl hb14 rfl) ?_
            refine ap 24 (.bool false) rfl rfl (p_pickF rfl rfl hb12 rfl) ?_
            refine ax ?_
            refine ru4 3 (.pointer s3) 6 (Sl.v before6) 17 (Sl.v t17) 18 (I t18) rfl rfl rfl rfl ?_
            refine ru4 19 (I t19) 87 (Sl.v t87) 88 (I t88) 89 (I t89) rfl rfl rfl rfl ?_
            refine ru 121 (.bool false) rfl ?_
            exact J10 (s3, before6, t17, t18, t19, t87, t88, t89, false) _ _ H
          ·clear H; intro hb13 H
           refine ak 10 rfl rfl (wn 106 rfl rfl rfl hb13) ?_
           refine ak 11 rfl rfl (wn 106 rfl rfl rfl hb13) ?_
           refine ay 12 (.bool false) rfl rfl (wy 103 rfl rfl rfl hb12) (p_pickF rfl rfl hb13 rfl) ?_
           refine ay 13 (.bool false) rfl rfl (wy 103 rfl rfl rfl hb12) (p_move rfl rfl) ?_
           refine ak 14 rfl rfl (wn 110 rfl rfl rfl rfl) ?_
           refine ak 16 rfl rfl (wn 110 rfl rfl rfl rfl) ?_
           refine ak 17 rfl rfl (wn 110 rfl rfl rfl rfl) ?_
           refine ak 18 rfl rfl (wn 110 rfl rfl rfl rfl) ?_
           refine ak 19 rfl rfl (wn 110 rfl rfl rfl rfl) ?_
           refine ak 20 rfl rfl (wn 110 rfl rfl rfl rfl) ?_
           refine ak 15 rfl rfl (wn 110 rfl rfl rfl rfl) ?_
           refine ak 21 rfl rfl (wn 110 rfl rfl rfl rfl) ?_
           refine ak 22 rfl rfl (wn 110 rfl rfl rfl rfl) ?_
           refine ay 23 (.bool false) rfl rfl (wy 103 rfl rfl rfl hb12) (p_pickF rfl rfl rfl rfl) ?_
           refine ap 24 (.bool false) rfl rfl (p_pickF rfl rfl hb12 rfl) ?_
           refine ax ?_
           refine ru4 3 (.pointer s3) 6 (Sl.v before6) 17 (Sl.v t17) 18 (I t18) rfl rfl rfl rfl ?_
           refine ru4 19 (I t19) 87 (Sl.v t87) 88 (I t88) 89 (I t89) rfl rfl rfl rfl ?_
           refine ru 121 (.bool false) rfl ?_
           exact J10 (s3, before6, t17, t18, t19, t87, t88, t89, false) _ _ H
       ·clear H; intro hb9 H
        refine r_exit rfl ?_
        refine r_inBlock ?_
        refine r_region ?_
        refine xp _ rfl (p_add rfl rfl rfl) ?_
        refine xm (I (W (t19 + 1))) rfl rfl ?_
        refine xe ?_
        refine ru4 3 (.pointer s3) 17 (Sl.v t17) 18 (I t18) 19 (I (W (t19 + 1))) rfl rfl rfl rfl ?_
        exact hag3 (s3, t17, t18, (W (t19 + 1))) _ _ H
     ·intro J6
      refine r_region ?_
      refine xm (I e7) rfl rfl ?_
      refine xp _ rfl (p_ne rfl rfl rfl) ?_
      refine xm (.bool (!decide (e7 = 0))) rfl rfl ?_
      refine ifB_cases H ?_ ?_
      ·clear H; intro hb15 H
       refine yp (Sl.v v_13) rfl (wy 81 rfl rfl rfl hb15) (p_move rfl rfl) ?_
       refine yp (Sl.v before6) rfl (wy 81 rfl rfl rfl hb15) (p_move rfl rfl) ?_
       refine xo_eff rfl (wy 81 rfl rfl rfl hb15) (e_call (fn := Try.f47) H rfl rfl Try.func47 rfl rfl rfl) ?_
       rintro _ w_14 ⟨v_30, rfl, H⟩
       refine yp (.bool (!v_30)) rfl (wy 81 rfl rfl rfl hb15) (p_not rfl rfl) ?_
       refine xp (.bool (!v_30)) rfl (p_pickT rfl rfl hb15 rfl) ?_
       refine xe ?_
       refine ru4 3 (.pointer s3) 6 (Sl.v before6) 8 (Sl.v v_13) 17 (Sl.v t17) rfl rfl rfl rfl ?_
       refine ru3 18 (I t18) 19 (I t19) 86 (.bool (!v_30)) rfl rfl rfl ?_
       exact J6 (s3, before6, v_13, t17, t18, t19, (!v_30)) _ _ H
      ·clear H; intro hb15 H
       refine xo_skip rfl (wn 81 rfl rfl rfl hb15) ?_
       refine xo_skip rfl (wn 81 rfl rfl rfl hb15) ?_
       refine xo_skip rfl (wn 81 rfl rfl rfl hb15) ?_
       refine xo_skip rfl (wn 81 rfl rfl rfl hb15) ?_
       refine xp (.bool false) rfl (p_pickF rfl rfl hb15 rfl) ?_
       refine xe ?_
       refine ru4 3 (.pointer s3) 6 (Sl.v before6) 8 (Sl.v v_13) 17 (Sl.v t17) rfl rfl rfl rfl ?_
       refine ru3 18 (I t18) 19 (I t19) 86 (.bool false) rfl rfl rfl ?_
       exact J6 (s3, before6, v_13, t17, t18, t19, false) _ _ H
    ·intro J5
     refine sr ?_
     refine xp _ rfl (p_fieldAddr (off := 0) (ft := 3) (size := 1) rfl u81 rfl Try.ti3 (by decide) rfl rfl) ?_
     obtain ⟨adv_31, v_31, hev_31, hcv_31, H⟩ := H
     refine xr (I v_31) rfl (wo rfl) rfl u3 rfl rfl hev_31 hcv_31 ?_
     refine xe ?_
     refine r_block ?_
     refine sr ?_
     refine xp _ rfl (p_eq rfl rfl rfl) ?_
     refine xs (.bool (decide (v_31 = 0))) rfl rfl ?_
     refine xe ?_
     refine r_condB (b := (decide (v_31 = 0))) rfl H ?_ ?_
     ·clear H; intro hb16 H
      refine r_region ?_
      refine xm (.pointer s3) rfl rfl ?_
      refine xp _ rfl (p_fieldAddr (off := 1) (ft := 9) (size := 1) rfl u81 rfl Try.ti9 (by decide) rfl rfl) ?_
      obtain ⟨adv_32, v_32, hev_32, hcv_32, H⟩ := H
      refine xr (.string v_32) rfl (wo rfl) rfl u9 rfl rfl hev_32 hcv_32 ?_
      refine xp _ rfl (p_fieldAddr (off := 3) (ft := 3) (size := 1) rfl u81 rfl Try.ti3 (by decide) rfl rfl) ?_
      obtain ⟨adv_33, v_33, hev_33, hcv_33, H⟩ := H
      refine xr (I v_33) rfl (wo rfl) rfl u3 rfl rfl hev_33 hcv_33 ?_
      refine xp _ rfl (p_fieldAddr (off := 6) (ft := 24) (size := 32) rfl u81 rfl Try.ti24 (by decide) rfl rfl) ?_
      obtain ⟨adv_34, v_34, hev_34, hnv_34, hcv_34, H⟩ := H
      refine xo_read (v := (.agg v_34)) rfl (wo rfl) (rd_loadN (ad := adv_34) rfl u24 rfl Try.ti24 (by show Value.pointer _ = _; rw [hev_34]) hnv_34 hcv_34) ?_
      refine xo_eff rfl (wo rfl) (e_call (fn := Try.f42) H rfl rfl Try.func42 rfl rfl rfl) ?_
      rintro _ w_15 ⟨v_36, v_37, v_38, rfl, H⟩
      refine xm (.tuple #[(.agg v_36), (.bool v_37), (I v_38)]) rfl rfl ?_
      refine xp (.agg v_36) rfl (p_extract (vs := #[(.agg v_36), (.bool v_37), (I v_38)]) rfl rfl rfl) ?_
      refine xp (.bool v_37) rfl (p_extract (vs := #[(.agg v_36), (.bool v_37), (I v_38)]) rfl rfl rfl) ?_
      refine xp (I v_38) rfl (p_extract (vs := #[(.agg v_36), (.bool v_37), (I v_38)]) rfl rfl rfl) ?_
      refine xs (I v_38) rfl rfl ?_
      refine xe ?_
      refine r_inBlock ?_
      refine ru4 3 (.pointer s3) 6 (Sl.v v_11) 7 (I v_38) 17 (Sl.v t17) rfl rfl rfl rfl ?_
      refine ru2 18 (I t18) 19 (I t19) rfl rfl ?_
      exact J5 (s3, v_11, v_38, t17, t18, t19) _ _ H
     ·clear H; intro hb16 H
      refine sr ?_
      refine xp _ rfl (p_eq rfl rfl rfl) ?_
      refine xs (.bool (decide (v_31 = 1))) rfl rfl ?_
      refine xe ?_
      refine r_condB (b := (decide (v_31 = 1))) rfl H ?_ ?_
      ·clear H; intro hb17 H
       refine r_region ?_
       refine xm (.pointer s3) rfl rfl ?_
       refine xp _ rfl (p_fieldAddr (off := 1) (ft := 9) (size := 1) rfl u81 rfl Try.ti9 (by decide) rfl rfl) ?_
       obtain ⟨adv_39, v_39, hev_39, hcv_39, H⟩ := H
       refine xr (.string v_39) rfl (wo rfl) rfl u9 rfl rfl hev_39 hcv_39 ?_
       refine xp _ rfl (p_fieldAddr (off := 3) (ft := 3) (size := 1) rfl u81 rfl Try.ti3 (by decide) rfl rfl) ?_
       obtain ⟨adv_40, v_40, hev_40, hcv_40, H⟩ := H
       refine xr (I v_40) rfl (wo rfl) rfl u3 rfl rfl hev_40 hcv_40 ?_
       refine xo_eff rfl (wo rfl) (e_call (fn := Try.f43) H rfl rfl Try.func43 rfl rfl rfl) ?_
       rintro _ w_16 ⟨v_42, v_43, v_44, rfl, H⟩
       refine xm (.tuple #[(.agg v_42), (.bool v_43), (I v_44)]) rfl rfl ?_
       refine xp (.agg v_42) rfl (p_extract (vs := #[(.agg v_42), (.bool v_43), (I v_44)]) rfl rfl rfl) ?_
       refine xp (.bool v_43) rfl (p_extract (vs := #[(.agg v_42), (.bool v_43), (I v_44)]) rfl rfl rfl) ?_
       refine xp (I v_44) rfl (p_extract (vs := #[(.agg v_42), (.bool v_43), (I v_44)]) rfl rfl rfl) ?_
       refine xs (I v_44) rfl rfl ?_
       refine xe ?_
       refine r_inBlock ?_
       refine ru4 3 (.pointer s3) 6 (Sl.v v_11) 7 (I v_44) 17 (Sl.v t17) rfl rfl rfl rfl ?_
       refine ru2 18 (I t18) 19 (I t19) rfl rfl ?_
       exact J5 (s3, v_11, v_44, t17, t18, t19) _ _ H
      ·clear H; intro hb17 H
       refine sr ?_
       refine xp _ rfl (p_eq rfl rfl rfl) ?_
       refine xs (.bool (decide (v_31 = 2))) rfl rfl ?_
       refine xe ?_
       refine r_condB (b := (decide (v_31 = 2))) rfl H ?_ ?_
       ·clear H; intro hb18 H
        refine r_region ?_
        refine xm (.pointer s3) rfl rfl ?_
        refine xp _ rfl (p_fieldAddr (off := 1) (ft := 9) (size := 1) rfl u81 rfl Try.ti9 (by decide) rfl rfl) ?_
        obtain ⟨adv_45, v_45, hev_45, hcv_45, H⟩ := H
        refine xr (.string v_45) rfl (wo rfl) rfl u9 rfl rfl hev_45 hcv_45 ?_
        refine xp _ rfl (p_fieldAddr (off := 4) (ft := 3) (size := 1) rfl u81 rfl Try.ti3 (by decide) rfl rfl) ?_
        obtain ⟨adv_46, v_46, hev_46, hcv_46, H⟩ := H
        refine xr (I v_46) rfl (wo rfl) rfl u3 rfl rfl hev_46 hcv_46 ?_
        refine xo_eff rfl (wo rfl) (e_call (fn := Try.f44) H rfl rfl Try.func44 rfl rfl rfl) ?_
        rintro _ w_17 ⟨v_48, rfl, H⟩
        refine xs (I v_48) rfl rfl ?_
        refine xe ?_
        refine r_inBlock ?_
        refine ru4 3 (.pointer s3) 6 (Sl.v v_11) 7 (I v_48) 17 (Sl.v t17) rfl rfl rfl rfl ?_
        refine ru2 18 (I t18) 19 (I t19) rfl rfl ?_
        exact J5 (s3, v_11, v_48, t17, t18, t19) _ _ H
       ·clear H; intro hb18 H
        refine sr ?_
        refine xp _ rfl (p_eq rfl rfl rfl) ?_
        refine xs (.bool (decide (v_31 = 3))) rfl rfl ?_
        refine xe ?_
        refine r_condB (b := (decide (v_31 = 3))) rfl H ?_ ?_
        ·clear H; intro hb19 H
         refine r_region ?_
         refine xm (.pointer s3) rfl rfl ?_
         refine xp _ rfl (p_fieldAddr (off := 1) (ft := 9) (size := 1) rfl u81 rfl Try.ti9 (by decide) rfl rfl) ?_
         obtain ⟨adv_49, v_49, hev_49, hcv_49, H⟩ := H
         refine xr (.string v_49) rfl (wo rfl) rfl u9 rfl rfl hev_49 hcv_49 ?_
         refine xp _ rfl (p_fieldAddr (off := 2) (ft := 9) (size := 1) rfl u81 rfl Try.ti9 (by decide) rfl rfl) ?_
         obtain ⟨adv_50, v_50, hev_50, hcv_50, H⟩ := H
         refine xr (.string v_50) rfl (wo rfl) rfl u9 rfl rfl hev_50 hcv_50 ?_
         refine xp _ rfl (p_fieldAddr (off := 4) (ft := 3) (size := 1) rfl u81 rfl Try.ti3 (by decide) rfl rfl) ?_
         obtain ⟨adv_51, v_51, hev_51, hcv_51, H⟩ := H
         refine xr (I v_51) rfl (wo rfl) rfl u3 rfl rfl hev_51 hcv_51 ?_
         refine xp _ rfl (p_fieldAddr (off := 5) (ft := 4) (size := 1) rfl u81 rfl Try.ti4 (by decide) rfl rfl) ?_
         obtain ⟨adv_52, v_52, hev_52, hcv_52, H⟩ := H
         refine xr (.bool v_52) rfl (wo rfl) rfl u4 rfl rfl hev_52 hcv_52 ?_
         refine xo_eff rfl (wo rfl) (e_call (fn := Try.f45) H rfl rfl Try.func45 rfl rfl rfl) ?_
         rintro _ w_18 ⟨v_54, rfl, H⟩
         refine xs (I v_54) rfl rfl ?_
         refine xe ?_
         refine r_inBlock ?_
         refine ru4 3 (.pointer s3) 6 (Sl.v v_11) 7 (I v_54) 17 (Sl.v t17) rfl rfl rfl rfl ?_
         refine ru2 18 (I t18) 19 (I t19) rfl rfl ?_
         exact J5 (s3, v_11, v_54, t17, t18, t19) _ _ H
        ·clear H; intro hb19 H
         refine r_region ?_
         refine xm (.pointer s3) rfl rfl ?_
         refine xp _ rfl (p_fieldAddr (off := 1) (ft := 9) (size := 1) rfl u81 rfl Try.ti9 (by decide) rfl rfl) ?_
         obtain ⟨adv_55, v_55, hev_55, hcv_55, H⟩ := H
         refine xr (.string v_55) rfl (wo rfl) rfl u9 rfl rfl hev_55 hcv_55 ?_
         refine xo_eff rfl (wo rfl) (e_call (fn := Try.f46) H rfl rfl Try.func46 rfl rfl rfl) ?_
         rintro _ w_19 ⟨v_57, rfl, H⟩
         refine xs (I v_57) rfl rfl ?_
         refine xe ?_
         refine r_inBlock ?_
         refine ru4 3 (.pointer s3) 6 (Sl.v v_11) 7 (I v_57) 17 (Sl.v t17) rfl rfl rfl rfl ?_
         refine ru2 18 (I t18) 19 (I t19) rfl rfl ?_
         exact J5 (s3, v_11, v_57, t17, t18, t19) _ _ H
   ·clear H; intro hb4 H
    refine r_exit rfl ?_
    refine sr ?_
    refine xs (.bool true) rfl rfl ?_
    refine xe ?_
    exact r_ret (fn := Try.f7) Try.func7 (res_1 rfl ⟨by decide, rfl⟩) H

/-! 38 sporran/sporranlaw12.speaks -/
def f38 (R : Value → World → Prop)  (w : World) : Prop :=
 CallF Try.prog 40 #[] w fun u_1 w_1 => As Value.pointer u_1 fun v_2 =>
 CallF Try.prog 44 #[(.pointer v_2), (.string (ByteArray.mk #[97])), (.int .i64 1)] w_1 fun u_3 w_2 => As (Value.int .i64) u_3 fun v_4 =>
 BuiltA 1 Try.z24 [(0, (.int .u8 1))] fun c_5 =>
 CallF Try.prog 42 #[(.pointer v_2), (.string (ByteArray.mk #[97])), (.int .i64 0), (.agg c_5)] w_2 fun u_6 w_3 => AsT3 Value.agg Value.bool (Value.int .i64) u_6 fun v_7 v_8 v_9 =>
 New Try.z24 24 w_3 fun a_10 w_4 =>
 StN 32 (some a_10) v_7 w_4 fun w_5 =>
 BuiltA 1 Try.z24 [(0, (.int .u8 1))] fun c_11 =>
 CallF Try.prog 42 #[(.pointer v_2), (.string (ByteArray.mk #[97])), (.int .i64 1), (.agg c_11)] w_5 fun u_12 w_6 => AsT3 Value.agg Value.bool (Value.int .i64) u_12 fun v_13 v_14 v_15 =>
 New Try.z24 24 w_6 fun a_16 w_7 =>
 StN 32 (some a_16) v_13 w_7 fun w_8 =>
 IfB (decide (v_4 = 0)) (
  IfB (decide (v_9 = 0)) (
   R (.bool (decide (v_15 = 8))) w_8) (
   R (.bool false) w_8)) (
  R (.bool false) w_8)
theorem f38_ok (R : Value → World → Prop)  (w : World) (H : f38 R  w) : CallF Try.prog 38 #[] w R := by
 refine calls_of_runs (fn := Try.f38) Try.func38 rfl (Nat.le_of_ble_eq_true rfl) ?_
 show Runs _ _ 36 _ _ _ _
 unfold f38 at H

 refine sr ?_
 refine xs (.bool false) rfl rfl ?_
 refine xe ?_
 refine sr ?_
 refine xo_eff rfl (wo rfl) (e_call (fn := Try.f40) H rfl rfl Try.func40 rfl rfl rfl) ?_
 rintro _ w_1 ⟨v_2, rfl, H⟩
 refine xs (.pointer v_2) rfl rfl ?_
 refine xe ?_
 refine sr ?_
 refine xm (.pointer v_2) rfl rfl ?_
 refine xo_eff rfl (wo rfl) (e_call (fn := Try.f44) H rfl rfl Try.func44 rfl rfl rfl) ?_
 rintro _ w_2 ⟨v_4, rfl, H⟩
 refine xs (I v_4) rfl rfl ?_
 refine xe ?_
 refine sr ?_
 refine xm (.pointer v_2) rfl rfl ?_
 obtain ⟨c_5, hflc_5, H⟩ := H
 refine xp (.agg c_5) rfl (p_buildA (size := 1) rfl u24 Try.ti24 Try.ti5 hflc_5 rfl) ?_
 refine xo_eff rfl (wo rfl) (e_call (fn := Try.f42) H rfl rfl Try.func42 rfl rfl rfl) ?_
 rintro _ w_3 ⟨v_7, v_8, v_9, rfl, H⟩
 refine xm (.tuple #[(.agg v_7), (.bool v_8), (I v_9)]) rfl rfl ?_
 refine xp (.agg v_7) rfl (p_extract (vs := #[(.agg v_7), (.bool v_8), (I v_9)]) rfl rfl rfl) ?_
 refine xp (.bool v_8) rfl (p_extract (vs := #[(.agg v_7), (.bool v_8), (I v_9)]) rfl rfl rfl) ?_
 refine xp (I v_9) rfl (p_extract (vs := #[(.agg v_7), (.bool v_8), (I v_9)]) rfl rfl rfl) ?_
 refine xo_eff rfl (wo rfl) (e_alloc rfl Try.ti24 H) ?_
 rintro _ w_4 ⟨a_10, rfl, H⟩
 refine xo_effN rfl (wo rfl) (e_storeN rfl Try.ti24 rfl rfl H) ?_
 intro _ w_5 H
 refine xs (.bool v_8) rfl rfl ?_
 refine xs (I v_9) rfl rfl ?_
 refine xe ?_
 refine sr ?_
 refine xm (.pointer v_2) rfl rfl ?_
 obtain ⟨c_11, hflc_11, H⟩ := H
 refine xp (.agg c_11) rfl (p_buildA (size := 1) rfl u24 Try.ti24 Try.ti5 hflc_11 rfl) ?_
 refine xo_eff rfl (wo rfl) (e_call (fn := Try.f42) H rfl rfl Try.func42 rfl rfl rfl) ?_
 rintro _ w_6 ⟨v_13, v_14, v_15, rfl, H⟩
 refine xm (.tuple #[(.agg v_13), (.bool v_14), (I v_15)]) rfl rfl ?_
 refine xp (.agg v_13) rfl (p_extract (vs := #[(.agg v_13), (.bool v_14), (I v_15)]) rfl rfl rfl) ?_
 refine xp (.bool v_14) rfl (p_extract (vs := #[(.agg v_13), (.bool v_14), (I v_15)]) rfl rfl rfl) ?_
 refine xp (I v_15) rfl (p_extract (vs := #[(.agg v_13), (.bool v_14), (I v_15)]) rfl rfl rfl) ?_
 refine xo_eff rfl (wo rfl) (e_alloc rfl Try.ti24 H) ?_
 rintro _ w_7 ⟨a_16, rfl, H⟩
 refine xo_effN rfl (wo rfl) (e_storeN rfl Try.ti24 rfl rfl H) ?_
 intro _ w_8 H
 refine xs (.bool v_14) rfl rfl ?_
 refine xs (I v_15) rfl rfl ?_
 refine xe ?_
 refine sr ?_
 refine xm (I v_4) rfl rfl ?_
 refine xp _ rfl (p_eq rfl rfl rfl) ?_
 refine xm (.bool (decide (v_4 = 0))) rfl rfl ?_
 refine ifB_cases H ?_ ?_
 ·clear H; intro hb1 H
  refine yp (I v_9) rfl (wy 28 rfl rfl rfl hb1) (p_move rfl rfl) ?_
  refine yp (.bool (decide (v_9 = 0))) rfl (wy 28 rfl rfl rfl hb1) (p_eq rfl rfl rfl) ?_
  refine xp (.bool (decide (v_9 = 0))) rfl (p_pickT rfl rfl hb1 rfl) ?_
  refine xm (.bool (decide (v_9 = 0))) rfl rfl ?_
  refine ifB_cases H ?_ ?_
  ·clear H; intro hb2 H
   refine yp (I v_15) rfl (wy 32 rfl rfl rfl hb2) (p_move rfl rfl) ?_
   refine yp (.bool (decide (v_15 = 8))) rfl (wy 32 rfl rfl rfl hb2) (p_eq rfl rfl rfl) ?_
   refine xp (.bool (decide (v_15 = 8))) rfl (p_pickT rfl rfl hb2 rfl) ?_
   refine xs (.bool (decide (v_15 = 8))) rfl rfl ?_
   refine xe ?_
   exact r_ret (fn := Try.f38) Try.func38 (res_1 rfl ⟨by decide, rfl⟩) H
  ·clear H; intro hb2 H
   refine xo_skip rfl (wn 32 rfl rfl rfl hb2) ?_
   refine xo_skip rfl (wn 32 rfl rfl rfl hb2) ?_
   refine xp (.bool false) rfl (p_pickF rfl rfl hb2 rfl) ?_
   refine xs (.bool false) rfl rfl ?_
   refine xe ?_
   exact r_ret (fn := Try.f38) Try.func38 (res_1 rfl ⟨by decide, rfl⟩) H
 ·clear H; intro hb1 H
  refine xo_skip rfl (wn 28 rfl rfl rfl hb1) ?_
  refine xo_skip rfl (wn 28 rfl rfl rfl hb1) ?_
  refine xp (.bool false) rfl (p_pickF rfl rfl hb1 rfl) ?_
  refine xm (.bool false) rfl rfl ?_
  refine xo_skip rfl (wn 32 rfl rfl rfl rfl) ?_
  refine xo_skip rfl (wn 32 rfl rfl rfl rfl) ?_
  refine xp (.bool false) rfl (p_pickF rfl rfl rfl rfl) ?_
  refine xs (.bool false) rfl rfl ?_
  refine xe ?_
  exact r_ret (fn := Try.f38) Try.func38 (res_1 rfl ⟨by decide, rfl⟩) H

/-! 39 sporran/sporranlaw12.great -/
def f39_k1 (R : Value → World → Prop) (ag2 : (Sl × Int × Int) → World → Prop) (t8 : Sl) (t9 : Int) (t10 : Int) (t23 : Bool) (w : World) : Prop :=
 IfB t23 (
  R (.bool true) w) (
  ag2 (t8, t9, (IntKind.i64.wrap (t10 + 1))) w)
def f39_b0 (R : Value → World → Prop) (ag2 : (Sl × Int × Int) → World → Prop) (t8 : Sl) (t9 : Int) (t10 : Int) (w : World) : Prop :=
 IfB (decide (t10 < t9)) (
  Ix t8 t10 fun p_1 =>
  LdN 38 (some (p_1.add (t10.toNat * 38))) w fun v_2 =>
  New Try.z81 81 w fun a_3 w_1 =>
  StN 38 (some a_3) v_2 w_1 fun w_2 =>
  Ld Value.string (some (a_3.add 1)) w_2 fun v_4 =>
  IfB (decide (100 < (v_4.size : Int))) (
   f39_k1 R ag2 t8 t9 t10 true w_2) (
   Ld Value.string (some (a_3.add 2)) w_2 fun v_5 =>
   f39_k1 R ag2 t8 t9 t10 (decide (100 < (v_5.size : Int))) w_2)) (
  R (.bool false) w)
def f39 (R : Value → World → Prop) (calls0 : Sl) (w : World) : Prop :=
 IfB (decide (60 < (calls0.len : Int))) (
  R (.bool true) w) (
  Lp (fun ag (s : Sl × Int × Int) w => f39_b0 R ag s.1 s.2.1 s.2.2 w) (calls0, (calls0.len : Int), 0) w)
theorem f39_ok (R : Value → World → Prop) (calls0 : Sl) (w : World) (H : f39 R calls0 w) : CallF Try.prog 39 #[(Sl.v calls0)] w R := by
 refine calls_of_runs (fn := Try.f39) Try.func39 rfl (Nat.le_of_ble_eq_true rfl) ?_
 show Runs _ _ 25 _ _ _ _
 unfold f39 at H
 refine ru 0 (Sl.v calls0) rfl ?_
 refine sr ?_
 refine xs (.bool false) rfl rfl ?_
 refine xe ?_
 refine r_seq ?_
 refine sr ?_
 refine xm (Sl.v calls0) rfl rfl ?_
 refine xp (I (calls0.len : Int)) rfl (p_len rfl u76 rfl) ?_
 refine xp _ rfl (p_gt rfl rfl rfl) ?_
 refine xe ?_
 refine r_condB (b := (decide (60 < (calls0.len : Int)))) rfl H ?_ ?_
 ·clear H; intro hb1 H
  refine sr ?_
  refine xs (.bool true) rfl rfl ?_
  refine xe ?_
  exact r_ret (fn := Try.f39) Try.func39 (res_1 rfl ⟨by decide, rfl⟩) H
 ·clear H; intro hb1 H
  refine r_skip ?_
  refine r_seq ?_
  refine sr ?_
  refine xm (Sl.v calls0) rfl rfl ?_
  refine xp (I (calls0.len : Int)) rfl (p_len rfl u76 rfl) ?_
  refine xm (I 0) rfl rfl ?_
  refine xe ?_
  refine r_block ?_
  refine ru3 8 (Sl.v calls0) 9 (I (calls0.len : Int)) 10 (I 0) rfl rfl rfl ?_
  refine r_loopJ (fun (s : Sl × Int × Int) σ => upd 10 (I s.2.2) (upd 9 (I s.2.1) (upd 8 (Sl.v s.1) (σ)))) (s := (calls0, (calls0.len : Int), 0)) H ?_
  clear H
  rintro ag2 ⟨t8, t9, t10⟩ σ w H hag2
  replace H : f39_b0 R ag2 t8 t9 t10 w := H
  try dsimp only
  unfold f39_b0 at H
  refine sr ?_
  refine xp _ rfl (p_lt rfl rfl rfl) ?_
  refine xe ?_
  refine r_seq ?_
  refine r_condB (b := (decide (t10 < t9))) rfl H ?_ ?_
  ·clear H; intro hb3 H
   refine r_skip ?_
   refine sb ?_
   refine sr ?_
   obtain ⟨p_1, hap_1, hlp_1, hup_1, H⟩ := H
   refine xp _ rfl (p_indexAddr (s := t8) (ad := p_1) (size := 38) rfl u76 Try.ti81 rfl rfl hap_1 hlp_1 hup_1) ?_
   obtain ⟨adv_2, v_2, hev_2, hnv_2, hcv_2, H⟩ := H
   refine xo_read (v := (.agg v_2)) rfl (wo rfl) (rd_loadN (ad := adv_2) rfl u81 rfl Try.ti81 (by show Value.pointer _ = _; rw [hev_2]) hnv_2 hcv_2) ?_
   refine xo_eff rfl (wo rfl) (e_alloc rfl Try.ti81 H) ?_
   rintro _ w_1 ⟨a_3, rfl, H⟩
   refine xo_effN rfl (wo rfl) (e_storeN rfl Try.ti81 rfl rfl H) ?_
   intro _ w_2 H
   refine xe ?_
   refine r_seq ?_
   refine r_topJ (fun (s : Sl × Int × Int × Bool) σ => upd 23 (.bool s.2.2.2) (upd 10 (I s.2.2.1) (upd 9 (I s.2.1) (upd 8 (Sl.v s.1) (σ))))) (fun (s : Sl × Int × Int × Bool) w => f39_k1 R ag2 s.1 s.2.1 s.2.2.1 s.2.2.2 w) ?_ ?_
   ·rintro ⟨t8, t9, t10, t23⟩ σ w H
    replace H : f39_k1 R ag2 t8 t9 t10 t23 w := H
    try dsimp only
    unfold f39_k1 at H
    refine r_condB (b := t23) rfl H ?_ ?_
    ·clear H; intro hb5 H
     refine sr ?_
     refine xs (.bool true) rfl rfl ?_
     refine xe ?_
     exact r_ret (fn := Try.f39) Try.func39 (res_1 rfl ⟨by decide, rfl⟩) H
    ·clear H; intro hb5 H
     refine r_skip ?_
     refine r_inBlock ?_
     refine r_region ?_
     refine xp _ rfl (p_add rfl rfl rfl) ?_
     refine xm (I (W (t10 + 1))) rfl rfl ?_
     refine xe ?_
     refine ru3 8 (Sl.v t8) 9 (I t9) 10 (I (W (t10 + 1))) rfl rfl rfl ?_
     exact hag2 (t8, t9, (W (t10 + 1))) _ _ H
   ·intro J4
    refine r_region ?_
    refine xp _ rfl (p_fieldAddr (off := 1) (ft := 9) (size := 1) rfl u81 rfl Try.ti9 (by decide) rfl rfl) ?_
    obtain ⟨adv_4, v_4, hev_4, hcv_4, H⟩ := H
    refine xr (.string v_4) rfl (wo rfl) rfl u9 rfl rfl hev_4 hcv_4 ?_
    refine xp (I (v_4.size : Int)) rfl (p_lenS rfl u9 rfl) ?_
    refine xp _ rfl (p_gt rfl rfl rfl) ?_
    refine xm (.bool (decide (100 < (v_4.size : Int)))) rfl rfl ?_
    refine ifB_cases H ?_ ?_
    ·clear H; intro hb6 H
     refine xo_skip rfl (wn 18 rfl rfl rfl hb6) ?_
     refine xo_skip rfl (wn 18 rfl rfl rfl hb6) ?_
     refine xo_skip rfl (wn 18 rfl rfl rfl hb6) ?_
     refine xo_skip rfl (wn 18 rfl rfl rfl hb6) ?_
     refine xp (.bool true) rfl (p_pickT rfl rfl hb6 rfl) ?_
     refine xe ?_
     refine ru4 8 (Sl.v t8) 9 (I t9) 10 (I t10) 23 (.bool true) rfl rfl rfl rfl ?_
     exact J4 (t8, t9, t10, true) _ _ H
    ·clear H; intro hb6 H
     refine yp (.pointer (some (a_3.add 2))) rfl (wy 18 rfl rfl rfl hb6) (p_fieldAddr (off := 2) (ft := 9) (size := 1) rfl u81 rfl Try.ti9 (by decide) rfl rfl) ?_
     obtain ⟨adv_5, v_5, hev_5, hcv_5, H⟩ := H
     refine xr (.string v_5) rfl (wy 18 rfl rfl rfl hb6) rfl u9 rfl rfl hev_5 hcv_5 ?_
     refine yp (I (v_5.size : Int)) rfl (wy 18 rfl rfl rfl hb6) (p_lenS rfl u9 rfl) ?_
     refine yp (.bool (decide (100 < (v_5.size : Int)))) rfl (wy 18 rfl rfl rfl hb6) (p_gt rfl rfl rfl) ?_
     refine xp (.bool (decide (100 < (v_5.size : Int)))) rfl (p_pickF rfl rfl hb6 rfl) ?_
     refine xe ?_
     refine ru4 8 (Sl.v t8) 9 (I t9) 10 (I t10) 23 (.bool (decide (100 < (v_5.size : Int)))) rfl rfl rfl rfl ?_
     exact J4 (t8, t9, t10, (decide (100 < (v_5.size : Int)))) _ _ H
  ·clear H; intro hb3 H
   refine r_exit rfl ?_
   refine sr ?_
   refine xs (.bool false) rfl rfl ?_
   refine xe ?_
   exact r_ret (fn := Try.f39) Try.func39 (res_1 rfl ⟨by decide, rfl⟩) H

/-! 40 sporran/volume.New -/
def f40 (R : Value → World → Prop)  (w : World) : Prop :=
 Ef Try.prog (Instr.makeMap 177 none) Value.map w fun v_1 w_1 =>
 Built #[(0, 1)] #[(.map none)] [(0, (.map v_1))] fun c_2 =>
 New c_2 179 w_1 fun a_3 w_2 =>
 R (.pointer (some a_3)) w_2
theorem f40_ok (R : Value → World → Prop)  (w : World) (H : f40 R  w) : CallF Try.prog 40 #[] w R := by
 refine calls_of_runs (fn := Try.f40) Try.func40 rfl (Nat.le_of_ble_eq_true rfl) ?_
 show Runs _ _ 4 _ _ _ _
 unfold f40 at H

 refine sr ?_
 refine xs (.pointer none) rfl rfl ?_
 refine xe ?_
 refine sr ?_
 refine xo_eff rfl (wo rfl) (e_gen (s := Instr.makeMap 177 none) (enc := Value.map) rfl H) ?_
 rintro _ w_1 ⟨v_1, rfl, H⟩
 obtain ⟨c_2, hflc_2, H⟩ := H
 refine xp (.agg c_2) rfl (p_buildS (places := #[(0, 1)]) rfl Try.pl179 Try.ti179 hflc_2 rfl) ?_
 refine xo_eff rfl (wo rfl) (e_box (v := (.agg c_2)) rfl rfl H) ?_
 rintro _ w_2 ⟨a_3, rfl, H⟩
 refine xs (.pointer (some a_3)) rfl rfl ?_
 refine xe ?_
 exact r_ret (fn := Try.f40) Try.func40 (res_1 rfl ⟨by decide, rfl⟩) H

/-! 41 (*sporran/volume.Set).All -/
def f41_b1 (R : Value → World → Prop) (ag1 : (Option Addr × Sl × Sl × Int × Int) → World → Prop) (ag3 : (Option Addr × Sl × Option Addr × Option Addr × Sl × Int × Int × Sl × Int × Int) → World → Prop) (s0 : Option Addr) (out2 : Sl) (v5 : Option Addr) (x6 : Option Addr) (t14 : Sl) (t15 : Int) (t16 : Int) (t35 : Sl) (t36 : Int) (t37 : Int) (w : World) : Prop :=
 IfB (decide (t37 < t36)) (
  Ix t35 t37 fun p_22 =>
  Ld (Value.int .i64) (some (p_22.add (t37.toNat * 1))) w fun v_23 =>
  NotNil x6 fun p_24 =>
  Ld Sl.v (some (p_24.add 3)) w fun v_25 =>
  NotNil v5 fun p_26 =>
  Ld Value.map (some (p_26.add 2)) w fun v_27 =>
  Ef Try.prog (Instr.lookup 181 (.map v_27) (.int .i64 v_23) false) Value.agg w fun v_28 w_10 =>
  Built #[(0, 1), (1, 32)] Try.z98 [(0, (.int .i64 v_23)), (1, (.agg v_28))] fun c_29 =>
  c_29.size = 33 ∧ (
  New c_29 98 w_10 fun a_30 w_11 =>
  Ef Try.prog (Builtin.append_ #[91, 91] 91 #[(Sl.v v_25), (Sl.v ⟨some a_30, 1, 1⟩)]) Sl.v w_11 fun v_32 w_12 =>
  NotNil x6 fun p_33 =>
  St (some (p_33.add 3)) (Sl.v v_32) w_12 fun w_13 =>
  ag3 (s0, out2, v5, x6, t14, t15, t16, t35, t36, (IntKind.i64.wrap (t37 + 1))) w_13)) (
  LdN 4 x6 w fun v_34 =>
  v_34.size = 4 ∧ (
  New v_34 93 w fun a_35 w_14 =>
  Ef Try.prog (Builtin.append_ #[82, 82] 82 #[(Sl.v out2), (Sl.v ⟨some a_35, 1, 1⟩)]) Sl.v w_14 fun v_37 w_15 =>
  ag1 (s0, v_37, t14, t15, (IntKind.i64.wrap (t16 + 1))) w_15))
def f41_b0 (R : Value → World → Prop) (ag1 : (Option Addr × Sl × Sl × Int × Int) → World → Prop) (s0 : Option Addr) (out2 : Sl) (t14 : Sl) (t15 : Int) (t16 : Int) (w : World) : Prop :=
 IfB (decide (t16 < t15)) (
  Ix t14 t16 fun p_7 =>
  Ld Value.string (some (p_7.add (t16.toNat * 1))) w fun v_8 =>
  NotNil s0 fun p_9 =>
  Ld Value.map (some (p_9.add 0)) w fun v_10 =>
  Ef Try.prog (Instr.lookup 177 (.map v_10) (.string v_8) false) Value.agg w fun v_11 w_3 =>
  New #[(.int .i64 0), (.bool false), (.map none)] 183 w_3 fun a_12 w_4 =>
  StN 3 (some a_12) v_11 w_4 fun w_5 =>
  Ld (Value.int .i64) (some (a_12.add 0)) w_5 fun v_13 =>
  Ld Value.bool (some (a_12.add 1)) w_5 fun v_14 =>
  Built #[(0, 1), (1, 1), (2, 1), (3, 1)] #[(.string (ByteArray.mk #[])), (.int .i64 0), (.bool false), (Sl.v Sl.nil)] [(0, (.string v_8)), (1, (.int .i64 v_13)), (2, (.bool v_14))] fun c_15 =>
  New #[(.string (ByteArray.mk #[])), (.int .i64 0), (.bool false), (Sl.v Sl.nil)] 93 w_5 fun a_16 w_6 =>
  StN 4 (some a_16) c_15 w_6 fun w_7 =>
  Ld Value.map (some (a_12.add 2)) w_7 fun v_17 =>
  CallF Try.prog 99 #[(.map v_17)] w_7 fun v_19 w_8 =>
  CallF Try.prog 98 #[v_19] w_8 fun u_20 w_9 => As Sl.v u_20 fun v_21 =>
  Lp (fun ag (s : Option Addr × Sl × Option Addr × Option Addr × Sl × Int × Int × Sl × Int × Int) w => f41_b1 R ag1 ag s.1 s.2.1 s.2.2.1 s.2.2.2.1 s.2.2.2.2.1 s.2.2.2.2.2.1 s.2.2.2.2.2.2.1 s.2.2.2.2.2.2.2.1 s.2.2.2.2.2.2.2.2.1 s.2.2.2.2.2.2.2.2.2 w) (s0, out2, (some a_12), (some a_16), t14, t15, t16, v_21, (v_21.len : Int), 0) w_9) (
  R (Sl.v out2) w)
def f41 (R : Value → World → Prop) (s0 : Option Addr) (w : World) : Prop :=
 NotNil s0 fun p_1 =>
 Ld Value.map (some (p_1.add 0)) w fun v_2 =>
 CallF Try.prog 97 #[(.map v_2)] w fun v_4 w_1 =>
 CallF Try.prog 95 #[v_4] w_1 fun u_5 w_2 => As Sl.v u_5 fun v_6 =>
 Lp (fun ag (s : Option Addr × Sl × Sl × Int × Int) w => f41_b0 R ag s.1 s.2.1 s.2.2.1 s.2.2.2.1 s.2.2.2.2 w) (s0, Sl.nil, v_6, (v_6.len : Int), 0) w_2
theorem f41_ok (R : Value → World → Prop) (s0 : Option Addr) (w : World) (H : f41 R s0 w) : CallF Try.prog 41 #[(.pointer s0)] w R := by
 refine calls_of_runs (fn := Try.f41) Try.func41 rfl (Nat.le_of_ble_eq_true rfl) ?_
 show Runs _ _ 59 _ _ _ _
 unfold f41 at H
 refine ru 0 (.pointer s0) rfl ?_
 refine sr ?_
 refine xs (Sl.v Sl.nil) rfl rfl ?_
 refine xe ?_
 refine r_seq ?_
 refine sr ?_
 refine xm (.pointer s0) rfl rfl ?_
 obtain ⟨p_1, hpp_1, H⟩ := H
 refine xp (.pointer (some p_1)) rfl (p_nilCheck rfl rfl hpp_1) ?_
 refine xp _ rfl (p_fieldAddr (off := 0) (ft := 177) (size := 1) rfl u179 rfl Try.ti177 (by decide) rfl rfl) ?_
 obtain ⟨adv_2, v_2, hev_2, hcv_2, H⟩ := H
 refine xr (.map v_2) rfl (wo rfl) rfl u177 rfl rfl hev_2 hcv_2 ?_
 refine xo_eff rfl (wo rfl) (e_call (fn := Try.f97) H rfl rfl Try.func97 rfl rfl rfl) ?_
 intro v_4 w_1 H
 refine xo_eff rfl (wo rfl) (e_call (fn := Try.f95) H rfl rfl Try.func95 rfl rfl rfl) ?_
 rintro _ w_2 ⟨v_6, rfl, H⟩
 refine xp (I (v_6.len : Int)) rfl (p_len rfl u71 rfl) ?_
 refine xm (I 0) rfl rfl ?_
 refine xe ?_
 refine r_block ?_
 refine ru4 0 (.pointer s0) 2 (Sl.v Sl.nil) 14 (Sl.v v_6) 15 (I (v_6.len : Int)) rfl rfl rfl rfl ?_
 refine ru 16 (I 0) rfl ?_
 refine r_loopJ (fun (s : Option Addr × Sl × Sl × Int × Int) σ => upd 16 (I s.2.2.2.2) (upd 15 (I s.2.2.2.1) (upd 14 (Sl.v s.2.2.1) (upd 2 (Sl.v s.2.1) (upd 0 (.pointer s.1) (σ)))))) (s := (s0, Sl.nil, v_6, (v_6.len : Int), 0)) H ?_
 clear H
 rintro ag1 ⟨s0, out2, t14, t15, t16⟩ σ w H hag1
 replace H : f41_b0 R ag1 s0 out2 t14 t15 t16 w := H
 try dsimp only
 unfold f41_b0 at H
 refine sr ?_
 refine xp _ rfl (p_lt rfl rfl rfl) ?_
 refine xe ?_
 refine r_seq ?_
 refine r_condB (b := (decide (t16 < t15))) rfl H ?_ ?_
 ·clear H; intro hb2 H
  refine r_skip ?_
  refine sb ?_
  refine sr ?_
  obtain ⟨p_7, hap_7, hlp_7, hup_7, H⟩ := H
  refine xp _ rfl (p_indexAddr (s := t14) (ad := p_7) (size := 1) rfl u71 Try.ti9 rfl rfl hap_7 hlp_7 hup_7) ?_
  obtain ⟨adv_8, v_8, hev_8, hcv_8, H⟩ := H
  refine xr (.string v_8) rfl (wo rfl) rfl u9 rfl rfl hev_8 hcv_8 ?_
  refine xs (.string v_8) rfl rfl ?_
  refine xe ?_
  refine sr ?_
  refine xm (.pointer s0) rfl rfl ?_
  obtain ⟨p_9, hpp_9, H⟩ := H
  refine xp (.pointer (some p_9)) rfl (p_nilCheck rfl rfl hpp_9) ?_
  refine xp _ rfl (p_fieldAddr (off := 0) (ft := 177) (size := 1) rfl u179 rfl Try.ti177 (by decide) rfl rfl) ?_
  obtain ⟨adv_10, v_10, hev_10, hcv_10, H⟩ := H
  refine xr (.map v_10) rfl (wo rfl) rfl u177 rfl rfl hev_10 hcv_10 ?_
  refine xm (.string v_8) rfl rfl ?_
  refine xo_eff rfl (wo rfl) (e_gen (s := Instr.lookup 177 (.map v_10) (.string v_8) false) (enc := Value.agg) rfl H) ?_
  rintro _ w_3 ⟨v_11, rfl, H⟩
  refine xo_eff rfl (wo rfl) (e_alloc rfl Try.ti183 H) ?_
  rintro _ w_4 ⟨a_12, rfl, H⟩
  refine xo_effN rfl (wo rfl) (e_storeN rfl Try.ti183 rfl rfl H) ?_
  intro _ w_5 H
  refine xe ?_
  refine sr ?_
  refine xm (.string v_8) rfl rfl ?_
  refine xp _ rfl (p_fieldAddr (off := 0) (ft := 3) (size := 1) rfl u183 rfl Try.ti3 (by decide) rfl rfl) ?_
  obtain ⟨adv_13, v_13, hev_13, hcv_13, H⟩ := H
  refine xr (I v_13) rfl (wo rfl) rfl u3 rfl rfl hev_13 hcv_13 ?_
  refine xp _ rfl (p_fieldAddr (off := 1) (ft := 4) (size := 1) rfl u183 rfl Try.ti4 (by decide) rfl rfl) ?_
  obtain ⟨adv_14, v_14, hev_14, hcv_14, H⟩ := H
  refine xr (.bool v_14) rfl (wo rfl) rfl u4 rfl rfl hev_14 hcv_14 ?_
  obtain ⟨c_15, hflc_15, H⟩ := H
  refine xp (.agg c_15) rfl (p_buildS (places := #[(0, 1), (1, 1), (2, 1), (3, 1)]) rfl Try.pl93 Try.ti93 hflc_15 rfl) ?_
  refine xo_eff rfl (wo rfl) (e_alloc rfl Try.ti93 H) ?_
  rintro _ w_6 ⟨a_16, rfl, H⟩
  refine xo_effN rfl (wo rfl) (e_storeN rfl Try.ti93 rfl rfl H) ?_
  intro _ w_7 H
  refine xe ?_
  refine r_seq ?_
  refine sr ?_
  refine xp _ rfl (p_fieldAddr (off := 2) (ft := 181) (size := 1) rfl u183 rfl Try.ti181 (by decide) rfl rfl) ?_
  obtain ⟨adv_17, v_17, hev_17, hcv_17, H⟩ := H
  refine xr (.map v_17) rfl (wo rfl) rfl u181 rfl rfl hev_17 hcv_17 ?_
  refine xo_eff rfl (wo rfl) (e_call (fn := Try.f99) H rfl rfl Try.func99 rfl rfl rfl) ?_
  intro v_19 w_8 H
  refine xo_eff rfl (wo rfl) (e_call (fn := Try.f98) H rfl rfl Try.func98 rfl rfl rfl) ?_
  rintro _ w_9 ⟨v_21, rfl, H⟩
  refine xp (I (v_21.len : Int)) rfl (p_len rfl u184 rfl) ?_
  refine xm (I 0) rfl rfl ?_
  refine xe ?_
  refine r_block ?_
  refine ru4 0 (.pointer s0) 2 (Sl.v out2) 5 (.pointer (some a_12)) 6 (.pointer (some a_16)) rfl rfl rfl rfl ?_
  refine ru4 14 (Sl.v t14) 15 (I t15) 16 (I t16) 35 (Sl.v v_21) rfl rfl rfl rfl ?_
  refine ru2 36 (I (v_21.len : Int)) 37 (I 0) rfl rfl ?_
  refine r_loopJ (fun (s : Option Addr × Sl × Option Addr × Option Addr × Sl × Int × Int × Sl × Int × Int) σ => upd 37 (I s.2.2.2.2.2.2.2.2.2) (upd 36 (I s.2.2.2.2.2.2.2.2.1) (upd 35 (Sl.v s.2.2.2.2.2.2.2.1) (upd 16 (I s.2.2.2.2.2.2.1) (upd 15 (I s.2.2.2.2.2.1) (upd 14 (Sl.v s.2.2.2.2.1) (upd 6 (.pointer s.2.2.2.1) (upd 5 (.pointer s.2.2.1) (upd 2 (Sl.v s.2.1) (upd 0 (.pointer s.1) (σ))))))))))) (s := (s0, out2, (some a_12), (some a_16), t14, t15, t16, v_21, (v_21.len : Int), 0)) H ?_
  clear H
  rintro ag3 ⟨s0, out2, v5, x6, t14, t15, t16, t35, t36, t37⟩ σ w H hag3
  replace H : f41_b1 R ag1 ag3 s0 out2 v5 x6 t14 t15 t16 t35 t36 t37 w := H
  try dsimp only
  unfold f41_b1 at H
  refine sr ?_
  refine xp _ rfl (p_lt rfl rfl rfl) ?_
  refine xe ?_
  refine r_seq ?_
  refine r_condB (b := (decide (t37 < t36))) rfl H ?_ ?_
  ·clear H; intro hb4 H
   refine r_skip ?_
   refine sb ?_
   refine sr ?_
   obtain ⟨p_22, hap_22, hlp_22, hup_22, H⟩ := H
   refine xp _ rfl (p_indexAddr (s := t35) (ad := p_22) (size := 1) rfl u184 Try.ti3 rfl rfl hap_22 hlp_22 hup_22) ?_
   obtain ⟨adv_23, v_23, hev_23, hcv_23, H⟩ := H
   refine xr (I v_23) rfl (wo rfl) rfl u3 rfl rfl hev_23 hcv_23 ?_
   refine xs (I v_23) rfl rfl ?_
   refine xe ?_
   refine r_region ?_
   obtain ⟨p_24, hpp_24, H⟩ := H
   refine xp _ rfl (p_fieldAddr (off := 3) (ft := 91) (size := 1) rfl u93 rfl Try.ti91 (by decide) rfl hpp_24) ?_
   obtain ⟨adv_25, v_25, hev_25, hcv_25, H⟩ := H
   refine xr (Sl.v v_25) rfl (wo rfl) rfl u91 rfl rfl hev_25 hcv_25 ?_
   refine xm (I v_23) rfl rfl ?_
   obtain ⟨p_26, hpp_26, H⟩ := H
   refine xp _ rfl (p_fieldAddr (off := 2) (ft := 181) (size := 1) rfl u183 rfl Try.ti181 (by decide) rfl hpp_26) ?_
   obtain ⟨adv_27, v_27, hev_27, hcv_27, H⟩ := H
   refine xr (.map v_27) rfl (wo rfl) rfl u181 rfl rfl hev_27 hcv_27 ?_
   refine xm (I v_23) rfl rfl ?_
   refine xo_eff rfl (wo rfl) (e_gen (s := Instr.lookup 181 (.map v_27) (I v_23) false) (enc := Value.agg) rfl H) ?_
   rintro _ w_10 ⟨v_28, rfl, H⟩
   obtain ⟨c_29, hflc_29, H⟩ := H
   refine xp (.agg c_29) rfl (p_buildS (places := #[(0, 1), (1, 32)]) rfl Try.pl98 Try.ti98 hflc_29 rfl) ?_
   obtain ⟨hzq_31, H⟩ := H
   refine xo_eff rfl (wo rfl) (e_buildAgg (size := 33) H rfl u91 Try.ti98 (by decide) (by decide) rfl hzq_31) ?_
   rintro _ w_11 ⟨a_30, rfl, H⟩
   refine xo_eff rfl (wo rfl) (e_app H rfl rfl rfl) ?_
   rintro _ w_12 ⟨v_32, rfl, H⟩
   obtain ⟨p_33, hpp_33, H⟩ := H
   refine xp _ rfl (p_fieldAddr (off := 3) (ft := 91) (size := 1) rfl u93 rfl Try.ti91 (by decide) rfl hpp_33) ?_
   refine xo_effN rfl (wo rfl) (e_store rfl Try.ti91 rfl rfl rfl H) ?_
   intro _ w_13 H
   refine xe ?_
   refine r_inBlock ?_
   refine r_region ?_
   refine xp _ rfl (p_add rfl rfl rfl) ?_
   refine xm (I (W (t37 + 1))) rfl rfl ?_
   refine xe ?_
   refine ru4 0 (.pointer s0) 2 (Sl.v out2) 5 (.pointer v5) 6 (.pointer x6) rfl rfl rfl rfl ?_
   refine ru4 14 (Sl.v t14) 15 (I t15) 16 (I t16) 35 (Sl.v t35) rfl rfl rfl rfl ?_
   refine ru2 36 (I t36) 37 (I (W (t37 + 1))) rfl rfl ?_
   exact hag3 (s0, out2, v5, x6, t14, t15, t16, t35, t36, (W (t37 + 1))) _ _ H
  ·clear H; intro hb4 H
   refine r_exit rfl ?_
   refine r_region ?_
   refine xm (Sl.v out2) rfl rfl ?_
   obtain ⟨adv_34, v_34, hev_34, hnv_34, hcv_34, H⟩ := H
   refine xo_read (v := (.agg v_34)) rfl (wo rfl) (rd_loadN (ad := adv_34) rfl u93 rfl Try.ti93 (by show Value.pointer _ = _; rw [hev_34]) hnv_34 hcv_34) ?_
   obtain ⟨hzq_36, H⟩ := H
   refine xo_eff rfl (wo rfl) (e_buildAgg (size := 4) H rfl u82 Try.ti93 (by decide) (by decide) rfl hzq_36) ?_
   rintro _ w_14 ⟨a_35, rfl, H⟩
   refine xo_eff rfl (wo rfl) (e_app H rfl rfl rfl) ?_
   rintro _ w_15 ⟨v_37, rfl, H⟩
   refine xs (Sl.v v_37) rfl rfl ?_
   refine xe ?_
   refine r_inBlock ?_
   refine r_region ?_
   refine xp _ rfl (p_add rfl rfl rfl) ?_
   refine xm (I (W (t16 + 1))) rfl rfl ?_
   refine xe ?_
   refine ru4 0 (.pointer s0) 2 (Sl.v v_37) 14 (Sl.v t14) 15 (I t15) rfl rfl rfl rfl ?_
   refine ru 16 (I (W (t16 + 1))) rfl ?_
   exact hag1 (s0, v_37, t14, t15, (W (t16 + 1))) _ _ H
 ·clear H; intro hb2 H
  refine r_exit rfl ?_
  refine sr ?_
  refine xm (Sl.v out2) rfl rfl ?_
  refine xs (Sl.v out2) rfl rfl ?_
  refine xe ?_
  exact r_ret (fn := Try.f41) Try.func41 (res_1 rfl ⟨by decide, rfl⟩) H

/-! 42 (*sporran/volume.Set).Put -/
def f42_k0 (R : Value → World → Prop) (number2 : Int) (finger7 : Option Addr) (t8 : Option Addr) (f11 : Option Addr) (ok12 : Bool) (v14 : Option Addr) (t43 : Bool) (w : World) : Prop :=
 IfB t43 (
  LdN 32 f11 w fun v_14 =>
  StN 32 t8 v_14 w fun w_10 =>
  LdN 32 t8 w_10 fun r_15 =>
  R (.tuple #[(.agg r_15), (.bool ok12), (.int .i64 8)]) w_10) (
  NotNil v14 fun p_16 =>
  Ld Value.map (some (p_16.add 2)) w fun v_17 =>
  LdN 32 finger7 w fun v_18 =>
  EfU Try.prog (Instr.mapUpdate 181 (.map v_17) (.int .i64 number2) (.agg v_18)) w fun w_11 =>
  LdN 32 f11 w_11 fun v_19 =>
  StN 32 t8 v_19 w_11 fun w_12 =>
  LdN 32 t8 w_12 fun r_20 =>
  R (.tuple #[(.agg r_20), (.bool ok12), (.int .i64 0)]) w_12)
def f42 (R : Value → World → Prop) (s0 : Option Addr) (name1 : ByteArray) (number2 : Int) (finger3 : Array Value) (w : World) : Prop :=
 New finger3 24 w fun a_1 w_1 =>
 New Try.z24 24 w_1 fun a_2 w_2 =>
 CallF Try.prog 100 #[(.pointer s0), (.string name1), (.int .i64 number2)] w_2 fun u_3 w_3 => AsT3 Value.agg Value.bool (Value.int .i64) u_3 fun v_4 v_5 v_6 =>
 New Try.z24 24 w_3 fun a_7 w_4 =>
 StN 32 (some a_7) v_4 w_4 fun w_5 =>
 IfB (!decide (v_6 = 0)) (
  LdN 32 (some a_7) w_5 fun v_8 =>
  StN 32 (some a_2) v_8 w_5 fun w_6 =>
  LdN 32 (some a_2) w_6 fun r_9 =>
  R (.tuple #[(.agg r_9), (.bool v_5), (.int .i64 v_6)]) w_6) (
  NotNil s0 fun p_10 =>
  Ld Value.map (some (p_10.add 0)) w_5 fun v_11 =>
  Ef Try.prog (Instr.lookup 177 (.map v_11) (.string name1) false) Value.agg w_5 fun v_12 w_7 =>
  New #[(.int .i64 0), (.bool false), (.map none)] 183 w_7 fun a_13 w_8 =>
  StN 3 (some a_13) v_12 w_8 fun w_9 =>
  IfB (!v_5) (
   Ld Value.map (some (a_13.add 2)) w_9 fun v_21 =>
   Ef Try.prog (Builtin.len_ #[181] 3 #[(.map v_21)]) (Value.int .i64) w_9 fun v_22 w_13 =>
   Ld (Value.int .i64) (some (a_13.add 0)) w_13 fun v_23 =>
   f42_k0 R number2 (some a_1) (some a_2) (some a_7) v_5 (some a_13) (decide (v_23 ≤ v_22)) w_13) (
   f42_k0 R number2 (some a_1) (some a_2) (some a_7) v_5 (some a_13) false w_9))
theorem f42_ok (R : Value → World → Prop) (s0 : Option Addr) (name1 : ByteArray) (number2 : Int) (finger3 : Array Value) (w : World) (H : f42 R s0 name1 number2 finger3 w) : CallF Try.prog 42 #[(.pointer s0), (.string name1), (.int .i64 number2), (.agg finger3)] w R := by
 refine calls_of_runs (fn := Try.f42) Try.func42 rfl (Nat.le_of_ble_eq_true rfl) ?_
 show Runs _ _ 52 _ _ _ _
 unfold f42 at H
 refine ru4 0 (.pointer s0) 1 (.string name1) 2 (I number2) 3 (.agg finger3) rfl rfl rfl rfl ?_
 refine sr ?_
 refine xo_eff rfl (wo rfl) (e_box (v := (.agg finger3)) rfl rfl H) ?_
 rintro _ w_1 ⟨a_1, rfl, H⟩
 refine xo_eff rfl (wo rfl) (e_alloc rfl Try.ti24 H) ?_
 rintro _ w_2 ⟨a_2, rfl, H⟩
 refine xs (.bool false) rfl rfl ?_
 refine xs (I 0) rfl rfl ?_
 refine xe ?_
 refine sr ?_
 refine xm (.pointer s0) rfl rfl ?_
 refine xm (.string name1) rfl rfl ?_
 refine xm (I number2) rfl rfl ?_
 refine xo_eff rfl (wo rfl) (e_call (fn := Try.f100) H rfl rfl Try.func100 rfl rfl rfl) ?_
 rintro _ w_3 ⟨v_4, v_5, v_6, rfl, H⟩
 refine xm (.tuple #[(.agg v_4), (.bool v_5), (I v_6)]) rfl rfl ?_
 refine xp (.agg v_4) rfl (p_extract (vs := #[(.agg v_4), (.bool v_5), (I v_6)]) rfl rfl rfl) ?_
 refine xp (.bool v_5) rfl (p_extract (vs := #[(.agg v_4), (.bool v_5), (I v_6)]) rfl rfl rfl) ?_
 refine xp (I v_6) rfl (p_extract (vs := #[(.agg v_4), (.bool v_5), (I v_6)]) rfl rfl rfl) ?_
 refine xo_eff rfl (wo rfl) (e_alloc rfl Try.ti24 H) ?_
 rintro _ w_4 ⟨a_7, rfl, H⟩
 refine xo_effN rfl (wo rfl) (e_storeN rfl Try.ti24 rfl rfl H) ?_
 intro _ w_5 H
 refine xs (.bool v_5) rfl rfl ?_
 refine xs (I v_6) rfl rfl ?_
 refine xe ?_
 refine r_seq ?_
 refine sr ?_
 refine xm (I v_6) rfl rfl ?_
 refine xp _ rfl (p_ne rfl rfl rfl) ?_
 refine xe ?_
 refine r_condB (b := (!decide (v_6 = 0))) rfl H ?_ ?_
 ·clear H; intro hb1 H
  refine sr ?_
  obtain ⟨adv_8, v_8, hev_8, hnv_8, hcv_8, H⟩ := H
  refine xo_read (v := (.agg v_8)) rfl (wo rfl) (rd_loadN (ad := adv_8) rfl u24 rfl Try.ti24 (by show Value.pointer _ = _; rw [hev_8]) hnv_8 hcv_8) ?_
  refine xm (.bool v_5) rfl rfl ?_
  refine xm (I v_6) rfl rfl ?_
  refine xo_effN rfl (wo rfl) (e_storeN rfl Try.ti24 rfl rfl H) ?_
  intro _ w_6 H
  refine xs (.bool v_5) rfl rfl ?_
  refine xs (I v_6) rfl rfl ?_
  refine xe ?_
  obtain ⟨adr_9, r_9, her_9, hnr_9, hrr_9, H⟩ := H
  exact r_ret (fn := Try.f42) Try.func42 (res_3 rfl (resV_cellN (by decide) (by show Value.pointer _ = _; rw [her_9]) u24 rfl Try.ti24 hnr_9 hrr_9) ⟨by decide, rfl⟩ ⟨by decide, rfl⟩) H
 ·clear H; intro hb1 H
  refine r_skip ?_
  refine sr ?_
  refine xm (.pointer s0) rfl rfl ?_
  obtain ⟨p_10, hpp_10, H⟩ := H
  refine xp (.pointer (some p_10)) rfl (p_nilCheck rfl rfl hpp_10) ?_
  refine xp _ rfl (p_fieldAddr (off := 0) (ft := 177) (size := 1) rfl u179 rfl Try.ti177 (by decide) rfl rfl) ?_
  obtain ⟨adv_11, v_11, hev_11, hcv_11, H⟩ := H
  refine xr (.map v_11) rfl (wo rfl) rfl u177 rfl rfl hev_11 hcv_11 ?_
  refine xm (.string name1) rfl rfl ?_
  refine xo_eff rfl (wo rfl) (e_gen (s := Instr.lookup 177 (.map v_11) (.string name1) false) (enc := Value.agg) rfl H) ?_
  rintro _ w_7 ⟨v_12, rfl, H⟩
  refine xo_eff rfl (wo rfl) (e_alloc rfl Try.ti183 H) ?_
  rintro _ w_8 ⟨a_13, rfl, H⟩
  refine xo_effN rfl (wo rfl) (e_storeN rfl Try.ti183 rfl rfl H) ?_
  intro _ w_9 H
  refine xe ?_
  refine r_seq ?_
  refine r_seq ?_
  refine r_topJ (fun (s : Int × Option Addr × Option Addr × Option Addr × Bool × Option Addr × Bool) σ => upd 43 (.bool s.2.2.2.2.2.2) (upd 14 (.pointer s.2.2.2.2.2.1) (upd 12 (.bool s.2.2.2.2.1) (upd 11 (.pointer s.2.2.2.1) (upd 8 (.pointer s.2.2.1) (upd 7 (.pointer s.2.1) (upd 2 (I s.1) (σ)))))))) (fun (s : Int × Option Addr × Option Addr × Option Addr × Bool × Option Addr × Bool) w => f42_k0 R s.1 s.2.1 s.2.2.1 s.2.2.2.1 s.2.2.2.2.1 s.2.2.2.2.2.1 s.2.2.2.2.2.2 w) ?_ ?_
  ·rintro ⟨number2, finger7, t8, f11, ok12, v14, t43⟩ σ w H
   replace H : f42_k0 R number2 finger7 t8 f11 ok12 v14 t43 w := H
   try dsimp only
   unfold f42_k0 at H
   refine r_condB (b := t43) rfl H ?_ ?_
   ·clear H; intro hb3 H
    refine sr ?_
    obtain ⟨adv_14, v_14, hev_14, hnv_14, hcv_14, H⟩ := H
    refine xo_read (v := (.agg v_14)) rfl (wo rfl) (rd_loadN (ad := adv_14) rfl u24 rfl Try.ti24 (by show Value.pointer _ = _; rw [hev_14]) hnv_14 hcv_14) ?_
    refine xm (.bool ok12) rfl rfl ?_
    refine xo_effN rfl (wo rfl) (e_storeN rfl Try.ti24 rfl rfl H) ?_
    intro _ w_10 H
    refine xs (.bool ok12) rfl rfl ?_
    refine xs (I 8) rfl rfl ?_
    refine xe ?_
    obtain ⟨adr_15, r_15, her_15, hnr_15, hrr_15, H⟩ := H
    exact r_ret (fn := Try.f42) Try.func42 (res_3 rfl (resV_cellN (by decide) (by show Value.pointer _ = _; rw [her_15]) u24 rfl Try.ti24 hnr_15 hrr_15) ⟨by decide, rfl⟩ ⟨by decide, rfl⟩) H
   ·clear H; intro hb3 H
    refine r_skip ?_
    refine sr ?_
    obtain ⟨p_16, hpp_16, H⟩ := H
    refine xp _ rfl (p_fieldAddr (off := 2) (ft := 181) (size := 1) rfl u183 rfl Try.ti181 (by decide) rfl hpp_16) ?_
    obtain ⟨adv_17, v_17, hev_17, hcv_17, H⟩ := H
    refine xr (.map v_17) rfl (wo rfl) rfl u181 rfl rfl hev_17 hcv_17 ?_
    refine xm (I number2) rfl rfl ?_
    obtain ⟨adv_18, v_18, hev_18, hnv_18, hcv_18, H⟩ := H
    refine xo_read (v := (.agg v_18)) rfl (wo rfl) (rd_loadN (ad := adv_18) rfl u24 rfl Try.ti24 (by show Value.pointer _ = _; rw [hev_18]) hnv_18 hcv_18) ?_
    refine xo_effN rfl (wo rfl) (e_genU rfl H) ?_
    intro _ w_11 H
    refine xe ?_
    refine sr ?_
    obtain ⟨adv_19, v_19, hev_19, hnv_19, hcv_19, H⟩ := H
    refine xo_read (v := (.agg v_19)) rfl (wo rfl) (rd_loadN (ad := adv_19) rfl u24 rfl Try.ti24 (by show Value.pointer _ = _; rw [hev_19]) hnv_19 hcv_19) ?_
    refine xm (.bool ok12) rfl rfl ?_
    refine xo_effN rfl (wo rfl) (e_storeN rfl Try.ti24 rfl rfl H) ?_
    intro _ w_12 H
    refine xs (.bool ok12) rfl rfl ?_
    refine xs (I 0) rfl rfl ?_
    refine xe ?_
    obtain ⟨adr_20, r_20, her_20, hnr_20, hrr_20, H⟩ := H
    exact r_ret (fn := Try.f42) Try.func42 (res_3 rfl (resV_cellN (by decide) (by show Value.pointer _ = _; rw [her_20]) u24 rfl Try.ti24 hnr_20 hrr_20) ⟨by decide, rfl⟩ ⟨by decide, rfl⟩) H
  ·intro J2
   refine r_region ?_
   refine xm (.bool v_5) rfl rfl ?_
   refine xp (.bool (!v_5)) rfl (p_not rfl rfl) ?_
   refine xm (.bool (!v_5)) rfl rfl ?_
   refine ifB_cases H ?_ ?_
   ·clear H; intro hb4 H
    refine yp (.pointer (some (a_13.add 2))) rfl (wy 36 rfl rfl rfl hb4) (p_fieldAddr (off := 2) (ft := 181) (size := 1) rfl u183 rfl Try.ti181 (by decide) rfl rfl) ?_
    obtain ⟨adv_21, v_21, hev_21, hcv_21, H⟩ := H
    refine xr (.map v_21) rfl (wy 36 rfl rfl rfl hb4) rfl u181 rfl rfl hev_21 hcv_21 ?_
    refine xo_eff rfl (wy 36 rfl rfl rfl hb4) (e_bi (b := .len) (enc := Value.int .i64) H rfl rfl rfl) ?_
    rintro _ w_13 ⟨v_22, rfl, H⟩
    refine yp (.pointer (some (a_13.add 0))) rfl (wy 36 rfl rfl rfl hb4) (p_fieldAddr (off := 0) (ft := 3) (size := 1) rfl u183 rfl Try.ti3 (by decide) rfl rfl) ?_
    obtain ⟨adv_23, v_23, hev_23, hcv_23, H⟩ := H
    refine xr (I v_23) rfl (wy 36 rfl rfl rfl hb4) rfl u3 rfl rfl hev_23 hcv_23 ?_
    refine yp (.bool (decide (v_23 ≤ v_22))) rfl (wy 36 rfl rfl rfl hb4) (p_ge rfl rfl rfl) ?_
    refine xp (.bool (decide (v_23 ≤ v_22))) rfl (p_pickT rfl rfl hb4 rfl) ?_
    refine xe ?_
    refine ru4 2 (I number2) 7 (.pointer (some a_1)) 8 (.pointer (some a_2)) 11 (.pointer (some a_7)) rfl rfl rfl rfl ?_
    refine ru3 12 (.bool v_5) 14 (.pointer (some a_13)) 43 (.bool (decide (v_23 ≤ v_22))) rfl rfl rfl ?_
    exact J2 (number2, (some a_1), (some a_2), (some a_7), v_5, (some a_13), (decide (v_23 ≤ v_22))) _ _ H
   ·clear H; intro hb4 H
    refine xo_skip rfl (wn 36 rfl rfl rfl hb4) ?_
    refine xo_skip rfl (wn 36 rfl rfl rfl hb4) ?_
    refine xo_skip rfl (wn 36 rfl rfl rfl hb4) ?_
    refine xo_skip rfl (wn 36 rfl rfl rfl hb4) ?_
    refine xo_skip rfl (wn 36 rfl rfl rfl hb4) ?_
    refine xo_skip rfl (wn 36 rfl rfl rfl hb4) ?_
    refine xp (.bool false) rfl (p_pickF rfl rfl hb4 rfl) ?_
    refine xe ?_
    refine ru4 2 (I number2) 7 (.pointer (some a_1)) 8 (.pointer (some a_2)) 11 (.pointer (some a_7)) rfl rfl rfl rfl ?_
    refine ru3 12 (.bool v_5) 14 (.pointer (some a_13)) 43 (.bool false) rfl rfl rfl ?_
    exact J2 (number2, (some a_1), (some a_2), (some a_7), v_5, (some a_13), false) _ _ H

/-! 43 (*sporran/volume.Set).Drop -/
def f43_k0 (R : Value → World → Prop) (t6 : Option Addr) (f9 : Option Addr) (ok10 : Bool) (e11 : Int) (w : World) : Prop :=
 LdN 32 f9 w fun v_7 =>
 StN 32 t6 v_7 w fun w_5 =>
 LdN 32 t6 w_5 fun r_8 =>
 R (.tuple #[(.agg r_8), (.bool ok10), (.int .i64 e11)]) w_5
def f43 (R : Value → World → Prop) (s0 : Option Addr) (name1 : ByteArray) (number2 : Int) (w : World) : Prop :=
 New Try.z24 24 w fun a_1 w_1 =>
 CallF Try.prog 100 #[(.pointer s0), (.string name1), (.int .i64 number2)] w_1 fun u_2 w_2 => AsT3 Value.agg Value.bool (Value.int .i64) u_2 fun v_3 v_4 v_5 =>
 New Try.z24 24 w_2 fun a_6 w_3 =>
 StN 32 (some a_6) v_3 w_3 fun w_4 =>
 IfB (decide (v_5 = 0)) (
  NotNil s0 fun p_9 =>
  Ld Value.map (some (p_9.add 0)) w_4 fun v_10 =>
  Ef Try.prog (Instr.lookup 177 (.map v_10) (.string name1) false) Value.agg w_4 fun v_11 w_6 =>
  At Value.map v_11 2 fun f_12 =>
  Ef Try.prog (Builtin.delete_ #[181, 3] 0 #[(.map f_12), (.int .i64 number2)]) id w_6 fun v_13 w_7 =>
  f43_k0 R (some a_1) (some a_6) v_4 v_5 w_7) (
  f43_k0 R (some a_1) (some a_6) v_4 v_5 w_4)
theorem f43_ok (R : Value → World → Prop) (s0 : Option Addr) (name1 : ByteArray) (number2 : Int) (w : World) (H : f43 R s0 name1 number2 w) : CallF Try.prog 43 #[(.pointer s0), (.string name1), (.int .i64 number2)] w R := by
 refine calls_of_runs (fn := Try.f43) Try.func43 rfl (Nat.le_of_ble_eq_true rfl) ?_
 show Runs _ _ 33 _ _ _ _
 unfold f43 at H
 refine ru3 0 (.pointer s0) 1 (.string name1) 2 (I number2) rfl rfl rfl ?_
 refine sr ?_
 refine xo_eff rfl (wo rfl) (e_alloc rfl Try.ti24 H) ?_
 rintro _ w_1 ⟨a_1, rfl, H⟩
 refine xs (.bool false) rfl rfl ?_
 refine xs (I 0) rfl rfl ?_
 refine xe ?_
 refine sr ?_
 refine xm (.pointer s0) rfl rfl ?_
 refine xm (.string name1) rfl rfl ?_
 refine xm (I number2) rfl rfl ?_
 refine xo_eff rfl (wo rfl) (e_call (fn := Try.f100) H rfl rfl Try.func100 rfl rfl rfl) ?_
 rintro _ w_2 ⟨v_3, v_4, v_5, rfl, H⟩
 refine xm (.tuple #[(.agg v_3), (.bool v_4), (I v_5)]) rfl rfl ?_
 refine xp (.agg v_3) rfl (p_extract (vs := #[(.agg v_3), (.bool v_4), (I v_5)]) rfl rfl rfl) ?_
 refine xp (.bool v_4) rfl (p_extract (vs := #[(.agg v_3), (.bool v_4), (I v_5)]) rfl rfl rfl) ?_
 refine xp (I v_5) rfl (p_extract (vs := #[(.agg v_3), (.bool v_4), (I v_5)]) rfl rfl rfl) ?_
 refine xo_eff rfl (wo rfl) (e_alloc rfl Try.ti24 H) ?_
 rintro _ w_3 ⟨a_6, rfl, H⟩
 refine xo_effN rfl (wo rfl) (e_storeN rfl Try.ti24 rfl rfl H) ?_
 intro _ w_4 H
 refine xs (.bool v_4) rfl rfl ?_
 refine xs (I v_5) rfl rfl ?_
 refine xe ?_
 refine r_seqJ (fun (s : Option Addr × Option Addr × Bool × Int) σ => upd 11 (I s.2.2.2) (upd 10 (.bool s.2.2.1) (upd 9 (.pointer s.2.1) (upd 6 (.pointer s.1) (σ))))) (fun (s : Option Addr × Option Addr × Bool × Int) w => f43_k0 R s.1 s.2.1 s.2.2.1 s.2.2.2 w) ?_ ?_
 ·rintro ⟨t6, f9, ok10, e11⟩ σ w H
  replace H : f43_k0 R t6 f9 ok10 e11 w := H
  try dsimp only
  unfold f43_k0 at H
  refine sr ?_
  obtain ⟨adv_7, v_7, hev_7, hnv_7, hcv_7, H⟩ := H
  refine xo_read (v := (.agg v_7)) rfl (wo rfl) (rd_loadN (ad := adv_7) rfl u24 rfl Try.ti24 (by show Value.pointer _ = _; rw [hev_7]) hnv_7 hcv_7) ?_
  refine xm (.bool ok10) rfl rfl ?_
  refine xm (I e11) rfl rfl ?_
  refine xo_effN rfl (wo rfl) (e_storeN rfl Try.ti24 rfl rfl H) ?_
  intro _ w_5 H
  refine xs (.bool ok10) rfl rfl ?_
  refine xs (I e11) rfl rfl ?_
  refine xe ?_
  obtain ⟨adr_8, r_8, her_8, hnr_8, hrr_8, H⟩ := H
  exact r_ret (fn := Try.f43) Try.func43 (res_3 rfl (resV_cellN (by decide) (by show Value.pointer _ = _; rw [her_8]) u24 rfl Try.ti24 hnr_8 hrr_8) ⟨by decide, rfl⟩ ⟨by decide, rfl⟩) H
 ·intro J1
  refine sr ?_
  refine xm (I v_5) rfl rfl ?_
  refine xp _ rfl (p_eq rfl rfl rfl) ?_
  refine xe ?_
  refine r_condB (b := (decide (v_5 = 0))) rfl H ?_ ?_
  ·clear H; intro hb2 H
   refine r_region ?_
   refine xm (.pointer s0) rfl rfl ?_
   obtain ⟨p_9, hpp_9, H⟩ := H
   refine xp (.pointer (some p_9)) rfl (p_nilCheck rfl rfl hpp_9) ?_
   refine xp _ rfl (p_fieldAddr (off := 0) (ft := 177) (size := 1) rfl u179 rfl Try.ti177 (by decide) rfl rfl) ?_
   obtain ⟨adv_10, v_10, hev_10, hcv_10, H⟩ := H
   refine xr (.map v_10) rfl (wo rfl) rfl u177 rfl rfl hev_10 hcv_10 ?_
   refine xm (.string name1) rfl rfl ?_
   refine xo_eff rfl (wo rfl) (e_gen (s := Instr.lookup 177 (.map v_10) (.string name1) false) (enc := Value.agg) rfl H) ?_
   rintro _ w_6 ⟨v_11, rfl, H⟩
   obtain ⟨f_12, hff_12, H⟩ := H
   refine xp (.map f_12) rfl (p_field1 (off := 2) (ft := 181) rfl u183 rfl u181 rfl rfl hff_12) ?_
   refine xm (I number2) rfl rfl ?_
   refine xo_effN rfl (wo rfl) (e_biV (b := .delete) H rfl rfl rfl) ?_
   intro v_13 w_7 H
   refine xe ?_
   refine ru4 6 (.pointer (some a_1)) 9 (.pointer (some a_6)) 10 (.bool v_4) 11 (I v_5) rfl rfl rfl rfl ?_
   exact J1 ((some a_1), (some a_6), v_4, v_5) _ _ H
  ·clear H; intro hb2 H
   refine r_skip ?_
   refine ru4 6 (.pointer (some a_1)) 9 (.pointer (some a_6)) 10 (.bool v_4) 11 (I v_5) rfl rfl rfl rfl ?_
   exact J1 ((some a_1), (some a_6), v_4, v_5) _ _ H

/-! 44 (*sporran/volume.Set).Create -/
def f44 (R : Value → World → Prop) (s0 : Option Addr) (name1 : ByteArray) (quota2 : Int) (w : World) : Prop :=
 CallF Try.prog 101 #[(.string name1), (.int .i64 quota2)] w fun u_1 w_1 => As Value.bool u_1 fun v_2 =>
 IfB (!v_2) (
  R (.int .i64 1) w_1) (
  CallF Try.prog 102 #[(.pointer s0), (.string name1)] w_1 fun u_3 w_2 => As Value.bool u_3 fun v_4 =>
  IfB v_4 (
   R (.int .i64 6) w_2) (
   NotNil s0 fun p_5 =>
   Ld Value.map (some (p_5.add 0)) w_2 fun v_6 =>
   Ef Try.prog (Instr.makeMap 181 none) Value.map w_2 fun v_7 w_3 =>
   Built #[(0, 1), (1, 1), (2, 1)] #[(.int .i64 0), (.bool false), (.map none)] [(0, (.int .i64 quota2)), (2, (.map v_7))] fun c_8 =>
   EfU Try.prog (Instr.mapUpdate 177 (.map v_6) (.string name1) (.agg c_8)) w_3 fun w_4 =>
   R (.int .i64 0) w_4))
theorem f44_ok (R : Value → World → Prop) (s0 : Option Addr) (name1 : ByteArray) (quota2 : Int) (w : World) (H : f44 R s0 name1 quota2 w) : CallF Try.prog 44 #[(.pointer s0), (.string name1), (.int .i64 quota2)] w R := by
 refine calls_of_runs (fn := Try.f44) Try.func44 rfl (Nat.le_of_ble_eq_true rfl) ?_
 show Runs _ _ 24 _ _ _ _
 unfold f44 at H
 refine ru3 0 (.pointer s0) 1 (.string name1) 2 (I quota2) rfl rfl rfl ?_
 refine sr ?_
 refine xs (I 0) rfl rfl ?_
 refine xe ?_
 refine sb ?_
 refine sr ?_
 refine xm (.string name1) rfl rfl ?_
 refine xm (I quota2) rfl rfl ?_
 refine xo_eff rfl (wo rfl) (e_call (fn := Try.f101) H rfl rfl Try.func101 rfl rfl rfl) ?_
 rintro _ w_1 ⟨v_2, rfl, H⟩
 refine xp (.bool (!v_2)) rfl (p_not rfl rfl) ?_
 refine xs (.bool (!v_2)) rfl rfl ?_
 refine xe ?_
 refine r_condB (b := (!v_2)) rfl H ?_ ?_
 ·clear H; intro hb1 H
  refine sr ?_
  refine xs (I 1) rfl rfl ?_
  refine xe ?_
  exact r_ret (fn := Try.f44) Try.func44 (res_1 rfl ⟨by decide, rfl⟩) H
 ·clear H; intro hb1 H
  refine sr ?_
  refine xm (.pointer s0) rfl rfl ?_
  refine xm (.string name1) rfl rfl ?_
  refine xo_eff rfl (wo rfl) (e_call (fn := Try.f102) H rfl rfl Try.func102 rfl rfl rfl) ?_
  rintro _ w_2 ⟨v_4, rfl, H⟩
  refine xs (.bool v_4) rfl rfl ?_
  refine xe ?_
  refine r_condB (b := v_4) rfl H ?_ ?_
  ·clear H; intro hb2 H
   refine sr ?_
   refine xs (I 6) rfl rfl ?_
   refine xe ?_
   exact r_ret (fn := Try.f44) Try.func44 (res_1 rfl ⟨by decide, rfl⟩) H
  ·clear H; intro hb2 H
   refine r_skip ?_
   refine r_inBlock ?_
   refine sr ?_
   refine xm (.pointer s0) rfl rfl ?_
   obtain ⟨p_5, hpp_5, H⟩ := H
   refine xp (.pointer (some p_5)) rfl (p_nilCheck rfl rfl hpp_5) ?_
   refine xp _ rfl (p_fieldAddr (off := 0) (ft := 177) (size := 1) rfl u179 rfl Try.ti177 (by decide) rfl rfl) ?_
   obtain ⟨adv_6, v_6, hev_6, hcv_6, H⟩ := H
   refine xr (.map v_6) rfl (wo rfl) rfl u177 rfl rfl hev_6 hcv_6 ?_
   refine xm (.string name1) rfl rfl ?_
   refine xm (I quota2) rfl rfl ?_
   refine xo_eff rfl (wo rfl) (e_gen (s := Instr.makeMap 181 none) (enc := Value.map) rfl H) ?_
   rintro _ w_3 ⟨v_7, rfl, H⟩
   obtain ⟨c_8, hflc_8, H⟩ := H
   refine xp (.agg c_8) rfl (p_buildS (places := #[(0, 1), (1, 1), (2, 1)]) rfl Try.pl183 Try.ti183 hflc_8 rfl) ?_
   refine xo_effN rfl (wo rfl) (e_genU rfl H) ?_
   intro _ w_4 H
   refine xe ?_
   refine sr ?_
   refine xs (I 0) rfl rfl ?_
   refine xe ?_
   exact r_ret (fn := Try.f44) Try.func44 (res_1 rfl ⟨by decide, rfl⟩) H

/-! 45 (*sporran/volume.Set).Copy -/
def f45 (R : Value → World → Prop) (s0 : Option Addr) (name1 : ByteArray) (other2 : ByteArray) (quota3 : Int) (frozen4 : Bool) (w : World) : Prop :=
 NotNil s0 fun p_1 =>
 Ld Value.map (some (p_1.add 0)) w fun v_2 =>
 Ef Try.prog (Instr.lookup 177 (.map v_2) (.string name1) false) Value.agg w fun v_3 w_1 =>
 New #[(.int .i64 0), (.bool false), (.map none)] 183 w_1 fun a_4 w_2 =>
 StN 3 (some a_4) v_3 w_2 fun w_3 =>
 CallF Try.prog 101 #[(.string other2), (.int .i64 quota3)] w_3 fun u_5 w_4 => As Value.bool u_5 fun v_6 =>
 IfB (!v_6) (
  R (.int .i64 1) w_4) (
  CallF Try.prog 102 #[(.pointer s0), (.string name1)] w_4 fun u_7 w_5 => As Value.bool u_7 fun v_8 =>
  IfB (!v_8) (
   R (.int .i64 5) w_5) (
   CallF Try.prog 102 #[(.pointer s0), (.string other2)] w_5 fun u_9 w_6 => As Value.bool u_9 fun v_10 =>
   IfB v_10 (
    R (.int .i64 6) w_6) (
    Ld Value.map (some (a_4.add 2)) w_6 fun v_11 =>
    Ef Try.prog (Builtin.len_ #[181] 3 #[(.map v_11)]) (Value.int .i64) w_6 fun v_12 w_7 =>
    IfB (decide (quota3 < v_12)) (
     R (.int .i64 8) w_7) (
     NotNil s0 fun p_13 =>
     LdH Value.map (some (p_13.add 0)) (World.drew w_7) fun adv_14 v_14 =>
     Ld Value.map (some (a_4.add 2)) (World.drew w_7) fun v_15 =>
     CallF Try.prog 103 #[(.map v_15)] (World.drew w_7) fun u_16 w_9 => As Value.map u_16 fun v_17 =>
     ((w_9).cell? adv_14 = some (.map v_14)) ∧
     Built #[(0, 1), (1, 1), (2, 1)] #[(.int .i64 0), (.bool false), (.map none)] [(0, (.int .i64 quota3)), (1, (.bool frozen4)), (2, (.map v_17))] fun c_18 =>
     EfU Try.prog (Instr.mapUpdate 177 (.map v_14) (.string other2) (.agg c_18)) w_9 fun w_10 =>
     R (.int .i64 0) w_10))))
theorem f45_ok (R : Value → World → Prop) (s0 : Option Addr) (name1 : ByteArray) (other2 : ByteArray) (quota3 : Int) (frozen4 : Bool) (w : World) (H : f45 R s0 name1 other2 quota3 frozen4 w) : CallF Try.prog 45 #[(.pointer s0), (.string name1), (.string other2), (.int .i64 quota3), (.bool frozen4)] w R := by
 refine calls_of_runs (fn := Try.f45) Try.func45 rfl (Nat.le_of_ble_eq_true rfl) ?_
 show Runs _ _ 49 _ _ _ _
 unfold f45 at H
 refine ru4 0 (.pointer s0) 1 (.string name1) 2 (.string other2) 3 (I quota3) rfl rfl rfl rfl ?_
 refine ru 4 (.bool frozen4) rfl ?_
 refine sr ?_
 refine xs (I 0) rfl rfl ?_
 refine xe ?_
 refine sr ?_
 refine xm (.pointer s0) rfl rfl ?_
 obtain ⟨p_1, hpp_1, H⟩ := H
 refine xp (.pointer (some p_1)) rfl (p_nilCheck rfl rfl hpp_1) ?_
 refine xp _ rfl (p_fieldAddr (off := 0) (ft := 177) (size := 1) rfl u179 rfl Try.ti177 (by decide) rfl rfl) ?_
 obtain ⟨adv_2, v_2, hev_2, hcv_2, H⟩ := H
 refine xr (.map v_2) rfl (wo rfl) rfl u177 rfl rfl hev_2 hcv_2 ?_
 refine xm (.string name1) rfl rfl ?_
 refine xo_eff rfl (wo rfl) (e_gen (s := Instr.lookup 177 (.map v_2) (.string name1) false) (enc := Value.agg) rfl H) ?_
 rintro _ w_1 ⟨v_3, rfl, H⟩
 refine xo_eff rfl (wo rfl) (e_alloc rfl Try.ti183 H) ?_
 rintro _ w_2 ⟨a_4, rfl, H⟩
 refine xo_effN rfl (wo rfl) (e_storeN rfl Try.ti183 rfl rfl H) ?_
 intro _ w_3 H
 refine xe ?_
 refine sb ?_
 refine sr ?_
 refine xm (.string other2) rfl rfl ?_
 refine xm (I quota3) rfl rfl ?_
 refine xo_eff rfl (wo rfl) (e_call (fn := Try.f101) H rfl rfl Try.func101 rfl rfl rfl) ?_
 rintro _ w_4 ⟨v_6, rfl, H⟩
 refine xp (.bool (!v_6)) rfl (p_not rfl rfl) ?_
 refine xs (.bool (!v_6)) rfl rfl ?_
 refine xe ?_
 refine r_condB (b := (!v_6)) rfl H ?_ ?_
 ·clear H; intro hb1 H
  refine sr ?_
  refine xs (I 1) rfl rfl ?_
  refine xe ?_
  exact r_ret (fn := Try.f45) Try.func45 (res_1 rfl ⟨by decide, rfl⟩) H
 ·clear H; intro hb1 H
  refine sr ?_
  refine xm (.pointer s0) rfl rfl ?_
  refine xm (.string name1) rfl rfl ?_
  refine xo_eff rfl (wo rfl) (e_call (fn := Try.f102) H rfl rfl Try.func102 rfl rfl rfl) ?_
  rintro _ w_5 ⟨v_8, rfl, H⟩
  refine xp (.bool (!v_8)) rfl (p_not rfl rfl) ?_
  refine xs (.bool (!v_8)) rfl rfl ?_
  refine xe ?_
  refine r_condB (b := (!v_8)) rfl H ?_ ?_
  ·clear H; intro hb2 H
   refine sr ?_
   refine xs (I 5) rfl rfl ?_
   refine xe ?_
   exact r_ret (fn := Try.f45) Try.func45 (res_1 rfl ⟨by decide, rfl⟩) H
  ·clear H; intro hb2 H
   refine sr ?_
   refine xm (.pointer s0) rfl rfl ?_
   refine xm (.string other2) rfl rfl ?_
   refine xo_eff rfl (wo rfl) (e_call (fn := Try.f102) H rfl rfl Try.func102 rfl rfl rfl) ?_
   rintro _ w_6 ⟨v_10, rfl, H⟩
   refine xs (.bool v_10) rfl rfl ?_
   refine xe ?_
   refine r_condB (b := v_10) rfl H ?_ ?_
   ·clear H; intro hb3 H
    refine sr ?_
    refine xs (I 6) rfl rfl ?_
    refine xe ?_
    exact r_ret (fn := Try.f45) Try.func45 (res_1 rfl ⟨by decide, rfl⟩) H
   ·clear H; intro hb3 H
    refine sr ?_
    refine xp _ rfl (p_fieldAddr (off := 2) (ft := 181) (size := 1) rfl u183 rfl Try.ti181 (by decide) rfl rfl) ?_
    obtain ⟨adv_11, v_11, hev_11, hcv_11, H⟩ := H
    refine xr (.map v_11) rfl (wo rfl) rfl u181 rfl rfl hev_11 hcv_11 ?_
    refine xo_eff rfl (wo rfl) (e_bi (b := .len) (enc := Value.int .i64) H rfl rfl rfl) ?_
    rintro _ w_7 ⟨v_12, rfl, H⟩
    refine xm (I quota3) rfl rfl ?_
    refine xp _ rfl (p_gt rfl rfl rfl) ?_
    refine xs (.bool (decide (quota3 < v_12))) rfl rfl ?_
    refine xe ?_
    refine r_condB (b := (decide (quota3 < v_12))) rfl H ?_ ?_
    ·clear H; intro hb4 H
     refine sr ?_
     refine xs (I 8) rfl rfl ?_
     refine xe ?_
     exact r_ret (fn := Try.f45) Try.func45 (res_1 rfl ⟨by decide, rfl⟩) H
    ·clear H; intro hb4 H
     refine r_skip ?_
     refine r_inBlock ?_
     refine r_seq ?_
     refine r_draw #[[], [0], [0, 1], [0, 1, 2], [], [], [], [], [7], [7, 8], [5, 6, 7, 8, 9], [0, 1, 2, 3, 4, 5, 6, 7, 8, 9, 10]] 12 rfl rfl ?_
     refine am 0 (.pointer s0) rfl rfl rfl ?_
     obtain ⟨p_13, hpp_13, H⟩ := H
     refine ap 1 (.pointer (some p_13)) rfl rfl (p_nilCheck rfl rfl hpp_13) ?_
     refine ap 2 _ rfl rfl (p_fieldAddr (off := 0) (ft := 177) (size := 1) rfl u179 rfl Try.ti177 (by decide) rfl rfl) ?_
     obtain ⟨adv_14, v_14, hev_14, hcv_14, H⟩ := H
     refine ar 3 (.map v_14) rfl rfl (wo rfl) rfl u177 rfl rfl hev_14 hcv_14 ?_
     refine am 4 (.string other2) rfl rfl rfl ?_
     refine am 5 (I quota3) rfl rfl rfl ?_
     refine am 6 (.bool frozen4) rfl rfl rfl ?_
     refine ap 7 _ rfl rfl (p_fieldAddr (off := 2) (ft := 181) (size := 1) rfl u183 rfl Try.ti181 (by decide) rfl rfl) ?_
     obtain ⟨adv_15, v_15, hev_15, hcv_15, H⟩ := H
     refine ar 8 (.map v_15) rfl rfl (wo rfl) rfl u181 rfl rfl hev_15 hcv_15 ?_
     refine ae 9 [(3, (fun w => w.cell? adv_14 = some (.map v_14)))] rfl rfl rfl (wo rfl) (e_call (fn := Try.f103) H rfl rfl Try.func103 rfl rfl rfl) ?_
     rintro _ w_9 ⟨v_17, rfl, H⟩
     obtain ⟨hk9_3, H⟩ := H
     refine ⟨(.cons hk9_3 AllHeld.nil), ?_⟩
     obtain ⟨c_18, hflc_18, H⟩ := H
     refine ap 10 (.agg c_18) rfl rfl (p_buildS (places := #[(0, 1), (1, 1), (2, 1)]) rfl Try.pl183 Try.ti183 hflc_18 rfl) ?_
     refine an 11 rfl rfl rfl (wo rfl) (e_genU rfl H) fun _ w_10 H => ?_
     refine ax ?_
     refine sr ?_
     refine xs (I 0) rfl rfl ?_
     refine xe ?_
     exact r_ret (fn := Try.f45) Try.func45 (res_1 rfl ⟨by decide, rfl⟩) H

/-! 46 (*sporran/volume.Set).Delete -/
def f46 (R : Value → World → Prop) (s0 : Option Addr) (name1 : ByteArray) (w : World) : Prop :=
 CallF Try.prog 102 #[(.pointer s0), (.string name1)] w fun u_1 w_1 => As Value.bool u_1 fun v_2 =>
 IfB (!v_2) (
  R (.int .i64 5) w_1) (
  NotNil s0 fun p_3 =>
  Ld Value.map (some (p_3.add 0)) w_1 fun v_4 =>
  Ef Try.prog (Builtin.delete_ #[177, 9] 0 #[(.map v_4), (.string name1)]) id w_1 fun v_5 w_2 =>
  R (.int .i64 0) w_2)
theorem f46_ok (R : Value → World → Prop) (s0 : Option Addr) (name1 : ByteArray) (w : World) (H : f46 R s0 name1 w) : CallF Try.prog 46 #[(.pointer s0), (.string name1)] w R := by
 refine calls_of_runs (fn := Try.f46) Try.func46 rfl (Nat.le_of_ble_eq_true rfl) ?_
 show Runs _ _ 14 _ _ _ _
 unfold f46 at H
 refine ru2 0 (.pointer s0) 1 (.string name1) rfl rfl ?_
 refine sr ?_
 refine xs (I 0) rfl rfl ?_
 refine xe ?_
 refine r_seq ?_
 refine sr ?_
 refine xm (.pointer s0) rfl rfl ?_
 refine xm (.string name1) rfl rfl ?_
 refine xo_eff rfl (wo rfl) (e_call (fn := Try.f102) H rfl rfl Try.func102 rfl rfl rfl) ?_
 rintro _ w_1 ⟨v_2, rfl, H⟩
 refine xp (.bool (!v_2)) rfl (p_not rfl rfl) ?_
 refine xe ?_
 refine r_condB (b := (!v_2)) rfl H ?_ ?_
 ·clear H; intro hb1 H
  refine sr ?_
  refine xs (I 5) rfl rfl ?_
  refine xe ?_
  exact r_ret (fn := Try.f46) Try.func46 (res_1 rfl ⟨by decide, rfl⟩) H
 ·clear H; intro hb1 H
  refine r_skip ?_
  refine sr ?_
  refine xm (.pointer s0) rfl rfl ?_
  obtain ⟨p_3, hpp_3, H⟩ := H
  refine xp (.pointer (some p_3)) rfl (p_nilCheck rfl rfl hpp_3) ?_
  refine xp _ rfl (p_fieldAddr (off := 0) (ft := 177) (size := 1) rfl u179 rfl Try.ti177 (by decide) rfl rfl) ?_
  obtain ⟨adv_4, v_4, hev_4, hcv_4, H⟩ := H
  refine xr (.map v_4) rfl (wo rfl) rfl u177 rfl rfl hev_4 hcv_4 ?_
  refine xm (.string name1) rfl rfl ?_
  refine xo_effN rfl (wo rfl) (e_biV (b := .delete) H rfl rfl rfl) ?_
  intro v_5 w_2 H
  refine xe ?_
  refine sr ?_
  refine xs (I 0) rfl rfl ?_
  refine xe ?_
  exact r_ret (fn := Try.f46) Try.func46 (res_1 rfl ⟨by decide, rfl⟩) H

/-! 47 sporran/sporranref12.Same -/
def f47_b2 (R : Value → World → Prop) (ag2 : (Sl × Sl × Int) → World → Prop) (ag6 : (Sl × Sl × Int × Int) → World → Prop) (a0 : Sl) (b1 : Sl) (i5 : Int) (k6 : Int) (w : World) : Prop :=
 Ix a0 i5 fun p_1 =>
 Ld Sl.v (some ((p_1.add (i5.toNat * 4)).add 3)) w fun v_2 =>
 IfB (decide (k6 < (v_2.len : Int))) (
  Ix a0 i5 fun p_3 =>
  Ld Sl.v (some ((p_3.add (i5.toNat * 4)).add 3)) (World.drew w) fun v_4 =>
  Ix v_4 k6 fun p_5 =>
  LdN 33 (some (p_5.add (k6.toNat * 33))) (World.drew w) fun v_6 =>
  Ix b1 i5 fun p_7 =>
  Ld Sl.v (some ((p_7.add (i5.toNat * 4)).add 3)) (World.drew w) fun v_8 =>
  Ix v_8 k6 fun p_9 =>
  LdN 33 (some (p_9.add (k6.toNat * 33))) (World.drew w) fun v_10 =>
  AggEq Try.prog 98 v_6 v_10 fun b_11 =>
  IfB (!b_11) (
   R (.bool false) (World.drew w)) (
   ag6 (a0, b1, i5, (IntKind.i64.wrap (k6 + 1))) (World.drew w))) (
  ag2 (a0, b1, (IntKind.i64.wrap (i5 + 1))) w)
def f47_k1 (R : Value → World → Prop) (ag2 : (Sl × Sl × Int) → World → Prop) (a0 : Sl) (b1 : Sl) (i5 : Int) (t69 : Bool) (w : World) : Prop :=
 IfB t69 (
  R (.bool false) w) (
  Lp (fun ag (s : Sl × Sl × Int × Int) w => f47_b2 R ag2 ag s.1 s.2.1 s.2.2.1 s.2.2.2 w) (a0, b1, i5, 0) w)
def f47_b0 (R : Value → World → Prop) (ag2 : (Sl × Sl × Int) → World → Prop) (a0 : Sl) (b1 : Sl) (i5 : Int) (w : World) : Prop :=
 IfB (decide (i5 < (a0.len : Int))) (
  Ix a0 i5 fun p_12 =>
  Ld Value.string (some ((p_12.add (i5.toNat * 4)).add 0)) (World.drew w) fun v_13 =>
  Ix b1 i5 fun p_14 =>
  Ld Value.string (some ((p_14.add (i5.toNat * 4)).add 0)) (World.drew w) fun v_15 =>
  IfB (!seq v_13 v_15) (
   f47_k1 R ag2 a0 b1 i5 true (World.drew w)) (
   Ix a0 i5 fun p_16 =>
   Ld (Value.int .i64) (some ((p_16.add (i5.toNat * 4)).add 1)) (World.drew w) fun v_17 =>
   Ix b1 i5 fun p_18 =>
   Ld (Value.int .i64) (some ((p_18.add (i5.toNat * 4)).add 1)) (World.drew w) fun v_19 =>
   IfB (!decide (v_17 = v_19)) (
    f47_k1 R ag2 a0 b1 i5 true (World.drew w)) (
    Ix a0 i5 fun p_20 =>
    Ld Value.bool (some ((p_20.add (i5.toNat * 4)).add 2)) (World.drew w) fun v_21 =>
    Ix b1 i5 fun p_22 =>
    Ld Value.bool (some ((p_22.add (i5.toNat * 4)).add 2)) (World.drew w) fun v_23 =>
    IfB (!(v_21 == v_23)) (
     f47_k1 R ag2 a0 b1 i5 true (World.drew w)) (
     Ix a0 i5 fun p_24 =>
     Ld Sl.v (some ((p_24.add (i5.toNat * 4)).add 3)) (World.drew w) fun v_25 =>
     Ix b1 i5 fun p_26 =>
     Ld Sl.v (some ((p_26.add (i5.toNat * 4)).add 3)) (World.drew w) fun v_27 =>
     f47_k1 R ag2 a0 b1 i5 (!decide ((v_25.len : Int) = (v_27.len : Int))) (World.drew w))))) (
  R (.bool true) w)
def f47 (R : Value → World → Prop) (a0 : Sl) (b1 : Sl) (w : World) : Prop :=
 IfB (!decide ((a0.len : Int) = (b1.len : Int))) (
  R (.bool false) w) (
  Lp (fun ag (s : Sl × Sl × Int) w => f47_b0 R ag s.1 s.2.1 s.2.2 w) (a0, b1, 0) w)
theorem f47_ok (R : Value → World → Prop) (a0 : Sl) (b1 : Sl) (w : World) (H : f47 R a0 b1 w) : CallF Try.prog 47 #[(Sl.v a0), (Sl.v b1)] w R := by
 refine calls_of_runs (fn := Try.f47) Try.func47 rfl (Nat.le_of_ble_eq_true rfl) ?_
 show Runs _ _ 97 _ _ _ _
 unfold f47 at H
 refine ru2 0 (Sl.v a0) 1 (Sl.v b1) rfl rfl ?_
 refine sr ?_
 refine xs (.bool false) rfl rfl ?_
 refine xe ?_
 refine r_seq ?_
 refine sr ?_
 refine xm (Sl.v a0) rfl rfl ?_
 refine xp (I (a0.len : Int)) rfl (p_len rfl u82 rfl) ?_
 refine xm (Sl.v b1) rfl rfl ?_
 refine xp (I (b1.len : Int)) rfl (p_len rfl u82 rfl) ?_
 refine xp _ rfl (p_ne rfl rfl rfl) ?_
 refine xe ?_
 refine r_condB (b := (!decide ((a0.len : Int) = (b1.len : Int)))) rfl H ?_ ?_
 ·clear H; intro hb1 H
  refine sr ?_
  refine xs (.bool false) rfl rfl ?_
  refine xe ?_
  exact r_ret (fn := Try.f47) Try.func47 (res_1 rfl ⟨by decide, rfl⟩) H
 ·clear H; intro hb1 H
  refine r_skip ?_
  refine r_seq ?_
  refine sr ?_
  refine xs (I 0) rfl rfl ?_
  refine xe ?_
  refine r_block ?_
  refine ru3 0 (Sl.v a0) 1 (Sl.v b1) 5 (I 0) rfl rfl rfl ?_
  refine r_loopJ (fun (s : Sl × Sl × Int) σ => upd 5 (I s.2.2) (upd 1 (Sl.v s.2.1) (upd 0 (Sl.v s.1) (σ)))) (s := (a0, b1, 0)) H ?_
  clear H
  rintro ag2 ⟨a0, b1, i5⟩ σ w H hag2
  replace H : f47_b0 R ag2 a0 b1 i5 w := H
  try dsimp only
  unfold f47_b0 at H
  refine r_seq ?_
  refine sr ?_
  refine xm (I i5) rfl rfl ?_
  refine xm (Sl.v a0) rfl rfl ?_
  refine xp (I (a0.len : Int)) rfl (p_len rfl u82 rfl) ?_
  refine xp _ rfl (p_lt rfl rfl rfl) ?_
  refine xe ?_
  refine r_condB (b := (decide (i5 < (a0.len : Int)))) rfl H ?_ ?_
  ·clear H; intro hb3 H
   refine r_skip ?_
   refine sb ?_
   refine r_seq ?_
   refine r_seq ?_
   refine r_topJ (fun (s : Sl × Sl × Int × Bool) σ => upd 69 (.bool s.2.2.2) (upd 5 (I s.2.2.1) (upd 1 (Sl.v s.2.1) (upd 0 (Sl.v s.1) (σ))))) (fun (s : Sl × Sl × Int × Bool) w => f47_k1 R ag2 s.1 s.2.1 s.2.2.1 s.2.2.2 w) ?_ ?_
   ·rintro ⟨a0, b1, i5, t69⟩ σ w H
    replace H : f47_k1 R ag2 a0 b1 i5 t69 w := H
    try dsimp only
    unfold f47_k1 at H
    refine r_condB (b := t69) rfl H ?_ ?_
    ·clear H; intro hb5 H
     refine sr ?_
     refine xs (.bool false) rfl rfl ?_
     refine xe ?_
     exact r_ret (fn := Try.f47) Try.func47 (res_1 rfl ⟨by decide, rfl⟩) H
    ·clear H; intro hb5 H
     refine r_skip ?_
     refine sr ?_
     refine xs (I 0) rfl rfl ?_
     refine xe ?_
     refine r_block ?_
     refine ru4 0 (Sl.v a0) 1 (Sl.v b1) 5 (I i5) 6 (I 0) rfl rfl rfl rfl ?_
     refine r_loopJ (fun (s : Sl × Sl × Int × Int) σ => upd 6 (I s.2.2.2) (upd 5 (I s.2.2.1) (upd 1 (Sl.v s.2.1) (upd 0 (Sl.v s.1) (σ))))) (s := (a0, b1, i5, 0)) H ?_
     clear H
     rintro ag6 ⟨a0, b1, i5, k6⟩ σ w H hag6
     replace H : f47_b2 R ag2 ag6 a0 b1 i5 k6 w := H
     try dsimp only
     unfold f47_b2 at H
     refine r_seq ?_
     refine sr ?_
     refine xm (I k6) rfl rfl ?_
     refine xm (Sl.v a0) rfl rfl ?_
     refine xm (I i5) rfl rfl ?_
     obtain ⟨p_1, hap_1, hlp_1, hup_1, H⟩ := H
     refine xp _ rfl (p_indexAddr (s := a0) (ad := p_1) (size := 4) rfl u82 Try.ti93 rfl rfl hap_1 hlp_1 hup_1) ?_
     refine xp _ rfl (p_fieldAddr (off := 3) (ft := 91) (size := 1) rfl u93 rfl Try.ti91 (by decide) rfl rfl) ?_
     obtain ⟨adv_2, v_2, hev_2, hcv_2, H⟩ := H
     refine xr (Sl.v v_2) rfl (wo rfl) rfl u91 rfl rfl hev_2 hcv_2 ?_
     refine xp (I (v_2.len : Int)) rfl (p_len rfl u91 rfl) ?_
     refine xp _ rfl (p_lt rfl rfl rfl) ?_
     refine xe ?_
     refine r_condB (b := (decide (k6 < (v_2.len : Int)))) rfl H ?_ ?_
     ·clear H; intro hb7 H
      refine r_skip ?_
      refine sb ?_
      refine r_seq ?_
      refine r_draw #[[], [], [0, 1], [0, 1, 2], [0, 1, 2, 3], [], [0, 1, 2, 3, 4, 5], [0, 1, 2, 3, 4, 5, 6], [], [], [8, 9], [8, 9, 10], [8, 9, 10, 11], [], [8, 9, 10, 11, 12, 13], [8, 9, 10, 11, 12, 13, 14], [0, 1, 2, 3, 4, 5, 6, 7, 8, 9, 10, 11, 12, 13, 14, 15]] 17 rfl rfl ?_
      refine am 0 (Sl.v a0) rfl rfl rfl ?_
      refine am 1 (I i5) rfl rfl rfl ?_
      obtain ⟨p_3, hap_3, hlp_3, hup_3, H⟩ := H
      refine ap 2 _ rfl rfl (p_indexAddr (s := a0) (ad := p_3) (size := 4) rfl u82 Try.ti93 rfl rfl hap_3 hlp_3 hup_3) ?_
      refine ap 3 _ rfl rfl (p_fieldAddr (off := 3) (ft := 91) (size := 1) rfl u93 rfl Try.ti91 (by decide) rfl rfl) ?_
      obtain ⟨adv_4, v_4, hev_4, hcv_4, H⟩ := H
      refine ar 4 (Sl.v v_4) rfl rfl (wo rfl) rfl u91 rfl rfl hev_4 hcv_4 ?_
      refine am 5 (I k6) rfl rfl rfl ?_
      obtain ⟨p_5, hap_5, hlp_5, hup_5, H⟩ := H
      refine ap 6 _ rfl rfl (p_indexAddr (s := v_4) (ad := p_5) (size := 33) rfl u91 Try.ti98 rfl rfl hap_5 hlp_5 hup_5) ?_
      obtain ⟨adv_6, v_6, hev_6, hnv_6, hcv_6, H⟩ := H
      refine xa_read (v := (.agg v_6)) (S := (fun w => Row w adv_6 v_6)) 7 (by decide +kernel) rfl rfl (wo rfl) (fun w hc => rd_loadN (ad := adv_6) rfl u98 rfl Try.ti98 (by show Value.pointer _ = _; rw [hev_6]) hnv_6 hc) hcv_6 ?_
      refine am 8 (Sl.v b1) rfl rfl rfl ?_
      refine am 9 (I i5) rfl rfl rfl ?_
      obtain ⟨p_7, hap_7, hlp_7, hup_7, H⟩ := H
      refine ap 10 _ rfl rfl (p_indexAddr (s := b1) (ad := p_7) (size := 4) rfl u82 Try.ti93 rfl rfl hap_7 hlp_7 hup_7) ?_
      refine ap 11 _ rfl rfl (p_fieldAddr (off := 3) (ft := 91) (size := 1) rfl u93 rfl Try.ti91 (by decide) rfl rfl) ?_
      obtain ⟨adv_8, v_8, hev_8, hcv_8, H⟩ := H
      refine ar 12 (Sl.v v_8) rfl rfl (wo rfl) rfl u91 rfl rfl hev_8 hcv_8 ?_
      refine am 13 (I k6) rfl rfl rfl ?_
      obtain ⟨p_9, hap_9, hlp_9, hup_9, H⟩ := H
      refine ap 14 _ rfl rfl (p_indexAddr (s := v_8) (ad := p_9) (size := 33) rfl u91 Try.ti98 rfl rfl hap_9 hlp_9 hup_9) ?_
      obtain ⟨adv_10, v_10, hev_10, hnv_10, hcv_10, H⟩ := H
      refine xa_read (v := (.agg v_10)) (S := (fun w => Row w adv_10 v_10)) 15 (by decide +kernel) rfl rfl (wo rfl) (fun w hc => rd_loadN (ad := adv_10) rfl u98 rfl Try.ti98 (by show Value.pointer _ = _; rw [hev_10]) hnv_10 hc) hcv_10 ?_
      obtain ⟨b_11, hqb_11, H⟩ := H
      refine ap 16 (.bool (!b_11)) rfl rfl (p_aggNe rfl hqb_11 rfl rfl) ?_
      refine ax ?_
      refine r_condB (b := (!b_11)) rfl H ?_ ?_
      ·clear H; intro hb8 H
       refine sr ?_
       refine xs (.bool false) rfl rfl ?_
       refine xe ?_
       exact r_ret (fn := Try.f47) Try.func47 (res_1 rfl ⟨by decide, rfl⟩) H
      ·clear H; intro hb8 H
       refine r_skip ?_
       refine r_inBlock ?_
       refine r_region ?_
       refine xm (I k6) rfl rfl ?_
       refine xp _ rfl (p_add rfl rfl rfl) ?_
       refine xs (I (W (k6 + 1))) rfl rfl ?_
       refine xe ?_
       refine ru4 0 (Sl.v a0) 1 (Sl.v b1) 5 (I i5) 6 (I (W (k6 + 1))) rfl rfl rfl rfl ?_
       exact hag6 (a0, b1, i5, (W (k6 + 1))) _ _ H
     ·clear H; intro hb7 H
      refine r_exit rfl ?_
      refine r_inBlock ?_
      refine r_region ?_
      refine xm (I i5) rfl rfl ?_
      refine xp _ rfl (p_add rfl rfl rfl) ?_
      refine xs (I (W (i5 + 1))) rfl rfl ?_
      refine xe ?_
      refine ru3 0 (Sl.v a0) 1 (Sl.v b1) 5 (I (W (i5 + 1))) rfl rfl rfl ?_
      exact hag2 (a0, b1, (W (i5 + 1))) _ _ H
   ·intro J4
    refine r_draw #[[], [], [0, 1], [0, 1, 2], [0, 1, 2, 3], [], [], [5, 6], [5, 6, 7], [5, 6, 7, 8], [0, 1, 2, 3, 4, 5, 6, 7, 8, 9], [0, 1, 2, 3, 4, 5, 6, 7, 8, 9, 10], [0, 1, 2, 3, 4, 5, 6, 7, 8, 9, 10, 11], [0, 1, 2, 3, 4, 5, 6, 7, 8, 9, 10, 11], [0, 1, 2, 3, 4, 5, 6, 7, 8, 9, 10, 11, 12, 13], [0, 1, 2, 3, 4, 5, 6, 7, 8, 9, 10, 11, 12, 13, 14], [0, 1, 2, 3, 4, 5, 6, 7, 8, 9, 10, 11, 12, 13, 14, 15], [0, 1, 2, 3, 4, 5, 6, 7, 8, 9, 10, 11], [0, 1, 2, 3, 4, 5, 6, 7, 8, 9, 10, 11], [0, 1, 2, 3, 4, 5, 6, 7, 8, 9, 10, 11, 17, 18], [0, 1, 2, 3, 4, 5, 6, 7, 8, 9, 10, 11, 17, 18, 19], [0, 1, 2, 3, 4, 5, 6, 7, 8, 9, 10, 11, 17, 18, 19, 20], [0, 1, 2, 3, 4, 5, 6, 7, 8, 9, 10, 11, 12, 13, 14, 15, 16, 17, 18, 19, 20, 21], [0, 1, 2, 3, 4, 5, 6, 7, 8, 9, 10, 11, 12, 13, 14, 15, 16, 17, 18, 19, 20, 21, 22], [0, 1, 2, 3, 4, 5, 6, 7, 8, 9, 10, 11, 12, 13, 14, 15, 16, 17, 18, 19, 20, 21, 22, 23], [0, 1, 2, 3, 4, 5, 6, 7, 8, 9, 10, 11, 12, 13, 14, 15, 16, 17, 18, 19, 20, 21, 22, 23, 24], [0, 1, 2, 3, 4, 5, 6, 7, 8, 9, 10, 11, 12, 13, 14, 15, 16, 17, 18, 19, 20, 21, 22, 23, 24], [0, 1, 2, 3, 4, 5, 6, 7, 8, 9, 10, 11, 12, 13, 14, 15, 16, 17, 18, 19, 20, 21, 22, 23, 24, 25, 26], [0, 1, 2, 3, 4, 5, 6, 7, 8, 9, 10, 11, 12, 13, 14, 15, 16, 17, 18, 19, 20, 21, 22, 23, 24, 25, 26, 27], [0, 1, 2, 3, 4, 5, 6, 7, 8, 9, 10, 11, 12, 13, 14, 15, 16, 17, 18, 19, 20, 21, 22, 23, 24, 25, 26, 27, 28], [0, 1, 2, 3, 4, 5, 6, 7, 8, 9, 10, 11, 12, 13, 14, 15, 16, 17, 18, 19, 20, 21, 22, 23, 24], [0, 1, 2, 3, 4, 5, 6, 7, 8, 9, 10, 11, 12, 13, 14, 15, 16, 17, 18, 19, 20, 21, 22, 23, 24], [0, 1, 2, 3, 4, 5, 6, 7, 8, 9, 10, 11, 12, 13, 14, 15, 16, 17, 18, 19, 20, 21, 22, 23, 24, 30, 31], [0, 1, 2, 3, 4, 5, 6, 7, 8, 9, 10, 11, 12, 13, 14, 15, 16, 17, 18, 19, 20, 21, 22, 23, 24, 30, 31, 32], [0, 1, 2, 3, 4, 5, 6, 7, 8, 9, 10, 11, 12, 13, 14, 15, 16, 17, 18, 19, 20, 21, 22, 23, 24, 30, 31, 32, 33], [0, 1, 2, 3, 4, 5, 6, 7, 8, 9, 10, 11, 12, 13, 14, 15, 16, 17, 18, 19, 20, 21, 22, 23, 24, 25, 26, 27, 28, 29, 30, 31, 32, 33, 34], [0, 1, 2, 3, 4, 5, 6, 7, 8, 9, 10, 11, 12, 13, 14, 15, 16, 17, 18, 19, 20, 21, 22, 23, 24, 25, 26, 27, 28, 29, 30, 31, 32, 33, 34, 35], [0, 1, 2, 3, 4, 5, 6, 7, 8, 9, 10, 11, 12, 13, 14, 15, 16, 17, 18, 19, 20, 21, 22, 23, 24, 25, 26, 27, 28, 29, 30, 31, 32, 33, 34, 35, 36], [0, 1, 2, 3, 4, 5, 6, 7, 8, 9, 10, 11, 12, 13, 14, 15, 16, 17, 18, 19, 20, 21, 22, 23, 24, 25, 26, 27, 28, 29, 30, 31, 32, 33, 34, 35, 36, 37], [0, 1, 2, 3, 4, 5, 6, 7, 8, 9, 10, 11, 12, 13, 14, 15, 16, 17, 18, 19, 20, 21, 22, 23, 24, 25, 26, 27, 28, 29, 30, 31, 32, 33, 34, 35, 36, 37], [0, 1, 2, 3, 4, 5, 6, 7, 8, 9, 10, 11, 12, 13, 14, 15, 16, 17, 18, 19, 20, 21, 22, 23, 24, 25, 26, 27, 28, 29, 30, 31, 32, 33, 34, 35, 36, 37, 38, 39], [0, 1, 2, 3, 4, 5, 6, 7, 8, 9, 10, 11, 12, 13, 14, 15, 16, 17, 18, 19, 20, 21, 22, 23, 24, 25, 26, 27, 28, 29, 30, 31, 32, 33, 34, 35, 36, 37, 38, 39, 40], [0, 1, 2, 3, 4, 5, 6, 7, 8, 9, 10, 11, 12, 13, 14, 15, 16, 17, 18, 19, 20, 21, 22, 23, 24, 25, 26, 27, 28, 29, 30, 31, 32, 33, 34, 35, 36, 37, 38, 39, 40, 41], [0, 1, 2, 3, 4, 5, 6, 7, 8, 9, 10, 11, 12, 13, 14, 15, 16, 17, 18, 19, 20, 21, 22, 23, 24, 25, 26, 27, 28, 29, 30, 31, 32, 33, 34, 35, 36, 37, 38, 39, 40, 41, 42], [0, 1, 2, 3, 4, 5, 6, 7, 8, 9, 10, 11, 12, 13, 14, 15, 16, 17, 18, 19, 20, 21, 22, 23, 24, 25, 26, 27, 28, 29, 30, 31, 32, 33, 34, 35, 36, 37], [0, 1, 2, 3, 4, 5, 6, 7, 8, 9, 10, 11, 12, 13, 14, 15, 16, 17, 18, 19, 20, 21, 22, 23, 24, 25, 26, 27, 28, 29, 30, 31, 32, 33, 34, 35, 36, 37], [0, 1, 2, 3, 4, 5, 6, 7, 8, 9, 10, 11, 12, 13, 14, 15, 16, 17, 18, 19, 20, 21, 22, 23, 24, 25, 26, 27, 28, 29, 30, 31, 32, 33, 34, 35, 36, 37, 44, 45], [0, 1, 2, 3, 4, 5, 6, 7, 8, 9, 10, 11, 12, 13, 14, 15, 16, 17, 18, 19, 20, 21, 22, 23, 24, 25, 26, 27, 28, 29, 30, 31, 32, 33, 34, 35, 36, 37, 44, 45, 46], [0, 1, 2, 3, 4, 5, 6, 7, 8, 9, 10, 11, 12, 13, 14, 15, 16, 17, 18, 19, 20, 21, 22, 23, 24, 25, 26, 27, 28, 29, 30, 31, 32, 33, 34, 35, 36, 37, 44, 45, 46, 47], [0, 1, 2, 3, 4, 5, 6, 7, 8, 9, 10, 11, 12, 13, 14, 15, 16, 17, 18, 19, 20, 21, 22, 23, 24, 25, 26, 27, 28, 29, 30, 31, 32, 33, 34, 35, 36, 37, 44, 45, 46, 47, 48], [0, 1, 2, 3, 4, 5, 6, 7, 8, 9, 10, 11, 12, 13, 14, 15, 16, 17, 18, 19, 20, 21, 22, 23, 24, 25, 26, 27, 28, 29, 30, 31, 32, 33, 34, 35, 36, 37, 38, 39, 40, 41, 42, 43, 44, 45, 46, 47, 48, 49], [0, 1, 2, 3, 4, 5, 6, 7, 8, 9, 10, 11, 12, 13, 14, 15, 16, 17, 18, 19, 20, 21, 22, 23, 24, 25, 26, 27, 28, 29, 30, 31, 32, 33, 34, 35, 36, 37, 38, 39, 40, 41, 42, 43, 44, 45, 46, 47, 48, 49, 50]] 52 rfl rfl ?_
    refine am 0 (Sl.v a0) rfl rfl rfl ?_
    refine am 1 (I i5) rfl rfl rfl ?_
    obtain ⟨p_12, hap_12, hlp_12, hup_12, H⟩ := H
    refine ap 2 _ rfl rfl (p_indexAddr (s := a0) (ad := p_12) (size := 4) rfl u82 Try.ti93 rfl rfl hap_12 hlp_12 hup_12) ?_
    refine ap 3 _ rfl rfl (p_fieldAddr (off := 0) (ft := 9) (size := 1) rfl u93 rfl Try.ti9 (by decide) rfl rfl) ?_
    obtain ⟨adv_13, v_13, hev_13, hcv_13, H⟩ := H
    refine ar 4 (.string v_13) rfl rfl (wo rfl) rfl u9 rfl rfl hev_13 hcv_13 ?_
    refine am 5 (Sl.v b1) rfl rfl rfl ?_
    refine am 6 (I i5) rfl rfl rfl ?_
    obtain ⟨p_14, hap_14, hlp_14, hup_14, H⟩ := H
    refine ap 7 _ rfl rfl (p_indexAddr (s := b1) (ad := p_14) (size := 4) rfl u82 Try.ti93 rfl rfl hap_14 hlp_14 hup_14) ?_
    refine ap 8 _ rfl rfl (p_fieldAddr (off := 0) (ft := 9) (size := 1) rfl u93 rfl Try.ti9 (by decide) rfl rfl) ?_
    obtain ⟨adv_15, v_15, hev_15, hcv_15, H⟩ := H
    refine ar 9 (.string v_15) rfl rfl (wo rfl) rfl u9 rfl rfl hev_15 hcv_15 ?_
    refine ap 10 (.bool (!seq v_13 v_15)) rfl rfl (p_sne rfl rfl rfl) ?_
    refine am 11 (.bool (!seq v_13 v_15)) rfl rfl rfl ?_
    refine ifB_cases H ?_ ?_
    ·clear H; intro hb9 H
     refine ak 12 rfl rfl (wn 29 rfl rfl rfl hb9) ?_
     refine ak 13 rfl rfl (wn 29 rfl rfl rfl hb9) ?_
     refine ak 14 rfl rfl (wn 29 rfl rfl rfl hb9) ?_
     refine ak 15 rfl rfl (wn 29 rfl rfl rfl hb9) ?_
     refine ak 16 rfl rfl (wn 29 rfl rfl rfl hb9) ?_
     refine ak 17 rfl rfl (wn 29 rfl rfl rfl hb9) ?_
     refine ak 18 rfl rfl (wn 29 rfl rfl rfl hb9) ?_
     refine ak 19 rfl rfl (wn 29 rfl rfl rfl hb9) ?_
     refine ak 20 rfl rfl (wn 29 rfl rfl rfl hb9) ?_
     refine ak 21 rfl rfl (wn 29 rfl rfl rfl hb9) ?_
     refine ak 22 rfl rfl (wn 29 rfl rfl rfl hb9) ?_
     refine ap 23 (.bool true) rfl rfl (p_pickT rfl rfl hb9 rfl) ?_
     refine am 24 (.bool true) rfl rfl rfl ?_
     refine ak 25 rfl rfl (wn 42 rfl rfl rfl rfl) ?_
     refine ak 26 rfl rfl (wn 42 rfl rfl rfl rfl) ?_
     refine ak 27 rfl rfl (wn 42 rfl rfl rfl rfl) ?_
     refine ak 28 rfl rfl (wn 42 rfl rfl rfl rfl) ?_
     refine ak 29 rfl rfl (wn 42 rfl rfl rfl rfl) ?_
     refine ak 30 rfl rfl (wn 42 rfl rfl rfl rfl) ?_
     refine ak 31 rfl rfl (wn 42 rfl rfl rfl rfl) ?_
     refine ak 32 rfl rfl (wn 42 rfl rfl rfl rfl) ?_
     refine ak 33 rfl rfl (wn 42 rfl rfl rfl rfl) ?_
     refine ak 34 rfl rfl (wn 42 rfl rfl rfl rfl) ?_
     refine ak 35 rfl rfl (wn 42 rfl rfl rfl rfl) ?_
     refine ap 36 (.bool true) rfl rfl (p_pickT rfl rfl rfl rfl) ?_
     refine am 37 (.bool true) rfl rfl rfl ?_
     refine ak 38 rfl rfl (wn 55 rfl rfl rfl rfl) ?_
     refine ak 39 rfl rfl (wn 55 rfl rfl rfl rfl) ?_
     refine ak 40 rfl rfl (wn 55 rfl rfl rfl rfl) ?_
     refine ak 41 rfl rfl (wn 55 rfl rfl rfl rfl) ?_
     refine ak 42 rfl rfl (wn 55 rfl rfl rfl rfl) ?_
     refine ak 43 rfl rfl (wn 55 rfl rfl rfl rfl) ?_
     refine ak 44 rfl rfl (wn 55 rfl rfl rfl rfl) ?_
     refine ak 45 rfl rfl (wn 55 rfl rfl rfl rfl) ?_
     refine ak 46 rfl rfl (wn 55 rfl rfl rfl rfl) ?_
     refine ak 47 rfl rfl (wn 55 rfl rfl rfl rfl) ?_
     refine ak 48 rfl rfl (wn 55 rfl rfl rfl rfl) ?_
     refine ak 49 rfl rfl (wn 55 rfl rfl rfl rfl) ?_
     refine ak 50 rfl rfl (wn 55 rfl rfl rfl rfl) ?_
     refine ap 51 (.bool true) rfl rfl (p_pickT rfl rfl rfl rfl) ?_
     refine ax ?_
     refine ru4 0 (Sl.v a0) 1 (Sl.v b1) 5 (I i5) 69 (.bool true) rfl rfl rfl rfl ?_
     exact J4 (a0, b1, i5, true) _ _ H
    ·clear H; intro hb9 H
     refine ay 12 (Sl.v a0) rfl rfl (wy 29 rfl rfl rfl hb9) (p_move rfl rfl) ?_
     refine ay 13 (I i5) rfl rfl (wy 29 rfl rfl rfl hb9) (p_move rfl rfl) ?_
     obtain ⟨p_16, hap_16, hlp_16, hup_16, H⟩ := H
     refine ay 14 (.pointer (some (p_16.add (i5.toNat * 4)))) rfl rfl (wy 29 rfl rfl rfl hb9) (p_indexAddr (s := a0) (ad := p_16) (size := 4) rfl u82 Try.ti93 rfl rfl hap_16 hlp_16 hup_16) ?_
     refine ay 15 (.pointer (some ((p_16.add (i5.toNat * 4)).add 1))) rfl rfl (wy 29 rfl rfl rfl hb9) (p_fieldAddr (off := 1) (ft := 3) (size := 1) rfl u93 rfl Try.ti3 (by decide) rfl rfl) ?_
     obtain ⟨adv_17, v_17, hev_17, hcv_17, H⟩ := H
     refine ar 16 (I v_17) rfl rfl (wy 29 rfl rfl rfl hb9) rfl u3 rfl rfl hev_17 hcv_17 ?_
     refine ay 17 (Sl.v b1) rfl rfl (wy 29 rfl rfl rfl hb9) (p_move rfl rfl) ?_
     refine ay 18 (I i5) rfl rfl (wy 29 rfl rfl rfl hb9) (p_move rfl rfl) ?_
     obtain ⟨p_18, hap_18, hlp_18, hup_18, H⟩ := H
     refine ay 19 (.pointer (some (p_18.add (i5.toNat * 4)))) rfl rfl (wy 29 rfl rfl rfl hb9) (p_indexAddr (s := b1) (ad := p_18) (size := 4) rfl u82 Try.ti93 rfl rfl hap_18 hlp_18 hup_18) ?_
     refine ay 20 (.pointer (some ((p_18.add (i5.toNat * 4)).add 1))) rfl rfl (wy 29 rfl rfl rfl hb9) (p_fieldAddr (off := 1) (ft := 3) (size := 1) rfl u93 rfl Try.ti3 (by decide) rfl rfl) ?_
     obtain ⟨adv_19, v_19, hev_19, hcv_19, H⟩ := H
     refine ar 21 (I v_19) rfl rfl (wy 29 rfl rfl rfl hb9) rfl u3 rfl rfl hev_19 hcv_19 ?_
     refine ay 22 (.bool (!decide (v_17 = v_19))) rfl rfl (wy 29 rfl rfl rfl hb9) (p_ne rfl rfl rfl) ?_
     refine ap 23 (.bool (!decide (v_17 = v_19))) rfl rfl (p_pickF rfl rfl hb9 rfl) ?_
     refine am 24 (.bool (!decide (v_17 = v_19))) rfl rfl rfl ?_
     refine ifB_cases H ?_ ?_
     ·clear H; intro hb10 H
      refine ak 25 rfl rfl (wn 42 rfl rfl rfl hb10) ?_
      refine ak 26 rfl rfl (wn 42 rfl rfl rfl hb10) ?_
      refine ak 27 rfl rfl (wn 42 rfl rfl rfl hb10) ?_
      refine ak 28 rfl rfl (wn 42 rfl rfl rfl hb10) ?_
      refine ak 29 rfl rfl (wn 42 rfl rfl rfl hb10) ?_
      refine ak 30 rfl rfl (wn 42 rfl rfl rfl hb10) ?_
      refine ak 31 rfl rfl (wn 42 rfl rfl rfl hb10) ?_
      refine ak 32 rfl rfl (wn 42 rfl rfl rfl hb10) ?_
      refine ak 33 rfl rfl (wn 42 rfl rfl rfl hb10) ?_
      refine ak 34 rfl rfl (wn 42 rfl rfl rfl hb10) ?_
      refine ak 35 rfl rfl (wn 42 rfl rfl rfl hb10) ?_
      refine ap 36 (.bool true) rfl rfl (p_pickT rfl rfl hb10 rfl) ?_
      refine am 37 (.bool true) rfl rfl rfl ?_
      refine ak 38 rfl rfl (wn 55 rfl rfl rfl rfl) ?_
      refine ak 39 rfl rfl (wn 55 rfl rfl rfl rfl) ?_
      refine ak 40 rfl rfl (wn 55 rfl rfl rfl rfl) ?_
      refine ak 41 rfl rfl (wn 55 rfl rfl rfl rfl) ?_
      refine ak 42 rfl rfl (wn 55 rfl rfl rfl rfl) ?_
      refine ak 43 rfl rfl (wn 55 rfl rfl rfl rfl) ?_
      refine ak 44 rfl rfl (wn 55 rfl rfl rfl rfl) ?_
      refine ak 45 rfl rfl (wn 55 rfl rfl rfl rfl) ?_
      refine ak 46 rfl rfl (wn 55 rfl rfl rfl rfl) ?_
      refine ak 47 rfl rfl (wn 55 rfl rfl rfl rfl) ?_
      refine ak 48 rfl rfl (wn 55 rfl rfl rfl rfl) ?_
      refine ak 49 rfl rfl (wn 55 rfl rfl rfl rfl) ?_
      refine ak 50 rfl rfl (wn 55 rfl rfl rfl rfl) ?_
      refine ap 51 (.bool true) rfl rfl (p_pickT rfl rfl rfl rfl) ?_
      refine ax ?_
      refine ru4 0 (Sl.v a0) 1 (Sl.v b1) 5 (I i5) 69 (.bool true) rfl rfl rfl rfl ?_
      exact J4 (a0, b1, i5, true) _ _ H
     ·clear H; intro hb10 H
      refine ay 25 (Sl.v a0) rfl rfl (wy 42 rfl rfl rfl hb10) (p_move rfl rfl) ?_
      refine ay 26 (I i5) rfl rfl (wy 42 rfl rfl rfl hb10) (p_move rfl rfl) ?_
      obtain ⟨p_20, hap_20, hlp_20, hup_20, H⟩ := H
      refine ay 27 (.pointer (some (p_20.add (i5.toNat * 4)))) rfl rfl (wy 42 rfl rfl rfl hb10) (p_indexAddr (s := a0) (ad := p_20) (size := 4) rfl u82 Try.ti93 rfl rfl hap_20 hlp_20 hup_20) ?_
      refine ay 28 (.pointer (some ((p_20.add (i5.toNat * 4)).add 2))) rfl rfl (wy 42 rfl rfl rfl hb10) (p_fieldAddr (off := 2) (ft := 4) (size := 1) rfl u93 rfl Try.ti4 (by decide) rfl rfl) ?_
      obtain ⟨adv_21, v_21, hev_21, hcv_21, H⟩ := H
      refine ar 29 (.bool v_21) rfl rfl (wy 42 rfl rfl rfl hb10) rfl u4 rfl rfl hev_21 hcv_21 ?_
      refine ay 30 (Sl.v b1) rfl rfl (wy 42 rfl rfl rfl hb10) (p_move rfl rfl) ?_
      refine ay 31 (I i5) rfl rfl (wy 42 rfl rfl rfl hb10) (p_move rfl rfl) ?_
      obtain ⟨p_22, hap_22, hlp_22, hup_22, H⟩ := H
      refine ay 32 (.pointer (some (p_22.add (i5.toNat * 4)))) rfl rfl (wy 42 rfl rfl rfl hb10) (p_indexAddr (s := b1) (ad := p_22) (size := 4) rfl u82 Try.ti93 rfl rfl hap_22 hlp_22 hup_22) ?_
      refine ay 33 (.pointer (some ((p_22.add (i5.toNat * 4)).add 2))) rfl rfl (wy 42 rfl rfl rfl hb10) (p_fieldAddr (off := 2) (ft := 4) (size := 1) rfl u93 rfl Try.ti4 (by decide) rfl rfl) ?_
      obtain ⟨adv_23, v_23, hev_23, hcv_23, H⟩ := H
      refine ar 34 (.bool v_23) rfl rfl (wy 42 rfl rfl rfl hb10) rfl u4 rfl rfl hev_23 hcv_23 ?_
      refine ay 35 (.bool (!(v_21 == v_23))) rfl rfl (wy 42 rfl rfl rfl hb10) (p_bne rfl u4 rfl rfl) ?_
      refine ap 36 (.bool (!(v_21 == v_23))) rfl rfl (p_pickF rfl rfl hb10 rfl) ?_
      refine am 37 (.bool (!(v_21 == v_23))) rfl rfl rfl ?_
      refine ifB_cases H ?_ ?_
      ·clear H; intro hb11 H
       refine ak 38 rfl rfl (wn 55 rfl rfl rfl hb11) ?_
       refine ak 39 rfl rfl (wn 55 rfl rfl rfl hb11) ?_
       refine ak 40 rfl rfl (wn 55 rfl rfl rfl hb11) ?_
       refine ak 41 rfl rfl (wn 55 rfl rfl rfl hb11) ?_
       refine ak 42 rfl rfl (wn 55 rfl rfl rfl hb11) ?_
       refine ak 43 rfl rfl (wn 55 rfl rfl rfl hb11) ?_
       refine ak 44 rfl rfl (wn 55 rfl rfl rfl hb11) ?_
       refine ak 45 rfl rfl (wn 55 rfl rfl rfl hb11) ?_
       refine ak 46 rfl rfl (wn 55 rfl rfl rfl hb11) ?_
       refine ak 47 rfl rfl (wn 55 rfl rfl rfl hb11) ?_
       refine ak 48 rfl rfl (wn 55 rfl rfl rfl hb11) ?_
       refine ak 49 rfl rfl (wn 55 rfl rfl rfl hb11) ?_
       refine ak 50 rfl rfl (wn 55 rfl rfl rfl hb11) ?_
       refine ap 51 (.bool true) rfl rfl (p_pickT rfl rfl hb11 rfl) ?_
       refine ax ?_
       refine ru4 0 (Sl.v a0) 1 (Sl.v b1) 5 (I i5) 69 (.bool true) rfl rfl rfl rfl ?_
       exact J4 (a0, b1, i5, true) _ _ H
      ·clear H; intro hb11 H
       refine ay 38 (Sl.v a0) rfl rfl (wy 55 rfl rfl rfl hb11) (p_move rfl rfl) ?_
       refine ay 39 (I i5) rfl rfl (wy 55 rfl rfl rfl hb11) (p_move rfl rfl) ?_
       obtain ⟨p_24, hap_24, hlp_24, hup_24, H⟩ := H
       refine ay 40 (.pointer (some (p_24.add (i5.toNat * 4)))) rfl rfl (wy 55 rfl rfl rfl hb11) (p_indexAddr (s := a0) (ad := p_24) (size := 4) rfl u82 Try.ti93 rfl rfl hap_24 hlp_24 hup_24) ?_
       refine ay 41 (.pointer (some ((p_24.add (i5.toNat * 4)).add 3))) rfl rfl (wy 55 rfl rfl rfl hb11) (p_fieldAddr (off := 3) (ft := 91) (size := 1) rfl u93 rfl Try.ti91 (by decide) rfl rfl) ?_
       obtain ⟨adv_25, v_25, hev_25, hcv_25, H⟩ := H
       refine ar 42 (Sl.v v_25) rfl rfl (wy 55 rfl rfl rfl hb11) rfl u91 rfl rfl hev_25 hcv_25 ?_
       refine ay 43 (I (v_25.len : Int)) rfl rfl (wy 55 rfl rfl rfl hb11) (p_len rfl u91 rfl) ?_
       refine ay 44 (Sl.v b1) rfl rfl (wy 55 rfl rfl rfl hb11) (p_move rfl rfl) ?_
       refine ay 45 (I i5) rfl rfl (wy 55 rfl rfl rfl hb11) (p_move rfl rfl) ?_
       obtain ⟨p_26, hap_26, hlp_26, hup_26, H⟩ := H
       refine ay 46 (.pointer (some (p_26.add (i5.toNat * 4)))) rfl rfl (wy 55 rfl rfl rfl hb11) (p_indexAddr (s := b1) (ad := p_26) (size := 4) rfl u82 Try.ti93 rfl rfl hap_26 hlp_26 hup_26) ?_
       refine ay 47 (.pointer (some ((p_26.add (i5.toNat * 4)).add 3))) rfl rfl (wy 55 rfl rfl rfl hb11) (p_fieldAddr (off := 3) (ft := 91) (size := 1) rfl u93 rfl Try.ti91 (by decide) rfl rfl) ?_
       obtain ⟨adv_27, v_27, hev_27, hcv_27, H⟩ := H
       refine ar 48 (Sl.v v_27) rfl rfl (wy 55 rfl rfl rfl hb11) rfl u91 rfl rfl hev_27 hcv_27 ?_
       refine ay 49 (I (v_27.len : Int)) rfl rfl (wy 55 rfl rfl rfl hb11) (p_len rfl u91 rfl) ?_
       refine ay 50 (.bool (!decide ((v_25.len : Int) = (v_27.len : Int)))) rfl rfl (wy 55 rfl rfl rfl hb11) (p_ne rfl rfl rfl) ?_
       refine ap 51 (.bool (!decide ((v_25.len : Int) = (v_27.len : Int)))) rfl rfl (p_pickF rfl rfl hb11 rfl) ?_
       refine ax ?_
       refine ru4 0 (Sl.v a0) 1 (Sl.v b1) 5 (I i5) 69 (.bool (!decide ((v_25.len : Int) = (v_27.len : Int)))) rfl rfl rfl rfl ?_
       exact J4 (a0, b1, i5, (!decide ((v_25.len : Int) = (v_27.len : Int)))) _ _ H
  ·clear H; intro hb3 H
   refine r_exit rfl ?_
   refine sr ?_
   refine xs (.bool true) rfl rfl ?_
   refine xe ?_
   exact r_ret (fn := Try.f47) Try.func47 (res_1 rfl ⟨by decide, rfl⟩) H

/-! 48 sporran/sporranref12.Find -/
def f48_b0 (R : Value → World → Prop) (ag1 : (Sl × ByteArray × Int) → World → Prop) (l0 : Sl) (name1 : ByteArray) (i5 : Int) (w : World) : Prop :=
 IfB (decide (i5 < (l0.len : Int))) (
  Ix l0 i5 fun p_1 =>
  Ld Value.string (some ((p_1.add (i5.toNat * 4)).add 0)) w fun v_2 =>
  IfB (seq v_2 name1) (
   R (.int .i64 i5) w) (
   ag1 (l0, name1, (IntKind.i64.wrap (i5 + 1))) w)) (
  R (.int .i64 (-1)) w)
def f48 (R : Value → World → Prop) (l0 : Sl) (name1 : ByteArray) (w : World) : Prop :=
 Lp (fun ag (s : Sl × ByteArray × Int) w => f48_b0 R ag s.1 s.2.1 s.2.2 w) (l0, name1, 0) w
theorem f48_ok (R : Value → World → Prop) (l0 : Sl) (name1 : ByteArray) (w : World) (H : f48 R l0 name1 w) : CallF Try.prog 48 #[(Sl.v l0), (.string name1)] w R := by
 refine calls_of_runs (fn := Try.f48) Try.func48 rfl (Nat.le_of_ble_eq_true rfl) ?_
 show Runs _ _ 20 _ _ _ _
 unfold f48 at H
 refine ru2 0 (Sl.v l0) 1 (.string name1) rfl rfl ?_
 refine sr ?_
 refine xs (I 0) rfl rfl ?_
 refine xe ?_
 refine r_seq ?_
 refine sr ?_
 refine xs (I 0) rfl rfl ?_
 refine xe ?_
 refine r_block ?_
 refine ru3 0 (Sl.v l0) 1 (.string name1) 5 (I 0) rfl rfl rfl ?_
 refine r_loopJ (fun (s : Sl × ByteArray × Int) σ => upd 5 (I s.2.2) (upd 1 (.string s.2.1) (upd 0 (Sl.v s.1) (σ)))) (s := (l0, name1, 0)) H ?_
 clear H
 rintro ag1 ⟨l0, name1, i5⟩ σ w H hag1
 replace H : f48_b0 R ag1 l0 name1 i5 w := H
 try dsimp only
 unfold f48_b0 at H
 refine r_seq ?_
 refine sr ?_
 refine xm (I i5) rfl rfl ?_
 refine xm (Sl.v l0) rfl rfl ?_
 refine xp (I (l0.len : Int)) rfl (p_len rfl u82 rfl) ?_
 refine xp _ rfl (p_lt rfl rfl rfl) ?_
 refine xe ?_
 refine r_condB (b := (decide (i5 < (l0.len : Int)))) rfl H ?_ ?_
 ·clear H; intro hb2 H
  refine r_skip ?_
  refine sb ?_
  refine sr ?_
  refine xm (Sl.v l0) rfl rfl ?_
  refine xm (I i5) rfl rfl ?_
  obtain ⟨p_1, hap_1, hlp_1, hup_1, H⟩ := H
  refine xp _ rfl (p_indexAddr (s := l0) (ad := p_1) (size := 4) rfl u82 Try.ti93 rfl rfl hap_1 hlp_1 hup_1) ?_
  refine xp _ rfl (p_fieldAddr (off := 0) (ft := 9) (size := 1) rfl u93 rfl Try.ti9 (by decide) rfl rfl) ?_
  obtain ⟨adv_2, v_2, hev_2, hcv_2, H⟩ := H
  refine xr (.string v_2) rfl (wo rfl) rfl u9 rfl rfl hev_2 hcv_2 ?_
  refine xm (.string name1) rfl rfl ?_
  refine xp (.bool (seq v_2 name1)) rfl (p_seq rfl rfl rfl) ?_
  refine xe ?_
  refine r_condB (b := (seq v_2 name1)) rfl H ?_ ?_
  ·clear H; intro hb3 H
   refine sr ?_
   refine xm (I i5) rfl rfl ?_
   refine xs (I i5) rfl rfl ?_
   refine xe ?_
   exact r_ret (fn := Try.f48) Try.func48 (res_1 rfl ⟨by decide, rfl⟩) H
  ·clear H; intro hb3 H
   refine r_skip ?_
   refine r_inBlock ?_
   refine r_region ?_
   refine xm (I i5) rfl rfl ?_
   refine xp _ rfl (p_add rfl rfl rfl) ?_
   refine xs (I (W (i5 + 1))) rfl rfl ?_
   refine xe ?_
   refine ru3 0 (Sl.v l0) 1 (.string name1) 5 (I (W (i5 + 1))) rfl rfl rfl ?_
   exact hag1 (l0, name1, (W (i5 + 1))) _ _ H
 ·clear H; intro hb2 H
  refine r_exit rfl ?_
  refine sr ?_
  refine xs (I (-1)) rfl rfl ?_
  refine xe ?_
  exact r_ret (fn := Try.f48) Try.func48 (res_1 rfl ⟨by decide, rfl⟩) H

/-! 95 slices.Sorted[string] -/
def f95 (R : Value → World → Prop) (seq0 : Value) (w : World) : Prop :=
 CallF Try.prog 153 #[seq0] w fun u_1 w_1 => As Sl.v u_1 fun v_2 =>
 CallF Try.prog 154 #[(Sl.v v_2)] w_1 fun _ w_2 =>
 R (Sl.v v_2) w_2
theorem f95_ok (R : Value → World → Prop) (seq0 : Value) (w : World) (H : f95 R seq0 w) : CallF Try.prog 95 #[seq0] w R := by
 refine calls_of_runs (fn := Try.f95) Try.func95 rfl (Nat.le_of_ble_eq_true rfl) ?_
 show Runs _ _ 9 _ _ _ _
 unfold f95 at H
 refine ru 0 seq0 rfl ?_
 refine sr ?_
 refine xs (Sl.v Sl.nil) rfl rfl ?_
 refine xe ?_
 refine sr ?_
 refine xm seq0 rfl rfl ?_
 refine xo_eff rfl (wo rfl) (e_call (fn := Try.f153) H rfl rfl Try.func153 rfl rfl rfl) ?_
 rintro _ w_1 ⟨v_2, rfl, H⟩
 refine xs (Sl.v v_2) rfl rfl ?_
 refine xe ?_
 refine sr ?_
 refine xm (Sl.v v_2) rfl rfl ?_
 refine xo_eff rfl (wo rfl) (e_call (fn := Try.f154) H rfl rfl Try.func154 rfl rfl rfl) ?_
 intro _ w_2 H
 refine xe ?_
 refine sr ?_
 refine xm (Sl.v v_2) rfl rfl ?_
 refine xs (Sl.v v_2) rfl rfl ?_
 refine xe ?_
 exact r_ret (fn := Try.f95) Try.func95 (res_1 rfl ⟨by decide, rfl⟩) H

/-! 97 maps.Keys[map[string]sporran/volume.volume,string,sporran/volume.volume] -/
def f97 (R : Value → World → Prop) (m0 : Option Nat) (w : World) : Prop :=
 New #[(.map m0)] 177 w fun a_1 w_1 =>
 R (.func (.func 156) #[] #[(.pointer (some a_1))]) w_1
theorem f97_ok (R : Value → World → Prop) (m0 : Option Nat) (w : World) (H : f97 R m0 w) : CallF Try.prog 97 #[(.map m0)] w R := by
 refine calls_of_runs (fn := Try.f97) Try.func97 rfl (Nat.le_of_ble_eq_true rfl) ?_
 show Runs _ _ 4 _ _ _ _
 unfold f97 at H
 refine ru 0 (.map m0) rfl ?_
 refine sr ?_
 refine xo_eff rfl (wo rfl) (e_box (v := (.map m0)) rfl rfl H) ?_
 rintro _ w_1 ⟨a_1, rfl, H⟩
 refine xs .nilFunc rfl rfl ?_
 refine xe ?_
 refine sr ?_
 refine xp (.func (.func 156) #[] #[(.pointer (some a_1))]) rfl (p_makeFunc rfl rfl rfl) ?_
 refine xs (.func (.func 156) #[] #[(.pointer (some a_1))]) rfl rfl ?_
 refine xe ?_
 exact r_ret (fn := Try.f97) Try.func97 (res_1 rfl ⟨by decide, rfl⟩) H

/-! 98 slices.Sorted[int] -/
def f98 (R : Value → World → Prop) (seq0 : Value) (w : World) : Prop :=
 CallF Try.prog 157 #[seq0] w fun u_1 w_1 => As Sl.v u_1 fun v_2 =>
 CallF Try.prog 158 #[(Sl.v v_2)] w_1 fun _ w_2 =>
 R (Sl.v v_2) w_2
theorem f98_ok (R : Value → World → Prop) (seq0 : Value) (w : World) (H : f98 R seq0 w) : CallF Try.prog 98 #[seq0] w R := by
 refine calls_of_runs (fn := Try.f98) Try.func98 rfl (Nat.le_of_ble_eq_true rfl) ?_
 show Runs _ _ 9 _ _ _ _
 unfold f98 at H
 refine ru 0 seq0 rfl ?_
 refine sr ?_
 refine xs (Sl.v Sl.nil) rfl rfl ?_
 refine xe ?_
 refine sr ?_
 refine xm seq0 rfl rfl ?_
 refine xo_eff rfl (wo rfl) (e_call (fn := Try.f157) H rfl rfl Try.func157 rfl rfl rfl) ?_
 rintro _ w_1 ⟨v_2, rfl, H⟩
 refine xs (Sl.v v_2) rfl rfl ?_
 refine xe ?_
 refine sr ?_
 refine xm (Sl.v v_2) rfl rfl ?_
 refine xo_eff rfl (wo rfl) (e_call (fn := Try.f158) H rfl rfl Try.func158 rfl rfl rfl) ?_
 intro _ w_2 H
 refine xe ?_
 refine sr ?_
 refine xm (Sl.v v_2) rfl rfl ?_
 refine xs (Sl.v v_2) rfl rfl ?_
 refine xe ?_
 exact r_ret (fn := Try.f98) Try.func98 (res_1 rfl ⟨by decide, rfl⟩) H

/-! 99 maps.Keys[map[int]sporran/api.Digest,int,sporran/api.Digest] -/
def f99 (R : Value → World → Prop) (m0 : Option Nat) (w : World) : Prop :=
 New #[(.map m0)] 181 w fun a_1 w_1 =>
 R (.func (.func 159) #[] #[(.pointer (some a_1))]) w_1
theorem f99_ok (R : Value → World → Prop) (m0 : Option Nat) (w : World) (H : f99 R m0 w) : CallF Try.prog 99 #[(.map m0)] w R := by
 refine calls_of_runs (fn := Try.f99) Try.func99 rfl (Nat.le_of_ble_eq_true rfl) ?_
 show Runs _ _ 4 _ _ _ _
 unfold f99 at H
 refine ru 0 (.map m0) rfl ?_
 refine sr ?_
 refine xo_eff rfl (wo rfl) (e_box (v := (.map m0)) rfl rfl H) ?_
 rintro _ w_1 ⟨a_1, rfl, H⟩
 refine xs .nilFunc rfl rfl ?_
 refine xe ?_
 refine sr ?_
 refine xp (.func (.func 159) #[] #[(.pointer (some a_1))]) rfl (p_makeFunc rfl rfl rfl) ?_
 refine xs (.func (.func 159) #[] #[(.pointer (some a_1))]) rfl rfl ?_
 refine xe ?_
 exact r_ret (fn := Try.f99) Try.func99 (res_1 rfl ⟨by decide, rfl⟩) H

/-! 100 (*sporran/volume.Set).change -/
def f100_k0 (R : Value → World → Prop) (t6 : Option Addr) (f9 : Option Addr) (ok10 : Bool) (e11 : Int) (t30 : Bool) (w : World) : Prop :=
 IfB t30 (
  BuiltA 1 Try.z24 [] fun c_7 =>
  StN 32 t6 c_7 w fun w_5 =>
  LdN 32 t6 w_5 fun r_8 =>
  R (.tuple #[(.agg r_8), (.bool false), (.int .i64 10)]) w_5) (
  LdN 32 f9 w fun v_9 =>
  StN 32 t6 v_9 w fun w_6 =>
  LdN 32 t6 w_6 fun r_10 =>
  R (.tuple #[(.agg r_10), (.bool ok10), (.int .i64 e11)]) w_6)
def f100 (R : Value → World → Prop) (s0 : Option Addr) (name1 : ByteArray) (number2 : Int) (w : World) : Prop :=
 New Try.z24 24 w fun a_1 w_1 =>
 CallF Try.prog 160 #[(.pointer s0), (.string name1), (.int .i64 number2)] w_1 fun u_2 w_2 => AsT3 Value.agg Value.bool (Value.int .i64) u_2 fun v_3 v_4 v_5 =>
 New Try.z24 24 w_2 fun a_6 w_3 =>
 StN 32 (some a_6) v_3 w_3 fun w_4 =>
 IfB (decide (v_5 = 0)) (
  NotNil s0 fun p_11 =>
  Ld Value.map (some (p_11.add 0)) w_4 fun v_12 =>
  Ef Try.prog (Instr.lookup 177 (.map v_12) (.string name1) false) Value.agg w_4 fun v_13 w_7 =>
  At Value.bool v_13 1 fun f_14 =>
  f100_k0 R (some a_1) (some a_6) v_4 v_5 f_14 w_7) (
  f100_k0 R (some a_1) (some a_6) v_4 v_5 false w_4)
theorem f100_ok (R : Value → World → Prop) (s0 : Option Addr) (name1 : ByteArray) (number2 : Int) (w : World) (H : f100 R s0 name1 number2 w) : CallF Try.prog 100 #[(.pointer s0), (.string name1), (.int .i64 number2)] w R := by
 refine calls_of_runs (fn := Try.f100) Try.func100 rfl (Nat.le_of_ble_eq_true rfl) ?_
 show Runs _ _ 35 _ _ _ _
 unfold f100 at H
 refine ru3 0 (.pointer s0) 1 (.string name1) 2 (I number2) rfl rfl rfl ?_
 refine sr ?_
 refine xo_eff rfl (wo rfl) (e_alloc rfl Try.ti24 H) ?_
 rintro _ w_1 ⟨a_1, rfl, H⟩
 refine xs (.bool false) rfl rfl ?_
 refine xs (I 0) rfl rfl ?_
 refine xe ?_
 refine sr ?_
 refine xm (.pointer s0) rfl rfl ?_
 refine xm (.string name1) rfl rfl ?_
 refine xm (I number2) rfl rfl ?_
 refine xo_eff rfl (wo rfl) (e_call (fn := Try.f160) H rfl rfl Try.func160 rfl rfl rfl) ?_
 rintro _ w_2 ⟨v_3, v_4, v_5, rfl, H⟩
 refine xm (.tuple #[(.agg v_3), (.bool v_4), (I v_5)]) rfl rfl ?_
 refine xp (.agg v_3) rfl (p_extract (vs := #[(.agg v_3), (.bool v_4), (I v_5)]) rfl rfl rfl) ?_
 refine xp (.bool v_4) rfl (p_extract (vs := #[(.agg v_3), (.bool v_4), (I v_5)]) rfl rfl rfl) ?_
 refine xp (I v_5) rfl (p_extract (vs := #[(.agg v_3), (.bool v_4), (I v_5)]) rfl rfl rfl) ?_
 refine xo_eff rfl (wo rfl) (e_alloc rfl Try.ti24 H) ?_
 rintro _ w_3 ⟨a_6, rfl, H⟩
 refine xo_effN rfl (wo rfl) (e_storeN rfl Try.ti24 rfl rfl H) ?_
 intro _ w_4 H
 refine xs (.bool v_4) rfl rfl ?_
 refine xs (I v_5) rfl rfl ?_
 refine xe ?_
 refine r_seq ?_
 refine r_seq ?_
 refine r_topJ (fun (s : Option Addr × Option Addr × Bool × Int × Bool) σ => upd 30 (.bool s.2.2.2.2) (upd 11 (I s.2.2.2.1) (upd 10 (.bool s.2.2.1) (upd 9 (.pointer s.2.1) (upd 6 (.pointer s.1) (σ)))))) (fun (s : Option Addr × Option Addr × Bool × Int × Bool) w => f100_k0 R s.1 s.2.1 s.2.2.1 s.2.2.2.1 s.2.2.2.2 w) ?_ ?_
 ·rintro ⟨t6, f9, ok10, e11, t30⟩ σ w H
  replace H : f100_k0 R t6 f9 ok10 e11 t30 w := H
  try dsimp only
  unfold f100_k0 at H
  refine r_condB (b := t30) rfl H ?_ ?_
  ·clear H; intro hb2 H
   refine sr ?_
   obtain ⟨c_7, hflc_7, H⟩ := H
   refine xp (.agg c_7) rfl (p_buildA (size := 1) rfl u24 Try.ti24 Try.ti5 hflc_7 rfl) ?_
   refine xo_effN rfl (wo rfl) (e_storeN rfl Try.ti24 rfl rfl H) ?_
   intro _ w_5 H
   refine xs (.bool false) rfl rfl ?_
   refine xs (I 10) rfl rfl ?_
   refine xe ?_
   obtain ⟨adr_8, r_8, her_8, hnr_8, hrr_8, H⟩ := H
   exact r_ret (fn := Try.f100) Try.func100 (res_3 rfl (resV_cellN (by decide) (by show Value.pointer _ = _; rw [her_8]) u24 rfl Try.ti24 hnr_8 hrr_8) ⟨by decide, rfl⟩ ⟨by decide, rfl⟩) H
  ·clear H; intro hb2 H
   refine r_skip ?_
   refine sr ?_
   obtain ⟨adv_9, v_9, hev_9, hnv_9, hcv_9, H⟩ := H
   refine xo_read (v := (.agg v_9)) rfl (wo rfl) (rd_loadN (ad := adv_9) rfl u24 rfl Try.ti24 (by show Value.pointer _ = _; rw [hev_9]) hnv_9 hcv_9) ?_
   refine xm (.bool ok10) rfl rfl ?_
   refine xm (I e11) rfl rfl ?_
   refine xo_effN rfl (wo rfl) (e_storeN rfl Try.ti24 rfl rfl H) ?_
   intro _ w_6 H
   refine xs (.bool ok10) rfl rfl ?_
   refine xs (I e11) rfl rfl ?_
   refine xe ?_
   obtain ⟨adr_10, r_10, her_10, hnr_10, hrr_10, H⟩ := H
   exact r_ret (fn := Try.f100) Try.func100 (res_3 rfl (resV_cellN (by decide) (by show Value.pointer _ = _; rw [her_10]) u24 rfl Try.ti24 hnr_10 hrr_10) ⟨by decide, rfl⟩ ⟨by decide, rfl⟩) H
 ·intro J1
  refine r_region ?_
  refine xm (I v_5) rfl rfl ?_
  refine xp _ rfl (p_eq rfl rfl rfl) ?_
  refine xm (.bool (decide (v_5 = 0))) rfl rfl ?_
  refine ifB_cases H ?_ ?_
  ·clear H; intro hb3 H
   refine yp (.pointer s0) rfl (wy 22 rfl rfl rfl hb3) (p_move rfl rfl) ?_
   obtain ⟨p_11, hpp_11, H⟩ := H
   refine yp (.pointer (some p_11)) rfl (wy 22 rfl rfl rfl hb3) (p_nilCheck rfl rfl hpp_11) ?_
   refine yp (.pointer (some (p_11.add 0))) rfl (wy 22 rfl rfl rfl hb3) (p_fieldAddr (off := 0) (ft := 177) (size := 1) rfl u179 rfl Try.ti177 (by decide) rfl rfl) ?_
   obtain ⟨adv_12, v_12, hev_12, hcv_12, H⟩ := H
   refine xr (.map v_12) rfl (wy 22 rfl rfl rfl hb3) rfl u177 rfl rfl hev_12 hcv_12 ?_
   refine yp (.string name1) rfl (wy 22 rfl rfl rfl hb3) (p_move rfl rfl) ?_
   refine xo_eff rfl (wy 22 rfl rfl rfl hb3) (e_gen (s := Instr.lookup 177 (.map v_12) (.string name1) false) (enc := Value.agg) rfl H) ?_
   rintro _ w_7 ⟨v_13, rfl, H⟩
   obtain ⟨f_14, hff_14, H⟩ := H
   refine yp (.bool f_14) rfl (wy 22 rfl rfl rfl hb3) (p_field1 (off := 1) (ft := 4) rfl u183 rfl u4 rfl rfl hff_14) ?_
   refine xp (.bool f_14) rfl (p_pickT rfl rfl hb3 rfl) ?_
   refine xe ?_
   refine ru4 6 (.pointer (some a_1)) 9 (.pointer (some a_6)) 10 (.bool v_4) 11 (I v_5) rfl rfl rfl rfl ?_
   refine ru 30 (.bool f_14) rfl ?_
   exact J1 ((some a_1), (some a_6), v_4, v_5, f_14) _ _ H
  ·clear H; intro hb3 H
   refine xo_skip rfl (wn 22 rfl rfl rfl hb3) ?_
   refine xo_skip rfl (wn 22 rfl rfl rfl hb3) ?_
   refine xo_skip rfl (wn 22 rfl rfl rfl hb3) ?_
   refine xo_skip rfl (wn 22 rfl rfl rfl hb3) ?_
   refine xo_skip rfl (wn 22 rfl rfl rfl hb3) ?_
   refine xo_skip rfl (wn 22 rfl rfl rfl hb3) ?_
   refine xo_skip rfl (wn 22 rfl rfl rfl hb3) ?_
   refine xp (.bool false) rfl (p_pickF rfl rfl hb3 rfl) ?_
   refine xe ?_
   refine ru4 6 (.pointer (some a_1)) 9 (.pointer (some a_6)) 10 (.bool v_4) 11 (I v_5) rfl rfl rfl rfl ?_
   refine ru 30 (.bool false) rfl ?_
   exact J1 ((some a_1), (some a_6), v_4, v_5, false) _ _ H
end Go.Proofs
