/- Laid by program. -/
import Derived.Test.YtnjilbgcflbghaaXFT
set_option linter.all false
set_option linter.unusedVariables false
set_option linter.unusedSimpArgs false
set_option maxRecDepth 20000
set_option maxHeartbeats 4000000
namespace Go.Proofs
open Go Go.X
/-! 241 slices.siftDownOrdered[string] -/
def f241_k1 (R : Value → World → Prop) (ag1 : (Sl × Int × Int × Int) → World → Prop) (data0 : Sl) (hi2 : Int) (first3 : Int) (root8 : Int) (child9 : Int) (w : World) : Prop :=
 Ix data0 (IntKind.i64.wrap (first3 + root8)) fun p_1 =>
 Ld Value.string (some (p_1.add ((IntKind.i64.wrap (first3 + root8)).toNat * 1))) (World.drew w) fun v_2 =>
 Ix data0 (IntKind.i64.wrap (first3 + child9)) fun p_3 =>
 Ld Value.string (some (p_3.add ((IntKind.i64.wrap (first3 + child9)).toNat * 1))) (World.drew w) fun v_4 =>
 CallF Try.prog 214 #[(.string v_2), (.string v_4)] (World.drew w) fun u_5 w_2 => As Value.bool u_5 fun v_6 =>
 IfB (!v_6) (
  R (.tuple #[]) w_2) (
  Ix data0 (IntKind.i64.wrap (first3 + child9)) fun p_7 =>
  Ld Value.string (some (p_7.add ((IntKind.i64.wrap (first3 + child9)).toNat * 1))) (World.drew w_2) fun v_8 =>
  Ix data0 (IntKind.i64.wrap (first3 + root8)) fun p_9 =>
  Ld Value.string (some (p_9.add ((IntKind.i64.wrap (first3 + root8)).toNat * 1))) (World.drew w_2) fun v_10 =>
  Ix data0 (IntKind.i64.wrap (first3 + root8)) fun p_11 =>
  St (some (p_11.add ((IntKind.i64.wrap (first3 + root8)).toNat * 1))) (.string v_8) (World.drew w_2) fun w_4 =>
  Ix data0 (IntKind.i64.wrap (first3 + child9)) fun p_12 =>
  St (some (p_12.add ((IntKind.i64.wrap (first3 + child9)).toNat * 1))) (.string v_10) w_4 fun w_5 =>
  ag1 (data0, hi2, first3, child9) w_5)
def f241_k2 (R : Value → World → Prop) (ag1 : (Sl × Int × Int × Int) → World → Prop) (data0 : Sl) (hi2 : Int) (first3 : Int) (root8 : Int) (child9 : Int) (t36 : Bool) (w : World) : Prop :=
 IfB t36 (
  f241_k1 R ag1 data0 hi2 first3 root8 (IntKind.i64.wrap (child9 + 1)) w) (
  f241_k1 R ag1 data0 hi2 first3 root8 child9 w)
def f241_b0 (R : Value → World → Prop) (ag1 : (Sl × Int × Int × Int) → World → Prop) (data0 : Sl) (hi2 : Int) (first3 : Int) (root8 : Int) (w : World) : Prop :=
 IfB (decide (hi2 ≤ (IntKind.i64.wrap ((IntKind.i64.wrap (2 * root8)) + 1)))) (
  R (.tuple #[]) w) (
  IfB (decide ((IntKind.i64.wrap ((IntKind.i64.wrap ((IntKind.i64.wrap (2 * root8)) + 1)) + 1)) < hi2)) (
   Ix data0 (IntKind.i64.wrap (first3 + (IntKind.i64.wrap ((IntKind.i64.wrap (2 * root8)) + 1)))) fun p_13 =>
   Ld Value.string (some (p_13.add ((IntKind.i64.wrap (first3 + (IntKind.i64.wrap ((IntKind.i64.wrap (2 * root8)) + 1)))).toNat * 1))) (World.drew w) fun v_14 =>
   Ix data0 (IntKind.i64.wrap ((IntKind.i64.wrap (first3 + (IntKind.i64.wrap ((IntKind.i64.wrap (2 * root8)) + 1)))) + 1)) fun p_15 =>
   Ld Value.string (some (p_15.add ((IntKind.i64.wrap ((IntKind.i64.wrap (first3 + (IntKind.i64.wrap ((IntKind.i64.wrap (2 * root8)) + 1)))) + 1)).toNat * 1))) (World.drew w) fun v_16 =>
   CallF Try.prog 214 #[(.string v_14), (.string v_16)] (World.drew w) fun u_17 w_7 => As Value.bool u_17 fun v_18 =>
   f241_k2 R ag1 data0 hi2 first3 root8 (IntKind.i64.wrap ((IntKind.i64.wrap (2 * root8)) + 1)) v_18 w_7) (
   f241_k2 R ag1 data0 hi2 first3 root8 (IntKind.i64.wrap ((IntKind.i64.wrap (2 * root8)) + 1)) false (World.drew w)))
def f241 (R : Value → World → Prop) (data0 : Sl) (lo1 : Int) (hi2 : Int) (first3 : Int) (w : World) : Prop :=
 Lp (fun ag (s : Sl × Int × Int × Int) w => f241_b0 R ag s.1 s.2.1 s.2.2.1 s.2.2.2 w) (data0, hi2, first3, lo1) w
theorem f241_ok (R : Value → World → Prop) (data0 : Sl) (lo1 : Int) (hi2 : Int) (first3 : Int) (w : World) (H : f241 R data0 lo1 hi2 first3 w) : CallF Try.prog 241 #[(Sl.v data0), (.int .i64 lo1), (.int .i64 hi2), (.int .i64 first3)] w R := by
 refine calls_of_runs (fn := Try.f241) Try.func241 rfl (Nat.le_of_ble_eq_true rfl) ?_
 show Runs _ _ 76 _ _ _ _
 unfold f241 at H
 refine ru4 0 (Sl.v data0) 1 (I lo1) 2 (I hi2) 3 (I first3) rfl rfl rfl rfl ?_
 refine sr ?_
 refine xm (I lo1) rfl rfl ?_
 refine xs (I lo1) rfl rfl ?_
 refine xe ?_
 refine r_block ?_
 refine ru4 0 (Sl.v data0) 2 (I hi2) 3 (I first3) 8 (I lo1) rfl rfl rfl rfl ?_
 refine r_loopJ (fun (s : Sl × Int × Int × Int) σ => upd 8 (I s.2.2.2) (upd 3 (I s.2.2.1) (upd 2 (I s.2.1) (upd 0 (Sl.v s.1) (σ))))) (s := (data0, hi2, first3, lo1)) H ?_
 clear H
 rintro ag1 ⟨data0, hi2, first3, root8⟩ σ w H hag1
 replace H : f241_b0 R ag1 data0 hi2 first3 root8 w := H
 try dsimp only
 unfold f241_b0 at H
 refine r_block ?_
 refine sr ?_
 refine xm (I root8) rfl rfl ?_
 refine xp _ rfl (p_mul rfl rfl rfl) ?_
 refine xp _ rfl (p_add rfl rfl rfl) ?_
 refine xs (I (W ((W (2 * root8)) + 1))) rfl rfl ?_
 refine xe ?_
 refine r_seq ?_
 refine sr ?_
 refine xm (I (W ((W (2 * root8)) + 1))) rfl rfl ?_
 refine xm (I hi2) rfl rfl ?_
 refine xp _ rfl (p_ge rfl rfl rfl) ?_
 refine xe ?_
 refine r_condB (b := (decide (hi2 ≤ (W ((W (2 * root8)) + 1))))) rfl H ?_ ?_
 ·clear H; intro hb2 H
  refine r_exit rfl ?_
  exact r_end (fn := Try.f241) Try.func241 (res_0 rfl ) H
 ·clear H; intro hb2 H
  refine r_skip ?_
  refine r_seqJ (fun (s : Sl × Int × Int × Int × Int) σ => upd 9 (I s.2.2.2.2) (upd 8 (I s.2.2.2.1) (upd 3 (I s.2.2.1) (upd 2 (I s.2.1) (upd 0 (Sl.v s.1) (σ)))))) (fun (s : Sl × Int × Int × Int × Int) w => f241_k1 R ag1 s.1 s.2.1 s.2.2.1 s.2.2.2.1 s.2.2.2.2 w) ?_ ?_
  ·rintro ⟨data0, hi2, first3, root8, child9⟩ σ w H
   replace H : f241_k1 R ag1 data0 hi2 first3 root8 child9 w := H
   try dsimp only
   unfold f241_k1 at H
   refine r_seq ?_
   refine r_seq ?_
   refine r_draw #[[], [], [], [1, 2], [0, 1, 2, 3], [0, 1, 2, 3, 4], [], [], [], [7, 8], [6, 7, 8, 9], [6, 7, 8, 9, 10], [0, 1, 2, 3, 4, 5, 6, 7, 8, 9, 10, 11], [0, 1, 2, 3, 4, 5, 6, 7, 8, 9, 10, 11, 12]] 14 rfl rfl ?_
   refine am 0 (Sl.v data0) rfl rfl rfl ?_
   refine am 1 (I first3) rfl rfl rfl ?_
   refine am 2 (I root8) rfl rfl rfl ?_
   refine ap 3 _ rfl rfl (p_add rfl rfl rfl) ?_
   obtain ⟨p_1, hap_1, hlp_1, hup_1, H⟩ := H
   refine ap 4 _ rfl rfl (p_indexAddr (s := data0) (ad := p_1) (size := 1) rfl u71 Try.ti9 rfl rfl hap_1 hlp_1 hup_1) ?_
   obtain ⟨adv_2, v_2, hev_2, hcv_2, H⟩ := H
   refine ar 5 (.string v_2) rfl rfl (wo rfl) rfl u9 rfl rfl hev_2 hcv_2 ?_
   refine am 6 (Sl.v data0) rfl rfl rfl ?_
   refine am 7 (I first3) rfl rfl rfl ?_
   refine am 8 (I child9) rfl rfl rfl ?_
   refine ap 9 _ rfl rfl (p_add rfl rfl rfl) ?_
   obtain ⟨p_3, hap_3, hlp_3, hup_3, H⟩ := H
   refine ap 10 _ rfl rfl (p_indexAddr (s := data0) (ad := p_3) (size := 1) rfl u71 Try.ti9 rfl rfl hap_3 hlp_3 hup_3) ?_
   obtain ⟨adv_4, v_4, hev_4, hcv_4, H⟩ := H
   refine ar 11 (.string v_4) rfl rfl (wo rfl) rfl u9 rfl rfl hev_4 hcv_4 ?_
   refine ae 12 [] rfl rfl rfl (wo rfl) (e_call (fn := Try.f214) H rfl rfl Try.func214 rfl rfl rfl) ?_
   rintro _ w_2 ⟨v_6, rfl, H⟩
   refine ⟨AllHeld.nil, ?_⟩
   refine ap 13 (.bool (!v_6)) rfl rfl (p_not rfl rfl) ?_
   refine ax ?_
   refine r_condB (b := (!v_6)) rfl H ?_ ?_
   ·clear H; intro hb4 H
    exact r_ret (fn := Try.f241) Try.func241 (res_0 rfl ) H
   ·clear H; intro hb4 H
    refine r_skip ?_
    refine r_seq ?_
    refine r_draw #[[], [], [], [1, 2], [], [], [], [5, 6], [], [], [], [9, 10], [8, 9, 10, 11], [8, 9, 10, 11, 12], [], [], [], [15, 16], [14, 15, 16, 17], [14, 15, 16, 17, 18], [0, 1, 2, 3, 8, 9, 10, 11, 12, 13, 14, 15, 16, 17, 18, 19], [0, 1, 2, 3, 8, 9, 10, 11, 12, 13, 14, 15, 16, 17, 18, 19, 20], [0, 1, 2, 3, 4, 5, 6, 7, 8, 9, 10, 11, 12, 13, 14, 15, 16, 17, 18, 19, 20, 21], [0, 1, 2, 3, 4, 5, 6, 7, 8, 9, 10, 11, 12, 13, 14, 15, 16, 17, 18, 19, 20, 21, 22]] 24 rfl rfl ?_
    refine am 0 (Sl.v data0) rfl rfl rfl ?_
    refine am 1 (I first3) rfl rfl rfl ?_
    refine am 2 (I root8) rfl rfl rfl ?_
    refine ap 3 _ rfl rfl (p_add rfl rfl rfl) ?_
    refine am 4 (Sl.v data0) rfl rfl rfl ?_
    refine am 5 (I first3) rfl rfl rfl ?_
    refine am 6 (I child9) rfl rfl rfl ?_
    refine ap 7 _ rfl rfl (p_add rfl rfl rfl) ?_
    refine am 8 (Sl.v data0) rfl rfl rfl ?_
    refine am 9 (I first3) rfl rfl rfl ?_
    refine am 10 (I child9) rfl rfl rfl ?_
    refine ap 11 _ rfl rfl (p_add rfl rfl rfl) ?_
    obtain ⟨p_7, hap_7, hlp_7, hup_7, H⟩ := H
    refine ap 12 _ rfl rfl (p_indexAddr (s := data0) (ad := p_7) (size := 1) rfl u71 Try.ti9 rfl rfl hap_7 hlp_7 hup_7) ?_
    obtain ⟨adv_8, v_8, hev_8, hcv_8, H⟩ := H
    refine ar 13 (.string v_8) rfl rfl (wo rfl) rfl u9 rfl rfl hev_8 hcv_8 ?_
    refine am 14 (Sl.v data0) rfl rfl rfl ?_
    refine am 15 (I first3) rfl rfl rfl ?_
    refine am 16 (I root8) rfl rfl rfl ?_
    refine ap 17 _ rfl rfl (p_add rfl rfl rfl) ?_
    obtain ⟨p_9, hap_9, hlp_9, hup_9, H⟩ := H
    refine ap 18 _ rfl rfl (p_indexAddr (s := data0) (ad := p_9) (size := 1) rfl u71 Try.ti9 rfl rfl hap_9 hlp_9 hup_9) ?_
    obtain ⟨adv_10, v_10, hev_10, hcv_10, H⟩ := H
    refine ar 19 (.string v_10) rfl rfl (wo rfl) rfl u9 rfl rfl hev_10 hcv_10 ?_
    obtain ⟨p_11, hap_11, hlp_11, hup_11, H⟩ := H
    refine ap 20 _ rfl rfl (p_indexAddr (s := data0) (ad := p_11) (size := 1) rfl u71 Try.ti9 rfl rfl hap_11 hlp_11 hup_11) ?_
    refine an 21 rfl rfl rfl (wo rfl) (e_store rfl Try.ti9 rfl rfl rfl H) fun _ w_4 H => ?_
    obtain ⟨p_12, hap_12, hlp_12, hup_12, H⟩ := H
    refine ap 22 _ rfl rfl (p_indexAddr (s := data0) (ad := p_12) (size := 1) rfl u71 Try.ti9 rfl rfl hap_12 hlp_12 hup_12) ?_
    refine an 23 rfl rfl rfl (wo rfl) (e_store rfl Try.ti9 rfl rfl rfl H) fun _ w_5 H => ?_
    refine ax ?_
    refine r_region ?_
    refine xm (I child9) rfl rfl ?_
    refine xs (I child9) rfl rfl ?_
    refine xe ?_
    refine r_inBlock ?_
    refine ru4 0 (Sl.v data0) 2 (I hi2) 3 (I first3) 8 (I child9) rfl rfl rfl rfl ?_
    exact hag1 (data0, hi2, first3, child9) _ _ H
  ·intro J3
   refine r_seq ?_
   refine r_topJ (fun (s : Sl × Int × Int × Int × Int × Bool) σ => upd 36 (.bool s.2.2.2.2.2) (upd 9 (I s.2.2.2.2.1) (upd 8 (I s.2.2.2.1) (upd 3 (I s.2.2.1) (upd 2 (I s.2.1) (upd 0 (Sl.v s.1) (σ))))))) (fun (s : Sl × Int × Int × Int × Int × Bool) w => f241_k2 R ag1 s.1 s.2.1 s.2.2.1 s.2.2.2.1 s.2.2.2.2.1 s.2.2.2.2.2 w) ?_ ?_
   ·rintro ⟨data0, hi2, first3, root8, child9, t36⟩ σ w H
    replace H : f241_k2 R ag1 data0 hi2 first3 root8 child9 t36 w := H
    try dsimp only
    unfold f241_k2 at H
    refine r_condB (b := t36) rfl H ?_ ?_
    ·clear H; intro hb6 H
     refine r_region ?_
     refine xm (I child9) rfl rfl ?_
     refine xp _ rfl (p_add rfl rfl rfl) ?_
     refine xs (I (W (child9 + 1))) rfl rfl ?_
     refine xe ?_
     refine ru4 0 (Sl.v data0) 2 (I hi2) 3 (I first3) 8 (I root8) rfl rfl rfl rfl ?_
     refine ru 9 (I (W (child9 + 1))) rfl ?_
     exact J3 (data0, hi2, first3, root8, (W (child9 + 1))) _ _ H
    ·clear H; intro hb6 H
     refine r_skip ?_
     refine ru4 0 (Sl.v data0) 2 (I hi2) 3 (I first3) 8 (I root8) rfl rfl rfl rfl ?_
     refine ru 9 (I child9) rfl ?_
     exact J3 (data0, hi2, first3, root8, child9) _ _ H
   ·intro J5
    refine r_draw #[[], [0], [], [0, 1, 2], [0, 1, 2, 3], [0, 1, 2, 3, 4], [0, 1, 2, 3, 4], [0, 1, 2, 3, 4], [0, 1, 2, 3, 4, 6, 7], [0, 1, 2, 3, 4, 5, 6, 7, 8], [0, 1, 2, 3, 4, 5, 6, 7, 8, 9], [0, 1, 2, 3, 4], [0, 1, 2, 3, 4], [0, 1, 2, 3, 4], [0, 1, 2, 3, 4, 12, 13], [0, 1, 2, 3, 4, 12, 13, 14], [0, 1, 2, 3, 4, 11, 12, 13, 14, 15], [0, 1, 2, 3, 4, 11, 12, 13, 14, 15, 16], [0, 1, 2, 3, 4, 5, 6, 7, 8, 9, 10, 11, 12, 13, 14, 15, 16, 17], [0, 1, 2, 3, 4, 5, 6, 7, 8, 9, 10, 11, 12, 13, 14, 15, 16, 17, 18]] 20 rfl rfl ?_
    refine am 0 (I (W ((W (2 * root8)) + 1))) rfl rfl rfl ?_
    refine ap 1 _ rfl rfl (p_add rfl rfl rfl) ?_
    refine am 2 (I hi2) rfl rfl rfl ?_
    refine ap 3 _ rfl rfl (p_lt rfl rfl rfl) ?_
    refine am 4 (.bool (decide ((W ((W ((W (2 * root8)) + 1)) + 1)) < hi2))) rfl rfl rfl ?_
    refine ifB_cases H ?_ ?_
    ·clear H; intro hb7 H
     refine ay 5 (Sl.v data0) rfl rfl (wy 21 rfl rfl rfl hb7) (p_move rfl rfl) ?_
     refine ay 6 (I first3) rfl rfl (wy 21 rfl rfl rfl hb7) (p_move rfl rfl) ?_
     refine ay 7 (I (W ((W (2 * root8)) + 1))) rfl rfl (wy 21 rfl rfl rfl hb7) (p_move rfl rfl) ?_
     refine ay 8 (I (W (first3 + (W ((W (2 * root8)) + 1))))) rfl rfl (wy 21 rfl rfl rfl hb7) (p_add rfl rfl rfl) ?_
     obtain ⟨p_13, hap_13, hlp_13, hup_13, H⟩ := H
     refine ay 9 (.pointer (some (p_13.add ((W (first3 + (W ((W (2 * root8)) + 1)))).toNat * 1)))) rfl rfl (wy 21 rfl rfl rfl hb7) (p_indexAddr (s := data0) (ad := p_13) (size := 1) rfl u71 Try.ti9 rfl rfl hap_13 hlp_13 hup_13) ?_
     obtain ⟨adv_14, v_14, hev_14, hcv_14, H⟩ := H
     refine ar 10 (.string v_14) rfl rfl (wy 21 rfl rfl rfl hb7) rfl u9 rfl rfl hev_14 hcv_14 ?_
     refine ay 11 (Sl.v data0) rfl rfl (wy 21 rfl rfl rfl hb7) (p_move rfl rfl) ?_
     refine ay 12 (I first3) rfl rfl (wy 21 rfl rfl rfl hb7) (p_move rfl rfl) ?_
     refine ay 13 (I (W ((W (2 * root8)) + 1))) rfl rfl (wy 21 rfl rfl rfl hb7) (p_move rfl rfl) ?_
     refine ay 14 (I (W (first3 + (W ((W (2 * root8)) + 1))))) rfl rfl (wy 21 rfl rfl rfl hb7) (p_add rfl rfl rfl) ?_
     refine ay 15 (I (W ((W (first3 + (W ((W (2 * root8)) + 1)))) + 1))) rfl rfl (wy 21 rfl rfl rfl hb7) (p_add rfl rfl rfl) ?_
     obtain ⟨p_15, hap_15, hlp_15, hup_15, H⟩ := H
     refine ay 16 (.pointer (some (p_15.add ((W ((W (first3 + (W ((W (2 * root8)) + 1)))) + 1)).toNat * 1)))) rfl rfl (wy 21 rfl rfl rfl hb7) (p_indexAddr (s := data0) (ad := p_15) (size := 1) rfl u71 Try.ti9 rfl rfl hap_15 hlp_15 hup_15) ?_
     obtain ⟨adv_16, v_16, hev_16, hcv_16, H⟩ := H
     refine ar 17 (.string v_16) rfl rfl (wy 21 rfl rfl rfl hb7) rfl u9 rfl rfl hev_16 hcv_16 ?_
     refine ae 18 [] rfl rfl rfl (wy 21 rfl rfl rfl hb7) (e_call (fn := Try.f214) H rfl rfl Try.func214 rfl rfl rfl) ?_
     rintro _ w_7 ⟨v_18, rfl, H⟩
     refine ⟨AllHeld.nil, ?_⟩
     refine ap 19 (.bool v_18) rfl rfl (p_pickT rfl rfl hb7 rfl) ?_
     refine ax ?_
     refine ru4 0 (Sl.v data0) 2 (I hi2) 3 (I first3) 8 (I root8) rfl rfl rfl rfl ?_
     refine ru2 9 (I (W ((W (2 * root8)) + 1))) 36 (.bool v_18) rfl rfl ?_
     exact J5 (data0, hi2, first3, root8, (W ((W (2 * root8)) + 1)), v_18) _ _ H
    ·clear H; intro hb7 H
     refine ak 5 rfl rfl (wn 21 rfl rfl rfl hb7) ?_
     refine ak 6 rfl rfl (wn 21 rfl rfl rfl hb7) ?_
     refine ak 7 rfl rfl (wn 21 rfl rfl rfl hb7) ?_
     refine ak 8 rfl rfl (wn 21 rfl rfl rfl hb7) ?_
     refine ak 9 rfl rfl (wn 21 rfl rfl rfl hb7) ?_
     refine ak 10 rfl rfl (wn 21 rfl rfl rfl hb7) ?_
     refine ak 11 rfl rfl (wn 21 rfl rfl rfl hb7) ?_
     refine ak 12 rfl rfl (wn 21 rfl rfl rfl hb7) ?_
     refine ak 13 rfl rfl (wn 21 rfl rfl rfl hb7) ?_
     refine ak 14 rfl rfl (wn 21 rfl rfl rfl hb7) ?_
     refine ak 15 rfl rfl (wn 21 rfl rfl rfl hb7) ?_
     refine ak 16 rfl rfl (wn 21 rfl rfl rfl hb7) ?_
     refine ak 17 rfl rfl (wn 21 rfl rfl rfl hb7) ?_
     refine ak 18 rfl rfl (wn 21 rfl rfl rfl hb7) ?_
     refine ap 19 (.bool false) rfl rfl (p_pickF rfl rfl hb7 rfl) ?_
     refine ax ?_
     refine ru4 0 (Sl.v data0) 2 (I hi2) 3 (I first3) 8 (I root8) rfl rfl rfl rfl ?_
     refine ru2 9 (I (W ((W (2 * root8)) + 1))) 36 (.bool false) rfl rfl ?_
     exact J5 (data0, hi2, first3, root8, (W ((W (2 * root8)) + 1)), false) _ _ H

/-! 242 slices.nextPowerOfTwo -/
def f242 (R : Value → World → Prop) (length0 : Int) (w : World) : Prop :=
 CallF Try.prog 194 #[(.int .u64 (IntKind.u64.wrap length0))] w fun u_1 w_1 => As (Value.int .i64) u_1 fun v_2 =>
 0 ≤ v_2 ∧ (
 R (.int .u64 (shlK .u64 1 v_2)) w_1)
theorem f242_ok (R : Value → World → Prop) (length0 : Int) (w : World) (H : f242 R length0 w) : CallF Try.prog 242 #[(.int .i64 length0)] w R := by
 refine calls_of_runs (fn := Try.f242) Try.func242 rfl (Nat.le_of_ble_eq_true rfl) ?_
 show Runs _ _ 7 _ _ _ _
 unfold f242 at H
 refine ru 0 (I length0) rfl ?_
 refine sr ?_
 refine xs (.int .u64 0) rfl rfl ?_
 refine xe ?_
 refine sr ?_
 refine xm (I length0) rfl rfl ?_
 refine xp (.int .u64 (IntKind.u64.wrap length0)) rfl (p_conv rfl u3 u234 rfl) ?_
 refine xo_eff rfl (wo rfl) (e_call (fn := Try.f194) H rfl rfl Try.func194 rfl rfl rfl) ?_
 rintro _ w_1 ⟨v_2, rfl, H⟩
 obtain ⟨hnq_3, H⟩ := H
 refine xp (.int .u64 (shlK .u64 1 v_2)) rfl (p_shl rfl rfl rfl hnq_3) ?_
 refine xs (.int .u64 (shlK .u64 1 v_2)) rfl rfl ?_
 refine xe ?_
 exact r_ret (fn := Try.f242) Try.func242 (res_1 rfl ⟨by decide, rfl⟩) H

/-! 243 (*slices.xorshift).Next -/
def f243 (R : Value → World → Prop) (r0 : Option Addr) (w : World) : Prop :=
 NotNil r0 fun p_1 =>
 Ld (Value.int .u64) (some p_1) (World.drew w) fun v_2 =>
 NotNil r0 fun p_3 =>
 Ld (Value.int .u64) (some p_3) (World.drew w) fun v_4 =>
 NotNil r0 fun p_5 =>
 St (some p_5) (.int .u64 (xorK .u64 v_2 (shlK .u64 v_4 13))) (World.drew w) fun w_2 =>
 NotNil r0 fun p_6 =>
 Ld (Value.int .u64) (some p_6) (World.drew w_2) fun v_7 =>
 NotNil r0 fun p_8 =>
 Ld (Value.int .u64) (some p_8) (World.drew w_2) fun v_9 =>
 NotNil r0 fun p_10 =>
 St (some p_10) (.int .u64 (xorK .u64 v_7 (shrK .u64 v_9 7))) (World.drew w_2) fun w_4 =>
 NotNil r0 fun p_11 =>
 Ld (Value.int .u64) (some p_11) (World.drew w_4) fun v_12 =>
 NotNil r0 fun p_13 =>
 Ld (Value.int .u64) (some p_13) (World.drew w_4) fun v_14 =>
 NotNil r0 fun p_15 =>
 St (some p_15) (.int .u64 (xorK .u64 v_12 (shlK .u64 v_14 17))) (World.drew w_4) fun w_6 =>
 NotNil r0 fun p_16 =>
 Ld (Value.int .u64) (some p_16) w_6 fun v_17 =>
 R (.int .u64 v_17) w_6
theorem f243_ok (R : Value → World → Prop) (r0 : Option Addr) (w : World) (H : f243 R r0 w) : CallF Try.prog 243 #[(.pointer r0)] w R := by
 refine calls_of_runs (fn := Try.f243) Try.func243 rfl (Nat.le_of_ble_eq_true rfl) ?_
 show Runs _ _ 33 _ _ _ _
 unfold f243 at H
 refine ru 0 (.pointer r0) rfl ?_
 refine sr ?_
 refine xs (.int .u64 0) rfl rfl ?_
 refine xe ?_
 refine r_seq ?_
 refine r_draw #[[], [0], [0, 1], [], [3], [3, 4], [3, 4, 5], [0, 1, 2, 3, 4, 5, 6], [0, 1, 2, 3, 4, 5, 6, 7], [0, 1, 2, 3, 4, 5, 6, 7, 8]] 10 rfl rfl ?_
 refine am 0 (.pointer r0) rfl rfl rfl ?_
 obtain ⟨p_1, hpp_1, H⟩ := H
 refine ap 1 (.pointer (some p_1)) rfl rfl (p_nilCheck rfl rfl hpp_1) ?_
 obtain ⟨adv_2, v_2, hev_2, hcv_2, H⟩ := H
 refine ar 2 (.int .u64 v_2) rfl rfl (wo rfl) rfl u336 rfl rfl hev_2 hcv_2 ?_
 refine am 3 (.pointer r0) rfl rfl rfl ?_
 obtain ⟨p_3, hpp_3, H⟩ := H
 refine ap 4 (.pointer (some p_3)) rfl rfl (p_nilCheck rfl rfl hpp_3) ?_
 obtain ⟨adv_4, v_4, hev_4, hcv_4, H⟩ := H
 refine ar 5 (.int .u64 v_4) rfl rfl (wo rfl) rfl u336 rfl rfl hev_4 hcv_4 ?_
 refine ap 6 (.int .u64 (shlK .u64 v_4 13)) rfl rfl (p_shl rfl rfl rfl (by decide)) ?_
 refine ap 7 (.int .u64 (xorK .u64 v_2 (shlK .u64 v_4 13))) rfl rfl (p_xor rfl rfl rfl) ?_
 obtain ⟨p_5, hpp_5, H⟩ := H
 refine ap 8 (.pointer (some p_5)) rfl rfl (p_nilCheck rfl rfl hpp_5) ?_
 refine an 9 rfl rfl rfl (wo rfl) (e_store rfl Try.ti336 rfl rfl rfl H) fun _ w_2 H => ?_
 refine ax ?_
 refine r_seq ?_
 refine r_draw #[[], [0], [0, 1], [], [3], [3, 4], [3, 4, 5], [0, 1, 2, 3, 4, 5, 6], [0, 1, 2, 3, 4, 5, 6, 7], [0, 1, 2, 3, 4, 5, 6, 7, 8]] 10 rfl rfl ?_
 refine am 0 (.pointer r0) rfl rfl rfl ?_
 obtain ⟨p_6, hpp_6, H⟩ := H
 refine ap 1 (.pointer (some p_6)) rfl rfl (p_nilCheck rfl rfl hpp_6) ?_
 obtain ⟨adv_7, v_7, hev_7, hcv_7, H⟩ := H
 refine ar 2 (.int .u64 v_7) rfl rfl (wo rfl) rfl u336 rfl rfl hev_7 hcv_7 ?_
 refine am 3 (.pointer r0) rfl rfl rfl ?_
 obtain ⟨p_8, hpp_8, H⟩ := H
 refine ap 4 (.pointer (some p_8)) rfl rfl (p_nilCheck rfl rfl hpp_8) ?_
 obtain ⟨adv_9, v_9, hev_9, hcv_9, H⟩ := H
 refine ar 5 (.int .u64 v_9) rfl rfl (wo rfl) rfl u336 rfl rfl hev_9 hcv_9 ?_
 refine ap 6 (.int .u64 (shrK .u64 v_9 7)) rfl rfl (p_shr rfl rfl rfl (by decide)) ?_
 refine ap 7 (.int .u64 (xorK .u64 v_7 (shrK .u64 v_9 7))) rfl rfl (p_xor rfl rfl rfl) ?_
 obtain ⟨p_10, hpp_10, H⟩ := H
 refine ap 8 (.pointer (some p_10)) rfl rfl (p_nilCheck rfl rfl hpp_10) ?_
 refine an 9 rfl rfl rfl (wo rfl) (e_store rfl Try.ti336 rfl rfl rfl H) fun _ w_4 H => ?_
 refine ax ?_
 refine r_seq ?_
 refine r_draw #[[], [0], [0, 1], [], [3], [3, 4], [3, 4, 5], [0, 1, 2, 3, 4, 5, 6], [0, 1, 2, 3, 4, 5, 6, 7], [0, 1, 2, 3, 4, 5, 6, 7, 8]] 10 rfl rfl ?_
 refine am 0 (.pointer r0) rfl rfl rfl ?_
 obtain ⟨p_11, hpp_11, H⟩ := H
 refine ap 1 (.pointer (some p_11)) rfl rfl (p_nilCheck rfl rfl hpp_11) ?_
 obtain ⟨adv_12, v_12, hev_12, hcv_12, H⟩ := H
 refine ar 2 (.int .u64 v_12) rfl rfl (wo rfl) rfl u336 rfl rfl hev_12 hcv_12 ?_
 refine am 3 (.pointer r0) rfl rfl rfl ?_
 obtain ⟨p_13, hpp_13, H⟩ := H
 refine ap 4 (.pointer (some p_13)) rfl rfl (p_nilCheck rfl rfl hpp_13) ?_
 obtain ⟨adv_14, v_14, hev_14, hcv_14, H⟩ := H
 refine ar 5 (.int .u64 v_14) rfl rfl (wo rfl) rfl u336 rfl rfl hev_14 hcv_14 ?_
 refine ap 6 (.int .u64 (shlK .u64 v_14 17)) rfl rfl (p_shl rfl rfl rfl (by decide)) ?_
 refine ap 7 (.int .u64 (xorK .u64 v_12 (shlK .u64 v_14 17))) rfl rfl (p_xor rfl rfl rfl) ?_
 obtain ⟨p_15, hpp_15, H⟩ := H
 refine ap 8 (.pointer (some p_15)) rfl rfl (p_nilCheck rfl rfl hpp_15) ?_
 refine an 9 rfl rfl rfl (wo rfl) (e_store rfl Try.ti336 rfl rfl rfl H) fun _ w_6 H => ?_
 refine ax ?_
 refine sr ?_
 refine xm (.pointer r0) rfl rfl ?_
 obtain ⟨p_16, hpp_16, H⟩ := H
 refine xp (.pointer (some p_16)) rfl (p_nilCheck rfl rfl hpp_16) ?_
 obtain ⟨adv_17, v_17, hev_17, hcv_17, H⟩ := H
 refine xr (.int .u64 v_17) rfl (wo rfl) rfl u336 rfl rfl hev_17 hcv_17 ?_
 refine xs (.int .u64 v_17) rfl rfl ?_
 refine xe ?_
 exact r_ret (fn := Try.f243) Try.func243 (res_1 rfl ⟨by decide, rfl⟩) H

/-! 244 slices.medianAdjacentOrdered[string] -/
def f244 (R : Value → World → Prop) (data0 : Sl) (a1 : Int) (swaps2 : Option Addr) (w : World) : Prop :=
 CallF Try.prog 245 #[(Sl.v data0), (.int .i64 (IntKind.i64.wrap (a1 - 1))), (.int .i64 a1), (.int .i64 (IntKind.i64.wrap (a1 + 1))), (.pointer swaps2)] w fun u_1 w_1 => As (Value.int .i64) u_1 fun v_2 =>
 R (.int .i64 v_2) w_1
theorem f244_ok (R : Value → World → Prop) (data0 : Sl) (a1 : Int) (swaps2 : Option Addr) (w : World) (H : f244 R data0 a1 swaps2 w) : CallF Try.prog 244 #[(Sl.v data0), (.int .i64 a1), (.pointer swaps2)] w R := by
 refine calls_of_runs (fn := Try.f244) Try.func244 rfl (Nat.le_of_ble_eq_true rfl) ?_
 show Runs _ _ 15 _ _ _ _
 unfold f244 at H
 refine ru3 0 (Sl.v data0) 1 (I a1) 2 (.pointer swaps2) rfl rfl rfl ?_
 refine sr ?_
 refine xs (I 0) rfl rfl ?_
 refine xe ?_
 refine sr ?_
 refine xm (Sl.v data0) rfl rfl ?_
 refine xm (I a1) rfl rfl ?_
 refine xp _ rfl (p_sub rfl rfl rfl) ?_
 refine xm (I a1) rfl rfl ?_
 refine xm (I a1) rfl rfl ?_
 refine xp _ rfl (p_add rfl rfl rfl) ?_
 refine xm (.pointer swaps2) rfl rfl ?_
 refine xo_eff rfl (wo rfl) (e_call (fn := Try.f245) H rfl rfl Try.func245 rfl rfl rfl) ?_
 rintro _ w_1 ⟨v_2, rfl, H⟩
 refine xs (I v_2) rfl rfl ?_
 refine xe ?_
 exact r_ret (fn := Try.f244) Try.func244 (res_1 rfl ⟨by decide, rfl⟩) H

/-! 245 slices.medianOrdered[string] -/
def f245 (R : Value → World → Prop) (data0 : Sl) (a1 : Int) (b2 : Int) (c3 : Int) (swaps4 : Option Addr) (w : World) : Prop :=
 CallF Try.prog 256 #[(Sl.v data0), (.int .i64 a1), (.int .i64 b2), (.pointer swaps4)] w fun u_1 w_1 => AsT2 (Value.int .i64) (Value.int .i64) u_1 fun v_2 v_3 =>
 CallF Try.prog 256 #[(Sl.v data0), (.int .i64 v_3), (.int .i64 c3), (.pointer swaps4)] w_1 fun u_4 w_2 => AsT2 (Value.int .i64) (Value.int .i64) u_4 fun v_5 v_6 =>
 CallF Try.prog 256 #[(Sl.v data0), (.int .i64 v_2), (.int .i64 v_5), (.pointer swaps4)] w_2 fun u_7 w_3 => AsT2 (Value.int .i64) (Value.int .i64) u_7 fun v_8 v_9 =>
 R (.int .i64 v_9) w_3
theorem f245_ok (R : Value → World → Prop) (data0 : Sl) (a1 : Int) (b2 : Int) (c3 : Int) (swaps4 : Option Addr) (w : World) (H : f245 R data0 a1 b2 c3 swaps4 w) : CallF Try.prog 245 #[(Sl.v data0), (.int .i64 a1), (.int .i64 b2), (.int .i64 c3), (.pointer swaps4)] w R := by
 refine calls_of_runs (fn := Try.f245) Try.func245 rfl (Nat.le_of_ble_eq_true rfl) ?_
 show Runs _ _ 36 _ _ _ _
 unfold f245 at H
 refine ru4 0 (Sl.v data0) 1 (I a1) 2 (I b2) 3 (I c3) rfl rfl rfl rfl ?_
 refine ru 4 (.pointer swaps4) rfl ?_
 refine sr ?_
 refine xs (I 0) rfl rfl ?_
 refine xe ?_
 refine sr ?_
 refine xm (Sl.v data0) rfl rfl ?_
 refine xm (I a1) rfl rfl ?_
 refine xm (I b2) rfl rfl ?_
 refine xm (.pointer swaps4) rfl rfl ?_
 refine xo_eff rfl (wo rfl) (e_call (fn := Try.f256) H rfl rfl Try.func256 rfl rfl rfl) ?_
 rintro _ w_1 ⟨v_2, v_3, rfl, H⟩
 refine xm (.tuple #[(I v_2), (I v_3)]) rfl rfl ?_
 refine xp (I v_2) rfl (p_extract (vs := #[(I v_2), (I v_3)]) rfl rfl rfl) ?_
 refine xp (I v_3) rfl (p_extract (vs := #[(I v_2), (I v_3)]) rfl rfl rfl) ?_
 refine xs (I v_2) rfl rfl ?_
 refine xs (I v_3) rfl rfl ?_
 refine xe ?_
 refine sr ?_
 refine xm (Sl.v data0) rfl rfl ?_
 refine xm (I v_3) rfl rfl ?_
 refine xm (I c3) rfl rfl ?_
 refine xm (.pointer swaps4) rfl rfl ?_
 refine xo_eff rfl (wo rfl) (e_call (fn := Try.f256) H rfl rfl Try.func256 rfl rfl rfl) ?_
 rintro _ w_2 ⟨v_5, v_6, rfl, H⟩
 refine xm (.tuple #[(I v_5), (I v_6)]) rfl rfl ?_
 refine xp (I v_5) rfl (p_extract (vs := #[(I v_5), (I v_6)]) rfl rfl rfl) ?_
 refine xp (I v_6) rfl (p_extract (vs := #[(I v_5), (I v_6)]) rfl rfl rfl) ?_
 refine xs (I v_5) rfl rfl ?_
 refine xs (I v_6) rfl rfl ?_
 refine xe ?_
 refine sr ?_
 refine xm (Sl.v data0) rfl rfl ?_
 refine xm (I v_2) rfl rfl ?_
 refine xm (I v_5) rfl rfl ?_
 refine xm (.pointer swaps4) rfl rfl ?_
 refine xo_eff rfl (wo rfl) (e_call (fn := Try.f256) H rfl rfl Try.func256 rfl rfl rfl) ?_
 rintro _ w_3 ⟨v_8, v_9, rfl, H⟩
 refine xm (.tuple #[(I v_8), (I v_9)]) rfl rfl ?_
 refine xp (I v_8) rfl (p_extract (vs := #[(I v_8), (I v_9)]) rfl rfl rfl) ?_
 refine xp (I v_9) rfl (p_extract (vs := #[(I v_8), (I v_9)]) rfl rfl rfl) ?_
 refine xs (I v_8) rfl rfl ?_
 refine xs (I v_9) rfl rfl ?_
 refine xe ?_
 refine sr ?_
 refine xm (I v_9) rfl rfl ?_
 refine xs (I v_9) rfl rfl ?_
 refine xe ?_
 exact r_ret (fn := Try.f245) Try.func245 (res_1 rfl ⟨by decide, rfl⟩) H

/-! 246 cmp.isNaN[string] -/
def f246 (R : Value → World → Prop) (x0 : ByteArray) (w : World) : Prop :=
 R (.bool (!seq x0 x0)) w
theorem f246_ok (R : Value → World → Prop) (x0 : ByteArray) (w : World) (H : f246 R x0 w) : CallF Try.prog 246 #[(.string x0)] w R := by
 refine calls_of_runs (fn := Try.f246) Try.func246 rfl (Nat.le_of_ble_eq_true rfl) ?_
 show Runs _ _ 6 _ _ _ _
 unfold f246 at H
 refine ru 0 (.string x0) rfl ?_
 refine sr ?_
 refine xs (.bool false) rfl rfl ?_
 refine xe ?_
 refine sr ?_
 refine xm (.string x0) rfl rfl ?_
 refine xm (.string x0) rfl rfl ?_
 refine xp (.bool (!seq x0 x0)) rfl (p_sne rfl rfl rfl) ?_
 refine xs (.bool (!seq x0 x0)) rfl rfl ?_
 refine xe ?_
 exact r_ret (fn := Try.f246) Try.func246 (res_1 rfl ⟨by decide, rfl⟩) H

/-! 247 slices.siftDownOrdered[int] -/
def f247_k1 (R : Value → World → Prop) (ag1 : (Sl × Int × Int × Int) → World → Prop) (data0 : Sl) (hi2 : Int) (first3 : Int) (root8 : Int) (child9 : Int) (w : World) : Prop :=
 Ix data0 (IntKind.i64.wrap (first3 + root8)) fun p_1 =>
 Ld (Value.int .i64) (some (p_1.add ((IntKind.i64.wrap (first3 + root8)).toNat * 1))) (World.drew w) fun v_2 =>
 Ix data0 (IntKind.i64.wrap (first3 + child9)) fun p_3 =>
 Ld (Value.int .i64) (some (p_3.add ((IntKind.i64.wrap (first3 + child9)).toNat * 1))) (World.drew w) fun v_4 =>
 CallF Try.prog 225 #[(.int .i64 v_2), (.int .i64 v_4)] (World.drew w) fun u_5 w_2 => As Value.bool u_5 fun v_6 =>
 IfB (!v_6) (
  R (.tuple #[]) w_2) (
  Ix data0 (IntKind.i64.wrap (first3 + child9)) fun p_7 =>
  Ld (Value.int .i64) (some (p_7.add ((IntKind.i64.wrap (first3 + child9)).toNat * 1))) (World.drew w_2) fun v_8 =>
  Ix data0 (IntKind.i64.wrap (first3 + root8)) fun p_9 =>
  Ld (Value.int .i64) (some (p_9.add ((IntKind.i64.wrap (first3 + root8)).toNat * 1))) (World.drew w_2) fun v_10 =>
  Ix data0 (IntKind.i64.wrap (first3 + root8)) fun p_11 =>
  St (some (p_11.add ((IntKind.i64.wrap (first3 + root8)).toNat * 1))) (.int .i64 v_8) (World.drew w_2) fun w_4 =>
  Ix data0 (IntKind.i64.wrap (first3 + child9)) fun p_12 =>
  St (some (p_12.add ((IntKind.i64.wrap (first3 + child9)).toNat * 1))) (.int .i64 v_10) w_4 fun w_5 =>
  ag1 (data0, hi2, first3, child9) w_5)
def f247_k2 (R : Value → World → Prop) (ag1 : (Sl × Int × Int × Int) → World → Prop) (data0 : Sl) (hi2 : Int) (first3 : Int) (root8 : Int) (child9 : Int) (t36 : Bool) (w : World) : Prop :=
 IfB t36 (
  f247_k1 R ag1 data0 hi2 first3 root8 (IntKind.i64.wrap (child9 + 1)) w) (
  f247_k1 R ag1 data0 hi2 first3 root8 child9 w)
def f247_b0 (R : Value → World → Prop) (ag1 : (Sl × Int × Int × Int) → World → Prop) (data0 : Sl) (hi2 : Int) (first3 : Int) (root8 : Int) (w : World) : Prop :=
 IfB (decide (hi2 ≤ (IntKind.i64.wrap ((IntKind.i64.wrap (2 * root8)) + 1)))) (
  R (.tuple #[]) w) (
  IfB (decide ((IntKind.i64.wrap ((IntKind.i64.wrap ((IntKind.i64.wrap (2 * root8)) + 1)) + 1)) < hi2)) (
   Ix data0 (IntKind.i64.wrap (first3 + (IntKind.i64.wrap ((IntKind.i64.wrap (2 * root8)) + 1)))) fun p_13 =>
   Ld (Value.int .i64) (some (p_13.add ((IntKind.i64.wrap (first3 + (IntKind.i64.wrap ((IntKind.i64.wrap (2 * root8)) + 1)))).toNat * 1))) (World.drew w) fun v_14 =>
   Ix data0 (IntKind.i64.wrap ((IntKind.i64.wrap (first3 + (IntKind.i64.wrap ((IntKind.i64.wrap (2 * root8)) + 1)))) + 1)) fun p_15 =>
   Ld (Value.int .i64) (some (p_15.add ((IntKind.i64.wrap ((IntKind.i64.wrap (first3 + (IntKind.i64.wrap ((IntKind.i64.wrap (2 * root8)) + 1)))) + 1)).toNat * 1))) (World.drew w) fun v_16 =>
   CallF Try.prog 225 #[(.int .i64 v_14), (.int .i64 v_16)] (World.drew w) fun u_17 w_7 => As Value.bool u_17 fun v_18 =>
   f247_k2 R ag1 data0 hi2 first3 root8 (IntKind.i64.wrap ((IntKind.i64.wrap (2 * root8)) + 1)) v_18 w_7) (
   f247_k2 R ag1 data0 hi2 first3 root8 (IntKind.i64.wrap ((IntKind.i64.wrap (2 * root8)) + 1)) false (World.drew w)))
def f247 (R : Value → World → Prop) (data0 : Sl) (lo1 : Int) (hi2 : Int) (first3 : Int) (w : World) : Prop :=
 Lp (fun ag (s : Sl × Int × Int × Int) w => f247_b0 R ag s.1 s.2.1 s.2.2.1 s.2.2.2 w) (data0, hi2, first3, lo1) w
theorem f247_ok (R : Value → World → Prop) (data0 : Sl) (lo1 : Int) (hi2 : Int) (first3 : Int) (w : World) (H : f247 R data0 lo1 hi2 first3 w) : CallF Try.prog 247 #[(Sl.v data0), (.int .i64 lo1), (.int .i64 hi2), (.int .i64 first3)] w R := by
 refine calls_of_runs (fn := Try.f247) Try.func247 rfl (Nat.le_of_ble_eq_true rfl) ?_
 show Runs _ _ 76 _ _ _ _
 unfold f247 at H
 refine ru4 0 (Sl.v data0) 1 (I lo1) 2 (I hi2) 3 (I first3) rfl rfl rfl rfl ?_
 refine sr ?_
 refine xm (I lo1) rfl rfl ?_
 refine xs (I lo1) rfl rfl ?_
 refine xe ?_
 refine r_block ?_
 refine ru4 0 (Sl.v data0) 2 (I hi2) 3 (I first3) 8 (I lo1) rfl rfl rfl rfl ?_
 refine r_loopJ (fun (s : Sl × Int × Int × Int) σ => upd 8 (I s.2.2.2) (upd 3 (I s.2.2.1) (upd 2 (I s.2.1) (upd 0 (Sl.v s.1) (σ))))) (s := (data0, hi2, first3, lo1)) H ?_
 clear H
 rintro ag1 ⟨data0, hi2, first3, root8⟩ σ w H hag1
 replace H : f247_b0 R ag1 data0 hi2 first3 root8 w := H
 try dsimp only
 unfold f247_b0 at H
 refine r_block ?_
 refine sr ?_
 refine xm (I root8) rfl rfl ?_
 refine xp _ rfl (p_mul rfl rfl rfl) ?_
 refine xp _ rfl (p_add rfl rfl rfl) ?_
 refine xs (I (W ((W (2 * root8)) + 1))) rfl rfl ?_
 refine xe ?_
 refine r_seq ?_
 refine sr ?_
 refine xm (I (W ((W (2 * root8)) + 1))) rfl rfl ?_
 refine xm (I hi2) rfl rfl ?_
 refine xp _ rfl (p_ge rfl rfl rfl) ?_
 refine xe ?_
 refine r_condB (b := (decide (hi2 ≤ (W ((W (2 * root8)) + 1))))) rfl H ?_ ?_
 ·clear H; intro hb2 H
  refine r_exit rfl ?_
  exact r_end (fn := Try.f247) Try.func247 (res_0 rfl ) H
 ·clear H; intro hb2 H
  refine r_skip ?_
  refine r_seqJ (fun (s : Sl × Int × Int × Int × Int) σ => upd 9 (I s.2.2.2.2) (upd 8 (I s.2.2.2.1) (upd 3 (I s.2.2.1) (upd 2 (I s.2.1) (upd 0 (Sl.v s.1) (σ)))))) (fun (s : Sl × Int × Int × Int × Int) w => f247_k1 R ag1 s.1 s.2.1 s.2.2.1 s.2.2.2.1 s.2.2.2.2 w) ?_ ?_
  ·rintro ⟨data0, hi2, first3, root8, child9⟩ σ w H
   replace H : f247_k1 R ag1 data0 hi2 first3 root8 child9 w := H
   try dsimp only
   unfold f247_k1 at H
   refine r_seq ?_
   refine r_seq ?_
   refine r_draw #[[], [], [], [1, 2], [0, 1, 2, 3], [0, 1, 2, 3, 4], [], [], [], [7, 8], [6, 7, 8, 9], [6, 7, 8, 9, 10], [0, 1, 2, 3, 4, 5, 6, 7, 8, 9, 10, 11], [0, 1, 2, 3, 4, 5, 6, 7, 8, 9, 10, 11, 12]] 14 rfl rfl ?_
   refine am 0 (Sl.v data0) rfl rfl rfl ?_
   refine am 1 (I first3) rfl rfl rfl ?_
   refine am 2 (I root8) rfl rfl rfl ?_
   refine ap 3 _ rfl rfl (p_add rfl rfl rfl) ?_
   obtain ⟨p_1, hap_1, hlp_1, hup_1, H⟩ := H
   refine ap 4 _ rfl rfl (p_indexAddr (s := data0) (ad := p_1) (size := 1) rfl u184 Try.ti3 rfl rfl hap_1 hlp_1 hup_1) ?_
   obtain ⟨adv_2, v_2, hev_2, hcv_2, H⟩ := H
   refine ar 5 (I v_2) rfl rfl (wo rfl) rfl u3 rfl rfl hev_2 hcv_2 ?_
   refine am 6 (Sl.v data0) rfl rfl rfl ?_
   refine am 7 (I first3) rfl rfl rfl ?_
   refine am 8 (I child9) rfl rfl rfl ?_
   refine ap 9 _ rfl rfl (p_add rfl rfl rfl) ?_
   obtain ⟨p_3, hap_3, hlp_3, hup_3, H⟩ := H
   refine ap 10 _ rfl rfl (p_indexAddr (s := data0) (ad := p_3) (size := 1) rfl u184 Try.ti3 rfl rfl hap_3 hlp_3 hup_3) ?_
   obtain ⟨adv_4, v_4, hev_4, hcv_4, H⟩ := H
   refine ar 11 (I v_4) rfl rfl (wo rfl) rfl u3 rfl rfl hev_4 hcv_4 ?_
   refine ae 12 [] rfl rfl rfl (wo rfl) (e_call (fn := Try.f225) H rfl rfl Try.func225 rfl rfl rfl) ?_
   rintro _ w_2 ⟨v_6, rfl, H⟩
   refine ⟨AllHeld.nil, ?_⟩
   refine ap 13 (.bool (!v_6)) rfl rfl (p_not rfl rfl) ?_
   refine ax ?_
   refine r_condB (b := (!v_6)) rfl H ?_ ?_
   ·clear H; intro hb4 H
    exact r_ret (fn := Try.f247) Try.func247 (res_0 rfl ) H
   ·clear H; intro hb4 H
    refine r_skip ?_
    refine r_seq ?_
    refine r_draw #[[], [], [], [1, 2], [], [], [], [5, 6], [], [], [], [9, 10], [8, 9, 10, 11], [8, 9, 10, 11, 12], [], [], [], [15, 16], [14, 15, 16, 17], [14, 15, 16, 17, 18], [0, 1, 2, 3, 8, 9, 10, 11, 12, 13, 14, 15, 16, 17, 18, 19], [0, 1, 2, 3, 8, 9, 10, 11, 12, 13, 14, 15, 16, 17, 18, 19, 20], [0, 1, 2, 3, 4, 5, 6, 7, 8, 9, 10, 11, 12, 13, 14, 15, 16, 17, 18, 19, 20, 21], [0, 1, 2, 3, 4, 5, 6, 7, 8, 9, 10, 11, 12, 13, 14, 15, 16, 17, 18, 19, 20, 21, 22]] 24 rfl rfl ?_
    refine am 0 (Sl.v data0) rfl rfl rfl ?_
    refine am 1 (I first3) rfl rfl rfl ?_
    refine am 2 (I root8) rfl rfl rfl ?_
    refine ap 3 _ rfl rfl (p_add rfl rfl rfl) ?_
    refine am 4 (Sl.v data0) rfl rfl rfl ?_
    refine am 5 (I first3) rfl rfl rfl ?_
    refine am 6 (I child9) rfl rfl rfl ?_
    refine ap 7 _ rfl rfl (p_add rfl rfl rfl) ?_
    refine am 8 (Sl.v data0) rfl rfl rfl ?_
    refine am 9 (I first3) rfl rfl rfl ?_
    refine am 10 (I child9) rfl rfl rfl ?_
    refine ap 11 _ rfl rfl (p_add rfl rfl rfl) ?_
    obtain ⟨p_7, hap_7, hlp_7, hup_7, H⟩ := H
    refine ap 12 _ rfl rfl (p_indexAddr (s := data0) (ad := p_7) (size := 1) rfl u184 Try.ti3 rfl rfl hap_7 hlp_7 hup_7) ?_
    obtain ⟨adv_8, v_8, hev_8, hcv_8, H⟩ := H
    refine ar 13 (I v_8) rfl rfl (wo rfl) rfl u3 rfl rfl hev_8 hcv_8 ?_
    refine am 14 (Sl.v data0) rfl rfl rfl ?_
    refine am 15 (I first3) rfl rfl rfl ?_
    refine am 16 (I root8) rfl rfl rfl ?_
    refine ap 17 _ rfl rfl (p_add rfl rfl rfl) ?_
    obtain ⟨p_9, hap_9, hlp_9, hup_9, H⟩ := H
    refine ap 18 _ rfl rfl (p_indexAddr (s := data0) (ad := p_9) (size := 1) rfl u184 Try.ti3 rfl rfl hap_9 hlp_9 hup_9) ?_
    obtain ⟨adv_10, v_10, hev_10, hcv_10, H⟩ := H
    refine ar 19 (I v_10) rfl rfl (wo rfl) rfl u3 rfl rfl hev_10 hcv_10 ?_
    obtain ⟨p_11, hap_11, hlp_11, hup_11, H⟩ := H
    refine ap 20 _ rfl rfl (p_indexAddr (s := data0) (ad := p_11) (size := 1) rfl u184 Try.ti3 rfl rfl hap_11 hlp_11 hup_11) ?_
    refine an 21 rfl rfl rfl (wo rfl) (e_store rfl Try.ti3 rfl rfl rfl H) fun _ w_4 H => ?_
    obtain ⟨p_12, hap_12, hlp_12, hup_12, H⟩ := H
    refine ap 22 _ rfl rfl (p_indexAddr (s := data0) (ad := p_12) (size := 1) rfl u184 Try.ti3 rfl rfl hap_12 hlp_12 hup_12) ?_
    refine an 23 rfl rfl rfl (wo rfl) (e_store rfl Try.ti3 rfl rfl rfl H) fun _ w_5 H => ?_
    refine ax ?_
    refine r_region ?_
    refine xm (I child9) rfl rfl ?_
    refine xs (I child9) rfl rfl ?_
    refine xe ?_
    refine r_inBlock ?_
    refine ru4 0 (Sl.v data0) 2 (I hi2) 3 (I first3) 8 (I child9) rfl rfl rfl rfl ?_
    exact hag1 (data0, hi2, first3, child9) _ _ H
  ·intro J3
   refine r_seq ?_
   refine r_topJ (fun (s : Sl × Int × Int × Int × Int × Bool) σ => upd 36 (.bool s.2.2.2.2.2) (upd 9 (I s.2.2.2.2.1) (upd 8 (I s.2.2.2.1) (upd 3 (I s.2.2.1) (upd 2 (I s.2.1) (upd 0 (Sl.v s.1) (σ))))))) (fun (s : Sl × Int × Int × Int × Int × Bool) w => f247_k2 R ag1 s.1 s.2.1 s.2.2.1 s.2.2.2.1 s.2.2.2.2.1 s.2.2.2.2.2 w) ?_ ?_
   ·rintro ⟨data0, hi2, first3, root8, child9, t36⟩ σ w H
    replace H : f247_k2 R ag1 data0 hi2 first3 root8 child9 t36 w := H
    try dsimp only
    unfold f247_k2 at H
    refine r_condB (b := t36) rfl H ?_ ?_
    ·clear H; intro hb6 H
     refine r_region ?_
     refine xm (I child9) rfl rfl ?_
     refine xp _ rfl (p_add rfl rfl rfl) ?_
     refine xs (I (W (child9 + 1))) rfl rfl ?_
     refine xe ?_
     refine ru4 0 (Sl.v data0) 2 (I hi2) 3 (I first3) 8 (I root8) rfl rfl rfl rfl ?_
     refine ru 9 (I (W (child9 + 1))) rfl ?_
     exact J3 (data0, hi2, first3, root8, (W (child9 + 1))) _ _ H
    ·clear H; intro hb6 H
     refine r_skip ?_
     refine ru4 0 (Sl.v data0) 2 (I hi2) 3 (I first3) 8 (I root8) rfl rfl rfl rfl ?_
     refine ru 9 (I child9) rfl ?_
     exact J3 (data0, hi2, first3, root8, child9) _ _ H
   ·intro J5
    refine r_draw #[[], [0], [], [0, 1, 2], [0, 1, 2, 3], [0, 1, 2, 3, 4], [0, 1, 2, 3, 4], [0, 1, 2, 3, 4], [0, 1, 2, 3, 4, 6, 7], [0, 1, 2, 3, 4, 5, 6, 7, 8], [0, 1, 2, 3, 4, 5, 6, 7, 8, 9], [0, 1, 2, 3, 4], [0, 1, 2, 3, 4], [0, 1, 2, 3, 4], [0, 1, 2, 3, 4, 12, 13], [0, 1, 2, 3, 4, 12, 13, 14], [0, 1, 2, 3, 4, 11, 12, 13, 14, 15], [0, 1, 2, 3, 4, 11, 12, 13, 14, 15, 16], [0, 1, 2, 3, 4, 5, 6, 7, 8, 9, 10, 11, 12, 13, 14, 15, 16, 17], [0, 1, 2, 3, 4, 5, 6, 7, 8, 9, 10, 11, 12, 13, 14, 15, 16, 17, 18]] 20 rfl rfl ?_
    refine am 0 (I (W ((W (2 * root8)) + 1))) rfl rfl rfl ?_
    refine ap 1 _ rfl rfl (p_add rfl rfl rfl) ?_
    refine am 2 (I hi2) rfl rfl rfl ?_
    refine ap 3 _ rfl rfl (p_lt rfl rfl rfl) ?_
    refine am 4 (.bool (decide ((W ((W ((W (2 * root8)) + 1)) + 1)) < hi2))) rfl rfl rfl ?_
    refine ifB_cases H ?_ ?_
    ·clear H; intro hb7 H
     refine ay 5 (Sl.v data0) rfl rfl (wy 21 rfl rfl rfl hb7) (p_move rfl rfl) ?_
     refine ay 6 (I first3) rfl rfl (wy 21 rfl rfl rfl hb7) (p_move rfl rfl) ?_
     refine ay 7 (I (W ((W (2 * root8)) + 1))) rfl rfl (wy 21 rfl rfl rfl hb7) (p_move rfl rfl) ?_
     refine ay 8 (I (W (first3 + (W ((W (2 * root8)) + 1))))) rfl rfl (wy 21 rfl rfl rfl hb7) (p_add rfl rfl rfl) ?_
     obtain ⟨p_13, hap_13, hlp_13, hup_13, H⟩ := H
     refine ay 9 (.pointer (some (p_13.add ((W (first3 + (W ((W (2 * root8)) + 1)))).toNat * 1)))) rfl rfl (wy 21 rfl rfl rfl hb7) (p_indexAddr (s := data0) (ad := p_13) (size := 1) rfl u184 Try.ti3 rfl rfl hap_13 hlp_13 hup_13) ?_
     obtain ⟨adv_14, v_14, hev_14, hcv_14, H⟩ := H
     refine ar 10 (I v_14) rfl rfl (wy 21 rfl rfl rfl hb7) rfl u3 rfl rfl hev_14 hcv_14 ?_
     refine ay 11 (Sl.v data0) rfl rfl (wy 21 rfl rfl rfl hb7) (p_move rfl rfl) ?_
     refine ay 12 (I first3) rfl rfl (wy 21 rfl rfl rfl hb7) (p_move rfl rfl) ?_
     refine ay 13 (I (W ((W (2 * root8)) + 1))) rfl rfl (wy 21 rfl rfl rfl hb7) (p_move rfl rfl) ?_
     refine ay 14 (I (W (first3 + (W ((W (2 * root8)) + 1))))) rfl rfl (wy 21 rfl rfl rfl hb7) (p_add rfl rfl rfl) ?_
     refine ay 15 (I (W ((W (first3 + (W ((W (2 * root8)) + 1)))) + 1))) rfl rfl (wy 21 rfl rfl rfl hb7) (p_add rfl rfl rfl) ?_
     obtain ⟨p_15, hap_15, hlp_15, hup_15, H⟩ := H
     refine ay 16 (.pointer (some (p_15.add ((W ((W (first3 + (W ((W (2 * root8)) + 1)))) + 1)).toNat * 1)))) rfl rfl (wy 21 rfl rfl rfl hb7) (p_indexAddr (s := data0) (ad := p_15) (size := 1) rfl u184 Try.ti3 rfl rfl hap_15 hlp_15 hup_15) ?_
     obtain ⟨adv_16, v_16, hev_16, hcv_16, H⟩ := H
     refine ar 17 (I v_16) rfl rfl (wy 21 rfl rfl rfl hb7) rfl u3 rfl rfl hev_16 hcv_16 ?_
     refine ae 18 [] rfl rfl rfl (wy 21 rfl rfl rfl hb7) (e_call (fn := Try.f225) H rfl rfl Try.func225 rfl rfl rfl) ?_
     rintro _ w_7 ⟨v_18, rfl, H⟩
     refine ⟨AllHeld.nil, ?_⟩
     refine ap 19 (.bool v_18) rfl rfl (p_pickT rfl rfl hb7 rfl) ?_
     refine ax ?_
     refine ru4 0 (Sl.v data0) 2 (I hi2) 3 (I first3) 8 (I root8) rfl rfl rfl rfl ?_
     refine ru2 9 (I (W ((W (2 * root8)) + 1))) 36 (.bool v_18) rfl rfl ?_
     exact J5 (data0, hi2, first3, root8, (W ((W (2 * root8)) + 1)), v_18) _ _ H
    ·clear H; intro hb7 H
     refine ak 5 rfl rfl (wn 21 rfl rfl rfl hb7) ?_
     refine ak 6 rfl rfl (wn 21 rfl rfl rfl hb7) ?_
     refine ak 7 rfl rfl (wn 21 rfl rfl rfl hb7) ?_
     refine ak 8 rfl rfl (wn 21 rfl rfl rfl hb7) ?_
     refine ak 9 rfl rfl (wn 21 rfl rfl rfl hb7) ?_
     refine ak 10 rfl rfl (wn 21 rfl rfl rfl hb7) ?_
     refine ak 11 rfl rfl (wn 21 rfl rfl rfl hb7) ?_
     refine ak 12 rfl rfl (wn 21 rfl rfl rfl hb7) ?_
     refine ak 13 rfl rfl (wn 21 rfl rfl rfl hb7) ?_
     refine ak 14 rfl rfl (wn 21 rfl rfl rfl hb7) ?_
     refine ak 15 rfl rfl (wn 21 rfl rfl rfl hb7) ?_
     refine ak 16 rfl rfl (wn 21 rfl rfl rfl hb7) ?_
     refine ak 17 rfl rfl (wn 21 rfl rfl rfl hb7) ?_
     refine ak 18 rfl rfl (wn 21 rfl rfl rfl hb7) ?_
     refine ap 19 (.bool false) rfl rfl (p_pickF rfl rfl hb7 rfl) ?_
     refine ax ?_
     refine ru4 0 (Sl.v data0) 2 (I hi2) 3 (I first3) 8 (I root8) rfl rfl rfl rfl ?_
     refine ru2 9 (I (W ((W (2 * root8)) + 1))) 36 (.bool false) rfl rfl ?_
     exact J5 (data0, hi2, first3, root8, (W ((W (2 * root8)) + 1)), false) _ _ H

/-! 248 slices.medianAdjacentOrdered[int] -/
def f248 (R : Value → World → Prop) (data0 : Sl) (a1 : Int) (swaps2 : Option Addr) (w : World) : Prop :=
 CallF Try.prog 249 #[(Sl.v data0), (.int .i64 (IntKind.i64.wrap (a1 - 1))), (.int .i64 a1), (.int .i64 (IntKind.i64.wrap (a1 + 1))), (.pointer swaps2)] w fun u_1 w_1 => As (Value.int .i64) u_1 fun v_2 =>
 R (.int .i64 v_2) w_1
theorem f248_ok (R : Value → World → Prop) (data0 : Sl) (a1 : Int) (swaps2 : Option Addr) (w : World) (H : f248 R data0 a1 swaps2 w) : CallF Try.prog 248 #[(Sl.v data0), (.int .i64 a1), (.pointer swaps2)] w R := by
 refine calls_of_runs (fn := Try.f248) Try.func248 rfl (Nat.le_of_ble_eq_true rfl) ?_
 show Runs _ _ 15 _ _ _ _
 unfold f248 at H
 refine ru3 0 (Sl.v data0) 1 (I a1) 2 (.pointer swaps2) rfl rfl rfl ?_
 refine sr ?_
 refine xs (I 0) rfl rfl ?_
 refine xe ?_
 refine sr ?_
 refine xm (Sl.v data0) rfl rfl ?_
 refine xm (I a1) rfl rfl ?_
 refine xp _ rfl (p_sub rfl rfl rfl) ?_
 refine xm (I a1) rfl rfl ?_
 refine xm (I a1) rfl rfl ?_
 refine xp _ rfl (p_add rfl rfl rfl) ?_
 refine xm (.pointer swaps2) rfl rfl ?_
 refine xo_eff rfl (wo rfl) (e_call (fn := Try.f249) H rfl rfl Try.func249 rfl rfl rfl) ?_
 rintro _ w_1 ⟨v_2, rfl, H⟩
 refine xs (I v_2) rfl rfl ?_
 refine xe ?_
 exact r_ret (fn := Try.f248) Try.func248 (res_1 rfl ⟨by decide, rfl⟩) H

/-! 249 slices.medianOrdered[int] -/
def f249 (R : Value → World → Prop) (data0 : Sl) (a1 : Int) (b2 : Int) (c3 : Int) (swaps4 : Option Addr) (w : World) : Prop :=
 CallF Try.prog 257 #[(Sl.v data0), (.int .i64 a1), (.int .i64 b2), (.pointer swaps4)] w fun u_1 w_1 => AsT2 (Value.int .i64) (Value.int .i64) u_1 fun v_2 v_3 =>
 CallF Try.prog 257 #[(Sl.v data0), (.int .i64 v_3), (.int .i64 c3), (.pointer swaps4)] w_1 fun u_4 w_2 => AsT2 (Value.int .i64) (Value.int .i64) u_4 fun v_5 v_6 =>
 CallF Try.prog 257 #[(Sl.v data0), (.int .i64 v_2), (.int .i64 v_5), (.pointer swaps4)] w_2 fun u_7 w_3 => AsT2 (Value.int .i64) (Value.int .i64) u_7 fun v_8 v_9 =>
 R (.int .i64 v_9) w_3
theorem f249_ok (R : Value → World → Prop) (data0 : Sl) (a1 : Int) (b2 : Int) (c3 : Int) (swaps4 : Option Addr) (w : World) (H : f249 R data0 a1 b2 c3 swaps4 w) : CallF Try.prog 249 #[(Sl.v data0), (.int .i64 a1), (.int .i64 b2), (.int .i64 c3), (.pointer swaps4)] w R := by
 refine calls_of_runs (fn := Try.f249) Try.func249 rfl (Nat.le_of_ble_eq_true rfl) ?_
 show Runs _ _ 36 _ _ _ _
 unfold f249 at H
 refine ru4 0 (Sl.v data0) 1 (I a1) 2 (I b2) 3 (I c3) rfl rfl rfl rfl ?_
 refine ru 4 (.pointer swaps4) rfl ?_
 refine sr ?_
 refine xs (I 0) rfl rfl ?_
 refine xe ?_
 refine sr ?_
 refine xm (Sl.v data0) rfl rfl ?_
 refine xm (I a1) rfl rfl ?_
 refine xm (I b2) rfl rfl ?_
 refine xm (.pointer swaps4) rfl rfl ?_
 refine xo_eff rfl (wo rfl) (e_call (fn := Try.f257) H rfl rfl Try.func257 rfl rfl rfl) ?_
 rintro _ w_1 ⟨v_2, v_3, rfl, H⟩
 refine xm (.tuple #[(I v_2), (I v_3)]) rfl rfl ?_
 refine xp (I v_2) rfl (p_extract (vs := #[(I v_2), (I v_3)]) rfl rfl rfl) ?_
 refine xp (I v_3) rfl (p_extract (vs := #[(I v_2), (I v_3)]) rfl rfl rfl) ?_
 refine xs (I v_2) rfl rfl ?_
 refine xs (I v_3) rfl rfl ?_
 refine xe ?_
 refine sr ?_
 refine xm (Sl.v data0) rfl rfl ?_
 refine xm (I v_3) rfl rfl ?_
 refine xm (I c3) rfl rfl ?_
 refine xm (.pointer swaps4) rfl rfl ?_
 refine xo_eff rfl (wo rfl) (e_call (fn := Try.f257) H rfl rfl Try.func257 rfl rfl rfl) ?_
 rintro _ w_2 ⟨v_5, v_6, rfl, H⟩
 refine xm (.tuple #[(I v_5), (I v_6)]) rfl rfl ?_
 refine xp (I v_5) rfl (p_extract (vs := #[(I v_5), (I v_6)]) rfl rfl rfl) ?_
 refine xp (I v_6) rfl (p_extract (vs := #[(I v_5), (I v_6)]) rfl rfl rfl) ?_
 refine xs (I v_5) rfl rfl ?_
 refine xs (I v_6) rfl rfl ?_
 refine xe ?_
 refine sr ?_
 refine xm (Sl.v data0) rfl rfl ?_
 refine xm (I v_2) rfl rfl ?_
 refine xm (I v_5) rfl rfl ?_
 refine xm (.pointer swaps4) rfl rfl ?_
 refine xo_eff rfl (wo rfl) (e_call (fn := Try.f257) H rfl rfl Try.func257 rfl rfl rfl) ?_
 rintro _ w_3 ⟨v_8, v_9, rfl, H⟩
 refine xm (.tuple #[(I v_8), (I v_9)]) rfl rfl ?_
 refine xp (I v_8) rfl (p_extract (vs := #[(I v_8), (I v_9)]) rfl rfl rfl) ?_
 refine xp (I v_9) rfl (p_extract (vs := #[(I v_8), (I v_9)]) rfl rfl rfl) ?_
 refine xs (I v_8) rfl rfl ?_
 refine xs (I v_9) rfl rfl ?_
 refine xe ?_
 refine sr ?_
 refine xm (I v_9) rfl rfl ?_
 refine xs (I v_9) rfl rfl ?_
 refine xe ?_
 exact r_ret (fn := Try.f249) Try.func249 (res_1 rfl ⟨by decide, rfl⟩) H

/-! 250 cmp.isNaN[int] -/
def f250 (R : Value → World → Prop) (x0 : Int) (w : World) : Prop :=
 R (.bool (!decide (x0 = x0))) w
theorem f250_ok (R : Value → World → Prop) (x0 : Int) (w : World) (H : f250 R x0 w) : CallF Try.prog 250 #[(.int .i64 x0)] w R := by
 refine calls_of_runs (fn := Try.f250) Try.func250 rfl (Nat.le_of_ble_eq_true rfl) ?_
 show Runs _ _ 6 _ _ _ _
 unfold f250 at H
 refine ru 0 (I x0) rfl ?_
 refine sr ?_
 refine xs (.bool false) rfl rfl ?_
 refine xe ?_
 refine sr ?_
 refine xm (I x0) rfl rfl ?_
 refine xm (I x0) rfl rfl ?_
 refine xp _ rfl (p_ne rfl rfl rfl) ?_
 refine xs (.bool (!decide (x0 = x0))) rfl rfl ?_
 refine xe ?_
 exact r_ret (fn := Try.f250) Try.func250 (res_1 rfl ⟨by decide, rfl⟩) H

/-! 251 strings.indexFunc -/
def f251_b0 (R : Value → World → Prop) (ag1 : (Value × Bool × Value) → World → Prop) (f1 : Value) (truth2 : Bool) (t10 : Value) (w : World) : Prop :=
 Ef Try.prog (Instr.next t10 true 0) id w fun u_4 w_2 => AsNext u_4 fun vs_2 b_3 =>
 IfB b_3 (
  At (Value.int .i64) vs_2 1 fun f_5 =>
  At (Value.int .i32) vs_2 2 fun f_6 =>
  CallV Try.prog f1 #[(.int .i32 f_6)] w_2 fun u_7 w_3 => As Value.bool u_7 fun v_8 =>
  IfB (v_8 == truth2) (
   R (.int .i64 f_5) w_3) (
   ag1 (f1, truth2, t10) w_3)) (
  R (.int .i64 (-1)) w_2)
def f251 (R : Value → World → Prop) (s0 : ByteArray) (f1 : Value) (truth2 : Bool) (w : World) : Prop :=
 Ef Try.prog (Instr.range 9 (.string s0)) id w fun v_1 w_1 =>
 Lp (fun ag (s : Value × Bool × Value) w => f251_b0 R ag s.1 s.2.1 s.2.2 w) (f1, truth2, v_1) w_1
theorem f251_ok (R : Value → World → Prop) (s0 : ByteArray) (f1 : Value) (truth2 : Bool) (w : World) (H : f251 R s0 f1 truth2 w) : CallF Try.prog 251 #[(.string s0), f1, (.bool truth2)] w R := by
 refine calls_of_runs (fn := Try.f251) Try.func251 rfl (Nat.le_of_ble_eq_true rfl) ?_
 show Runs _ _ 21 _ _ _ _
 unfold f251 at H
 refine ru3 0 (.string s0) 1 f1 2 (.bool truth2) rfl rfl rfl ?_
 refine sr ?_
 refine xs (I 0) rfl rfl ?_
 refine xe ?_
 refine r_seq ?_
 refine sr ?_
 refine xm (.string s0) rfl rfl ?_
 refine xo_eff rfl (wo rfl) (e_genV (s := Instr.range 9 (.string s0)) rfl H) ?_
 intro v_1 w_1 H
 refine xe ?_
 refine r_block ?_
 refine ru3 1 f1 2 (.bool truth2) 10 v_1 rfl rfl rfl ?_
 refine r_loopJ (fun (s : Value × Bool × Value) σ => upd 10 s.2.2 (upd 2 (.bool s.2.1) (upd 1 s.1 (σ)))) (s := (f1, truth2, v_1)) H ?_
 clear H
 rintro ag1 ⟨f1, truth2, t10⟩ σ w H hag1
 replace H : f251_b0 R ag1 f1 truth2 t10 w := H
 try dsimp only
 unfold f251_b0 at H
 refine sr ?_
 refine xo_eff rfl (wo rfl) (e_genV (s := Instr.next t10 true 0) rfl H) ?_
 rintro _ w_2 ⟨vs_2, b_3, rfl, hxb_3, H⟩
 refine xp (.bool b_3) rfl (p_extract (vs := vs_2) rfl rfl hxb_3) ?_
 refine xe ?_
 refine r_seq ?_
 refine r_condB (b := b_3) rfl H ?_ ?_
 ·clear H; intro hb2 H
  refine r_skip ?_
  refine r_block ?_
  refine sr ?_
  obtain ⟨f_5, hff_5, H⟩ := H
  refine xp (I f_5) rfl (p_extract (vs := vs_2) rfl rfl hff_5) ?_
  obtain ⟨f_6, hff_6, H⟩ := H
  refine xp (.int .i32 f_6) rfl (p_extract (vs := vs_2) rfl rfl hff_6) ?_
  refine xs (I f_5) rfl rfl ?_
  refine xs (.int .i32 f_6) rfl rfl ?_
  refine xe ?_
  refine sr ?_
  refine xm f1 rfl rfl ?_
  refine xm (.int .i32 f_6) rfl rfl ?_
  refine xo_eff rfl (wo rfl) (e_callv H rfl rfl rfl) ?_
  rintro _ w_3 ⟨v_8, rfl, H⟩
  refine xm (.bool truth2) rfl rfl ?_
  refine xp (.bool (v_8 == truth2)) rfl (p_beq rfl u4 rfl rfl) ?_
  refine xe ?_
  refine r_condB (b := (v_8 == truth2)) rfl H ?_ ?_
  ·clear H; intro hb3 H
   refine sr ?_
   refine xm (I f_5) rfl rfl ?_
   refine xs (I f_5) rfl rfl ?_
   refine xe ?_
   exact r_ret (fn := Try.f251) Try.func251 (res_1 rfl ⟨by decide, rfl⟩) H
  ·clear H; intro hb3 H
   refine r_skip ?_
   refine r_inBlock ?_
   refine ru3 1 f1 2 (.bool truth2) 10 t10 rfl rfl rfl ?_
   exact hag1 (f1, truth2, t10) _ _ H
 ·clear H; intro hb2 H
  refine r_exit rfl ?_
  refine sr ?_
  refine xs (I (-1)) rfl rfl ?_
  refine xe ?_
  exact r_ret (fn := Try.f251) Try.func251 (res_1 rfl ⟨by decide, rfl⟩) H

/-! 256 slices.order2Ordered[string] -/
def f256 (R : Value → World → Prop) (data0 : Sl) (a1 : Int) (b2 : Int) (swaps3 : Option Addr) (w : World) : Prop :=
 Ix data0 b2 fun p_1 =>
 Ld Value.string (some (p_1.add (b2.toNat * 1))) (World.drew w) fun v_2 =>
 Ix data0 a1 fun p_3 =>
 Ld Value.string (some (p_3.add (a1.toNat * 1))) (World.drew w) fun v_4 =>
 CallF Try.prog 214 #[(.string v_2), (.string v_4)] (World.drew w) fun u_5 w_2 => As Value.bool u_5 fun v_6 =>
 IfB v_6 (
  NotNil swaps3 fun p_7 =>
  Ld (Value.int .i64) (some p_7) w_2 fun v_8 =>
  NotNil swaps3 fun p_9 =>
  St (some p_9) (.int .i64 (IntKind.i64.wrap (v_8 + 1))) w_2 fun w_3 =>
  R (.tuple #[(.int .i64 b2), (.int .i64 a1)]) w_3) (
  R (.tuple #[(.int .i64 a1), (.int .i64 b2)]) w_2)
theorem f256_ok (R : Value → World → Prop) (data0 : Sl) (a1 : Int) (b2 : Int) (swaps3 : Option Addr) (w : World) (H : f256 R data0 a1 b2 swaps3 w) : CallF Try.prog 256 #[(Sl.v data0), (.int .i64 a1), (.int .i64 b2), (.pointer swaps3)] w R := by
 refine calls_of_runs (fn := Try.f256) Try.func256 rfl (Nat.le_of_ble_eq_true rfl) ?_
 show Runs _ _ 28 _ _ _ _
 unfold f256 at H
 refine ru4 0 (Sl.v data0) 1 (I a1) 2 (I b2) 3 (.pointer swaps3) rfl rfl rfl rfl ?_
 refine sr ?_
 refine xs (I 0) rfl rfl ?_
 refine xs (I 0) rfl rfl ?_
 refine xe ?_
 refine r_seq ?_
 refine r_seq ?_
 refine r_draw #[[], [], [0, 1], [0, 1, 2], [], [], [4, 5], [4, 5, 6], [0, 1, 2, 3, 4, 5, 6, 7]] 9 rfl rfl ?_
 refine am 0 (Sl.v data0) rfl rfl rfl ?_
 refine am 1 (I b2) rfl rfl rfl ?_
 obtain ⟨p_1, hap_1, hlp_1, hup_1, H⟩ := H
 refine ap 2 _ rfl rfl (p_indexAddr (s := data0) (ad := p_1) (size := 1) rfl u71 Try.ti9 rfl rfl hap_1 hlp_1 hup_1) ?_
 obtain ⟨adv_2, v_2, hev_2, hcv_2, H⟩ := H
 refine ar 3 (.string v_2) rfl rfl (wo rfl) rfl u9 rfl rfl hev_2 hcv_2 ?_
 refine am 4 (Sl.v data0) rfl rfl rfl ?_
 refine am 5 (I a1) rfl rfl rfl ?_
 obtain ⟨p_3, hap_3, hlp_3, hup_3, H⟩ := H
 refine ap 6 _ rfl rfl (p_indexAddr (s := data0) (ad := p_3) (size := 1) rfl u71 Try.ti9 rfl rfl hap_3 hlp_3 hup_3) ?_
 obtain ⟨adv_4, v_4, hev_4, hcv_4, H⟩ := H
 refine ar 7 (.string v_4) rfl rfl (wo rfl) rfl u9 rfl rfl hev_4 hcv_4 ?_
 refine ae 8 [] rfl rfl rfl (wo rfl) (e_call (fn := Try.f214) H rfl rfl Try.func214 rfl rfl rfl) ?_
 rintro _ w_2 ⟨v_6, rfl, H⟩
 refine ⟨AllHeld.nil, ?_⟩
 refine ax ?_
 refine r_condB (b := v_6) rfl H ?_ ?_
 ·clear H; intro hb1 H
  refine sr ?_
  refine xm (.pointer swaps3) rfl rfl ?_
  obtain ⟨p_7, hpp_7, H⟩ := H
  refine xp (.pointer (some p_7)) rfl (p_nilCheck rfl rfl hpp_7) ?_
  obtain ⟨adv_8, v_8, hev_8, hcv_8, H⟩ := H
  refine xr (I v_8) rfl (wo rfl) rfl u3 rfl rfl hev_8 hcv_8 ?_
  refine xp _ rfl (p_add rfl rfl rfl) ?_
  obtain ⟨p_9, hpp_9, H⟩ := H
  refine xp (.pointer (some p_9)) rfl (p_nilCheck rfl rfl hpp_9) ?_
  refine xo_effN rfl (wo rfl) (e_store rfl Try.ti3 rfl rfl rfl H) ?_
  intro _ w_3 H
  refine xe ?_
  refine sr ?_
  refine xm (I b2) rfl rfl ?_
  refine xm (I a1) rfl rfl ?_
  refine xs (I b2) rfl rfl ?_
  refine xs (I a1) rfl rfl ?_
  refine xe ?_
  exact r_ret (fn := Try.f256) Try.func256 (res_2 rfl ⟨by decide, rfl⟩ ⟨by decide, rfl⟩) H
 ·clear H; intro hb1 H
  refine r_skip ?_
  refine sr ?_
  refine xm (I a1) rfl rfl ?_
  refine xm (I b2) rfl rfl ?_
  refine xs (I a1) rfl rfl ?_
  refine xs (I b2) rfl rfl ?_
  refine xe ?_
  exact r_ret (fn := Try.f256) Try.func256 (res_2 rfl ⟨by decide, rfl⟩ ⟨by decide, rfl⟩) H

/-! 257 slices.order2Ordered[int] -/
def f257 (R : Value → World → Prop) (data0 : Sl) (a1 : Int) (b2 : Int) (swaps3 : Option Addr) (w : World) : Prop :=
 Ix data0 b2 fun p_1 =>
 Ld (Value.int .i64) (some (p_1.add (b2.toNat * 1))) (World.drew w) fun v_2 =>
 Ix data0 a1 fun p_3 =>
 Ld (Value.int .i64) (some (p_3.add (a1.toNat * 1))) (World.drew w) fun v_4 =>
 CallF Try.prog 225 #[(.int .i64 v_2), (.int .i64 v_4)] (World.drew w) fun u_5 w_2 => As Value.bool u_5 fun v_6 =>
 IfB v_6 (
  NotNil swaps3 fun p_7 =>
  Ld (Value.int .i64) (some p_7) w_2 fun v_8 =>
  NotNil swaps3 fun p_9 =>
  St (some p_9) (.int .i64 (IntKind.i64.wrap (v_8 + 1))) w_2 fun w_3 =>
  R (.tuple #[(.int .i64 b2), (.int .i64 a1)]) w_3) (
  R (.tuple #[(.int .i64 a1), (.int .i64 b2)]) w_2)
theorem f257_ok (R : Value → World → Prop) (data0 : Sl) (a1 : Int) (b2 : Int) (swaps3 : Option Addr) (w : World) (H : f257 R data0 a1 b2 swaps3 w) : CallF Try.prog 257 #[(Sl.v data0), (.int .i64 a1), (.int .i64 b2), (.pointer swaps3)] w R := by
 refine calls_of_runs (fn := Try.f257) Try.func257 rfl (Nat.le_of_ble_eq_true rfl) ?_
 show Runs _ _ 28 _ _ _ _
 unfold f257 at H
 refine ru4 0 (Sl.v data0) 1 (I a1) 2 (I b2) 3 (.pointer swaps3) rfl rfl rfl rfl ?_
 refine sr ?_
 refine xs (I 0) rfl rfl ?_
 refine xs (I 0) rfl rfl ?_
 refine xe ?_
 refine r_seq ?_
 refine r_seq ?_
 refine r_draw #[[], [], [0, 1], [0, 1, 2], [], [], [4, 5], [4, 5, 6], [0, 1, 2, 3, 4, 5, 6, 7]] 9 rfl rfl ?_
 refine am 0 (Sl.v data0) rfl rfl rfl ?_
 refine am 1 (I b2) rfl rfl rfl ?_
 obtain ⟨p_1, hap_1, hlp_1, hup_1, H⟩ := H
 refine ap 2 _ rfl rfl (p_indexAddr (s := data0) (ad := p_1) (size := 1) rfl u184 Try.ti3 rfl rfl hap_1 hlp_1 hup_1) ?_
 obtain ⟨adv_2, v_2, hev_2, hcv_2, H⟩ := H
 refine ar 3 (I v_2) rfl rfl (wo rfl) rfl u3 rfl rfl hev_2 hcv_2 ?_
 refine am 4 (Sl.v data0) rfl rfl rfl ?_
 refine am 5 (I a1) rfl rfl rfl ?_
 obtain ⟨p_3, hap_3, hlp_3, hup_3, H⟩ := H
 refine ap 6 _ rfl rfl (p_indexAddr (s := data0) (ad := p_3) (size := 1) rfl u184 Try.ti3 rfl rfl hap_3 hlp_3 hup_3) ?_
 obtain ⟨adv_4, v_4, hev_4, hcv_4, H⟩ := H
 refine ar 7 (I v_4) rfl rfl (wo rfl) rfl u3 rfl rfl hev_4 hcv_4 ?_
 refine ae 8 [] rfl rfl rfl (wo rfl) (e_call (fn := Try.f225) H rfl rfl Try.func225 rfl rfl rfl) ?_
 rintro _ w_2 ⟨v_6, rfl, H⟩
 refine ⟨AllHeld.nil, ?_⟩
 refine ax ?_
 refine r_condB (b := v_6) rfl H ?_ ?_
 ·clear H; intro hb1 H
  refine sr ?_
  refine xm (.pointer swaps3) rfl rfl ?_
  obtain ⟨p_7, hpp_7, H⟩ := H
  refine xp (.pointer (some p_7)) rfl (p_nilCheck rfl rfl hpp_7) ?_
  obtain ⟨adv_8, v_8, hev_8, hcv_8, H⟩ := H
  refine xr (I v_8) rfl (wo rfl) rfl u3 rfl rfl hev_8 hcv_8 ?_
  refine xp _ rfl (p_add rfl rfl rfl) ?_
  obtain ⟨p_9, hpp_9, H⟩ := H
  refine xp (.pointer (some p_9)) rfl (p_nilCheck rfl rfl hpp_9) ?_
  refine xo_effN rfl (wo rfl) (e_store rfl Try.ti3 rfl rfl rfl H) ?_
  intro _ w_3 H
  refine xe ?_
  refine sr ?_
  refine xm (I b2) rfl rfl ?_
  refine xm (I a1) rfl rfl ?_
  refine xs (I b2) rfl rfl ?_
  refine xs (I a1) rfl rfl ?_
  refine xe ?_
  exact r_ret (fn := Try.f257) Try.func257 (res_2 rfl ⟨by decide, rfl⟩ ⟨by decide, rfl⟩) H
 ·clear H; intro hb1 H
  refine r_skip ?_
  refine sr ?_
  refine xm (I a1) rfl rfl ?_
  refine xm (I b2) rfl rfl ?_
  refine xs (I a1) rfl rfl ?_
  refine xs (I b2) rfl rfl ?_
  refine xe ?_
  exact r_ret (fn := Try.f257) Try.func257 (res_2 rfl ⟨by decide, rfl⟩ ⟨by decide, rfl⟩) H
end Go.Proofs
