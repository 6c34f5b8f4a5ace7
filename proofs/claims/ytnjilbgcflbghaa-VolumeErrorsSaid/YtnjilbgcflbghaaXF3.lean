/- Laid by program. -/
import Derived.Test.YtnjilbgcflbghaaXFT
set_option linter.all false
set_option linter.unusedVariables false
set_option linter.unusedSimpArgs false
set_option maxRecDepth 20000
set_option maxHeartbeats 4000000
namespace Go.Proofs
open Go Go.X
/-! 220 slices.heapSortOrdered[int] -/
def f220_b1 (R : Value → World → Prop) (ag1 : (Sl × Int × Int × Int × Int) → World → Prop) (ag3 : (Sl × Int × Int × Int) → World → Prop) (data0 : Sl) (first6 : Int) (lo7 : Int) (i10 : Int) (w : World) : Prop :=
 IfB (decide (0 ≤ i10)) (
  Ix data0 (IntKind.i64.wrap (first6 + i10)) fun p_2 =>
  Ld (Value.int .i64) (some (p_2.add ((IntKind.i64.wrap (first6 + i10)).toNat * 1))) (World.drew w) fun v_3 =>
  Ix data0 first6 fun p_4 =>
  Ld (Value.int .i64) (some (p_4.add (first6.toNat * 1))) (World.drew w) fun v_5 =>
  Ix data0 first6 fun p_6 =>
  St (some (p_6.add (first6.toNat * 1))) (.int .i64 v_3) (World.drew w) fun w_3 =>
  Ix data0 (IntKind.i64.wrap (first6 + i10)) fun p_7 =>
  St (some (p_7.add ((IntKind.i64.wrap (first6 + i10)).toNat * 1))) (.int .i64 v_5) w_3 fun w_4 =>
  CallF Try.prog 247 #[(Sl.v data0), (.int .i64 lo7), (.int .i64 i10), (.int .i64 first6)] w_4 fun _ w_5 =>
  ag3 (data0, first6, lo7, (IntKind.i64.wrap (i10 - 1))) w_5) (
  R (.tuple #[]) w)
def f220_b0 (R : Value → World → Prop) (ag1 : (Sl × Int × Int × Int × Int) → World → Prop) (data0 : Sl) (first6 : Int) (lo7 : Int) (hi8 : Int) (i9 : Int) (w : World) : Prop :=
 IfB (decide (0 ≤ i9)) (
  CallF Try.prog 247 #[(Sl.v data0), (.int .i64 i9), (.int .i64 hi8), (.int .i64 first6)] w fun _ w_1 =>
  ag1 (data0, first6, lo7, hi8, (IntKind.i64.wrap (i9 - 1))) w_1) (
  Lp (fun ag (s : Sl × Int × Int × Int) w => f220_b1 R ag1 ag s.1 s.2.1 s.2.2.1 s.2.2.2 w) (data0, first6, lo7, (IntKind.i64.wrap (hi8 - 1))) w)
def f220 (R : Value → World → Prop) (data0 : Sl) (a1 : Int) (b2 : Int) (w : World) : Prop :=
 Lp (fun ag (s : Sl × Int × Int × Int × Int) w => f220_b0 R ag s.1 s.2.1 s.2.2.1 s.2.2.2.1 s.2.2.2.2 w) (data0, a1, 0, (IntKind.i64.wrap (b2 - a1)), (IntKind.i64.wrap (Int.tdiv (IntKind.i64.wrap ((IntKind.i64.wrap (b2 - a1)) - 1)) 2))) w
theorem f220_ok (R : Value → World → Prop) (data0 : Sl) (a1 : Int) (b2 : Int) (w : World) (H : f220 R data0 a1 b2 w) : CallF Try.prog 220 #[(Sl.v data0), (.int .i64 a1), (.int .i64 b2)] w R := by
 refine calls_of_runs (fn := Try.f220) Try.func220 rfl (Nat.le_of_ble_eq_true rfl) ?_
 show Runs _ _ 56 _ _ _ _
 unfold f220 at H
 refine ru3 0 (Sl.v data0) 1 (I a1) 2 (I b2) rfl rfl rfl ?_
 refine sr ?_
 refine xm (I a1) rfl rfl ?_
 refine xs (I a1) rfl rfl ?_
 refine xe ?_
 refine sr ?_
 refine xs (I 0) rfl rfl ?_
 refine xe ?_
 refine sr ?_
 refine xm (I b2) rfl rfl ?_
 refine xm (I a1) rfl rfl ?_
 refine xp _ rfl (p_sub rfl rfl rfl) ?_
 refine xs (I (W (b2 - a1))) rfl rfl ?_
 refine xe ?_
 refine r_seq ?_
 refine sr ?_
 refine xm (I (W (b2 - a1))) rfl rfl ?_
 refine xp _ rfl (p_sub rfl rfl rfl) ?_
 refine xp (I (W (Int.tdiv (W ((W (b2 - a1)) - 1)) 2))) rfl (p_quo rfl rfl rfl (by decide)) ?_
 refine xs (I (W (Int.tdiv (W ((W (b2 - a1)) - 1)) 2))) rfl rfl ?_
 refine xe ?_
 refine r_block ?_
 refine ru4 0 (Sl.v data0) 6 (I a1) 7 (I 0) 8 (I (W (b2 - a1))) rfl rfl rfl rfl ?_
 refine ru 9 (I (W (Int.tdiv (W ((W (b2 - a1)) - 1)) 2))) rfl ?_
 refine r_loopJ (fun (s : Sl × Int × Int × Int × Int) σ => upd 9 (I s.2.2.2.2) (upd 8 (I s.2.2.2.1) (upd 7 (I s.2.2.1) (upd 6 (I s.2.1) (upd 0 (Sl.v s.1) (σ)))))) (s := (data0, a1, 0, (W (b2 - a1)), (W (Int.tdiv (W ((W (b2 - a1)) - 1)) 2)))) H ?_
 clear H
 rintro ag1 ⟨data0, first6, lo7, hi8, i9⟩ σ w H hag1
 replace H : f220_b0 R ag1 data0 first6 lo7 hi8 i9 w := H
 try dsimp only
 unfold f220_b0 at H
 refine r_seq ?_
 refine sr ?_
 refine xm (I i9) rfl rfl ?_
 refine xp _ rfl (p_ge rfl rfl rfl) ?_
 refine xe ?_
 refine r_condB (b := (decide (0 ≤ i9))) rfl H ?_ ?_
 ·clear H; intro hb2 H
  refine r_skip ?_
  refine sb ?_
  refine r_region ?_
  refine xm (Sl.v data0) rfl rfl ?_
  refine xm (I i9) rfl rfl ?_
  refine xm (I hi8) rfl rfl ?_
  refine xm (I first6) rfl rfl ?_
  refine xo_eff rfl (wo rfl) (e_call (fn := Try.f247) H rfl rfl Try.func247 rfl rfl rfl) ?_
  intro _ w_1 H
  refine xe ?_
  refine r_inBlock ?_
  refine r_region ?_
  refine xm (I i9) rfl rfl ?_
  refine xp _ rfl (p_sub rfl rfl rfl) ?_
  refine xs (I (W (i9 - 1))) rfl rfl ?_
  refine xe ?_
  refine ru4 0 (Sl.v data0) 6 (I first6) 7 (I lo7) 8 (I hi8) rfl rfl rfl rfl ?_
  refine ru 9 (I (W (i9 - 1))) rfl ?_
  exact hag1 (data0, first6, lo7, hi8, (W (i9 - 1))) _ _ H
 ·clear H; intro hb2 H
  refine r_exit rfl ?_
  refine sr ?_
  refine xm (I hi8) rfl rfl ?_
  refine xp _ rfl (p_sub rfl rfl rfl) ?_
  refine xs (I (W (hi8 - 1))) rfl rfl ?_
  refine xe ?_
  refine r_block ?_
  refine ru4 0 (Sl.v data0) 6 (I first6) 7 (I lo7) 10 (I (W (hi8 - 1))) rfl rfl rfl rfl ?_
  refine r_loopJ (fun (s : Sl × Int × Int × Int) σ => upd 10 (I s.2.2.2) (upd 7 (I s.2.2.1) (upd 6 (I s.2.1) (upd 0 (Sl.v s.1) (σ))))) (s := (data0, first6, lo7, (W (hi8 - 1)))) H ?_
  clear H
  rintro ag3 ⟨data0, first6, lo7, i10⟩ σ w H hag3
  replace H : f220_b1 R ag1 ag3 data0 first6 lo7 i10 w := H
  try dsimp only
  unfold f220_b1 at H
  refine r_seq ?_
  refine sr ?_
  refine xm (I i10) rfl rfl ?_
  refine xp _ rfl (p_ge rfl rfl rfl) ?_
  refine xe ?_
  refine r_condB (b := (decide (0 ≤ i10))) rfl H ?_ ?_
  ·clear H; intro hb4 H
   refine r_skip ?_
   refine sb ?_
   refine r_seq ?_
   refine r_draw #[[], [], [], [], [], [3, 4], [], [], [], [7, 8], [6, 7, 8, 9], [6, 7, 8, 9, 10], [], [], [12, 13], [12, 13, 14], [0, 1, 6, 7, 8, 9, 10, 11, 12, 13, 14, 15], [0, 1, 6, 7, 8, 9, 10, 11, 12, 13, 14, 15, 16], [0, 1, 2, 3, 4, 5, 6, 7, 8, 9, 10, 11, 12, 13, 14, 15, 16, 17], [0, 1, 2, 3, 4, 5, 6, 7, 8, 9, 10, 11, 12, 13, 14, 15, 16, 17, 18]] 20 rfl rfl ?_
   refine am 0 (Sl.v data0) rfl rfl rfl ?_
   refine am 1 (I first6) rfl rfl rfl ?_
   refine am 2 (Sl.v data0) rfl rfl rfl ?_
   refine am 3 (I first6) rfl rfl rfl ?_
   refine am 4 (I i10) rfl rfl rfl ?_
   refine ap 5 _ rfl rfl (p_add rfl rfl rfl) ?_
   refine am 6 (Sl.v data0) rfl rfl rfl ?_
   refine am 7 (I first6) rfl rfl rfl ?_
   refine am 8 (I i10) rfl rfl rfl ?_
   refine ap 9 _ rfl rfl (p_add rfl rfl rfl) ?_
   obtain ⟨p_2, hap_2, hlp_2, hup_2, H⟩ := H
   refine ap 10 _ rfl rfl (p_indexAddr (s := data0) (ad := p_2) (size := 1) rfl u184 Try.ti3 rfl rfl hap_2 hlp_2 hup_2) ?_
   obtain ⟨adv_3, v_3, hev_3, hcv_3, H⟩ := H
   refine ar 11 (I v_3) rfl rfl (wo rfl) rfl u3 rfl rfl hev_3 hcv_3 ?_
   refine am 12 (Sl.v data0) rfl rfl rfl ?_
   refine am 13 (I first6) rfl rfl rfl ?_
   obtain ⟨p_4, hap_4, hlp_4, hup_4, H⟩ := H
   refine ap 14 _ rfl rfl (p_indexAddr (s := data0) (ad := p_4) (size := 1) rfl u184 Try.ti3 rfl rfl hap_4 hlp_4 hup_4) ?_
   obtain ⟨adv_5, v_5, hev_5, hcv_5, H⟩ := H
   refine ar 15 (I v_5) rfl rfl (wo rfl) rfl u3 rfl rfl hev_5 hcv_5 ?_
   obtain ⟨p_6, hap_6, hlp_6, hup_6, H⟩ := H
   refine ap 16 _ rfl rfl (p_indexAddr (s := data0) (ad := p_6) (size := 1) rfl u184 Try.ti3 rfl rfl hap_6 hlp_6 hup_6) ?_
   refine an 17 rfl rfl rfl (wo rfl) (e_store rfl Try.ti3 rfl rfl rfl H) fun _ w_3 H => ?_
   obtain ⟨p_7, hap_7, hlp_7, hup_7, H⟩ := H
   refine ap 18 _ rfl rfl (p_indexAddr (s := data0) (ad := p_7) (size := 1) rfl u184 Try.ti3 rfl rfl hap_7 hlp_7 hup_7) ?_
   refine an 19 rfl rfl rfl (wo rfl) (e_store rfl Try.ti3 rfl rfl rfl H) fun _ w_4 H => ?_
   refine ax ?_
   refine r_region ?_
   refine xm (Sl.v data0) rfl rfl ?_
   refine xm (I lo7) rfl rfl ?_
   refine xm (I i10) rfl rfl ?_
   refine xm (I first6) rfl rfl ?_
   refine xo_eff rfl (wo rfl) (e_call (fn := Try.f247) H rfl rfl Try.func247 rfl rfl rfl) ?_
   intro _ w_5 H
   refine xe ?_
   refine r_inBlock ?_
   refine r_region ?_
   refine xm (I i10) rfl rfl ?_
   refine xp _ rfl (p_sub rfl rfl rfl) ?_
   refine xs (I (W (i10 - 1))) rfl rfl ?_
   refine xe ?_
   refine ru4 0 (Sl.v data0) 6 (I first6) 7 (I lo7) 10 (I (W (i10 - 1))) rfl rfl rfl rfl ?_
   exact hag3 (data0, first6, lo7, (W (i10 - 1))) _ _ H
  ·clear H; intro hb4 H
   refine r_exit rfl ?_
   exact r_end (fn := Try.f220) Try.func220 (res_0 rfl ) H

/-! 221 slices.breakPatternsOrdered[int] -/
def f221_k1 (R : Value → World → Prop) (ag2 : (Sl × Int × Int × Option Addr × Int × Int) → World → Prop) (data0 : Sl) (a1 : Int) (length6 : Int) (random7 : Option Addr) (modulus8 : Int) (idx9 : Int) (other10 : Int) (w : World) : Prop :=
 Ix data0 (IntKind.i64.wrap (a1 + other10)) fun p_6 =>
 Ld (Value.int .i64) (some (p_6.add ((IntKind.i64.wrap (a1 + other10)).toNat * 1))) (World.drew w) fun v_7 =>
 Ix data0 idx9 fun p_8 =>
 Ld (Value.int .i64) (some (p_8.add (idx9.toNat * 1))) (World.drew w) fun v_9 =>
 Ix data0 idx9 fun p_10 =>
 St (some (p_10.add (idx9.toNat * 1))) (.int .i64 v_7) (World.drew w) fun w_6 =>
 Ix data0 (IntKind.i64.wrap (a1 + other10)) fun p_11 =>
 St (some (p_11.add ((IntKind.i64.wrap (a1 + other10)).toNat * 1))) (.int .i64 v_9) w_6 fun w_7 =>
 ag2 (data0, a1, length6, random7, modulus8, (IntKind.i64.wrap (idx9 + 1))) w_7
def f221_b0 (R : Value → World → Prop) (ag2 : (Sl × Int × Int × Option Addr × Int × Int) → World → Prop) (data0 : Sl) (a1 : Int) (length6 : Int) (random7 : Option Addr) (modulus8 : Int) (idx9 : Int) (w : World) : Prop :=
 IfB (decide (idx9 ≤ (IntKind.i64.wrap ((IntKind.i64.wrap (a1 + (IntKind.i64.wrap ((IntKind.i64.wrap (Int.tdiv length6 4)) * 2)))) + 1)))) (
  CallF Try.prog 243 #[(.pointer random7)] w fun u_4 w_4 => As (Value.int .u64) u_4 fun v_5 =>
  IfB (decide (length6 ≤ (IntKind.i64.wrap (andK .u64 v_5 (IntKind.u64.wrap (modulus8 - 1)))))) (
   f221_k1 R ag2 data0 a1 length6 random7 modulus8 idx9 (IntKind.i64.wrap ((IntKind.i64.wrap (andK .u64 v_5 (IntKind.u64.wrap (modulus8 - 1)))) - length6)) w_4) (
   f221_k1 R ag2 data0 a1 length6 random7 modulus8 idx9 (IntKind.i64.wrap (andK .u64 v_5 (IntKind.u64.wrap (modulus8 - 1)))) w_4)) (
  R (.tuple #[]) w)
def f221 (R : Value → World → Prop) (data0 : Sl) (a1 : Int) (b2 : Int) (w : World) : Prop :=
 IfB (decide (8 ≤ (IntKind.i64.wrap (b2 - a1)))) (
  New #[(.int .u64 0)] 336 w fun a_1 w_1 =>
  St (some a_1) (.int .u64 (IntKind.u64.wrap (IntKind.i64.wrap (b2 - a1)))) w_1 fun w_2 =>
  CallF Try.prog 242 #[(.int .i64 (IntKind.i64.wrap (b2 - a1)))] w_2 fun u_2 w_3 => As (Value.int .u64) u_2 fun v_3 =>
  Lp (fun ag (s : Sl × Int × Int × Option Addr × Int × Int) w => f221_b0 R ag s.1 s.2.1 s.2.2.1 s.2.2.2.1 s.2.2.2.2.1 s.2.2.2.2.2 w) (data0, a1, (IntKind.i64.wrap (b2 - a1)), (some a_1), v_3, (IntKind.i64.wrap ((IntKind.i64.wrap (a1 + (IntKind.i64.wrap ((IntKind.i64.wrap (Int.tdiv (IntKind.i64.wrap (b2 - a1)) 4)) * 2)))) - 1))) w_3) (
  R (.tuple #[]) w)
theorem f221_ok (R : Value → World → Prop) (data0 : Sl) (a1 : Int) (b2 : Int) (w : World) (H : f221 R data0 a1 b2 w) : CallF Try.prog 221 #[(Sl.v data0), (.int .i64 a1), (.int .i64 b2)] w R := by
 refine calls_of_runs (fn := Try.f221) Try.func221 rfl (Nat.le_of_ble_eq_true rfl) ?_
 show Runs _ _ 65 _ _ _ _
 unfold f221 at H
 refine ru3 0 (Sl.v data0) 1 (I a1) 2 (I b2) rfl rfl rfl ?_
 refine sr ?_
 refine xm (I b2) rfl rfl ?_
 refine xm (I a1) rfl rfl ?_
 refine xp _ rfl (p_sub rfl rfl rfl) ?_
 refine xs (I (W (b2 - a1))) rfl rfl ?_
 refine xe ?_
 refine sr ?_
 refine xm (I (W (b2 - a1))) rfl rfl ?_
 refine xp _ rfl (p_ge rfl rfl rfl) ?_
 refine xe ?_
 refine r_condB (b := (decide (8 ≤ (W (b2 - a1))))) rfl H ?_ ?_
 ·clear H; intro hb1 H
  refine sr ?_
  refine xm (I (W (b2 - a1))) rfl rfl ?_
  refine xp (.int .u64 (IntKind.u64.wrap (W (b2 - a1)))) rfl (p_conv rfl u3 u336 rfl) ?_
  refine xo_eff rfl (wo rfl) (e_alloc rfl Try.ti336 H) ?_
  rintro _ w_1 ⟨a_1, rfl, H⟩
  refine xo_effN rfl (wo rfl) (e_store rfl Try.ti336 rfl rfl rfl H) ?_
  intro _ w_2 H
  refine xe ?_
  refine sr ?_
  refine xm (I (W (b2 - a1))) rfl rfl ?_
  refine xo_eff rfl (wo rfl) (e_call (fn := Try.f242) H rfl rfl Try.func242 rfl rfl rfl) ?_
  rintro _ w_3 ⟨v_3, rfl, H⟩
  refine xs (.int .u64 v_3) rfl rfl ?_
  refine xe ?_
  refine sr ?_
  refine xm (I a1) rfl rfl ?_
  refine xm (I (W (b2 - a1))) rfl rfl ?_
  refine xp (I (W (Int.tdiv (W (b2 - a1)) 4))) rfl (p_quo rfl rfl rfl (by decide)) ?_
  refine xp _ rfl (p_mul rfl rfl rfl) ?_
  refine xp _ rfl (p_add rfl rfl rfl) ?_
  refine xp _ rfl (p_sub rfl rfl rfl) ?_
  refine xs (I (W ((W (a1 + (W ((W (Int.tdiv (W (b2 - a1)) 4)) * 2)))) - 1))) rfl rfl ?_
  refine xe ?_
  refine r_block ?_
  refine ru4 0 (Sl.v data0) 1 (I a1) 6 (I (W (b2 - a1))) 7 (.pointer (some a_1)) rfl rfl rfl rfl ?_
  refine ru2 8 (.int .u64 v_3) 9 (I (W ((W (a1 + (W ((W (Int.tdiv (W (b2 - a1)) 4)) * 2)))) - 1))) rfl rfl ?_
  refine r_loopJ (fun (s : Sl × Int × Int × Option Addr × Int × Int) σ => upd 9 (I s.2.2.2.2.2) (upd 8 (.int .u64 s.2.2.2.2.1) (upd 7 (.pointer s.2.2.2.1) (upd 6 (I s.2.2.1) (upd 1 (I s.2.1) (upd 0 (Sl.v s.1) (σ))))))) (s := (data0, a1, (W (b2 - a1)), (some a_1), v_3, (W ((W (a1 + (W ((W (Int.tdiv (W (b2 - a1)) 4)) * 2)))) - 1)))) H ?_
  clear H
  rintro ag2 ⟨data0, a1, length6, random7, modulus8, idx9⟩ σ w H hag2
  replace H : f221_b0 R ag2 data0 a1 length6 random7 modulus8 idx9 w := H
  try dsimp only
  unfold f221_b0 at H
  refine r_seq ?_
  refine sr ?_
  refine xm (I idx9) rfl rfl ?_
  refine xm (I a1) rfl rfl ?_
  refine xm (I length6) rfl rfl ?_
  refine xp (I (W (Int.tdiv length6 4))) rfl (p_quo rfl rfl rfl (by decide)) ?_
  refine xp _ rfl (p_mul rfl rfl rfl) ?_
  refine xp _ rfl (p_add rfl rfl rfl) ?_
  refine xp _ rfl (p_add rfl rfl rfl) ?_
  refine xp _ rfl (p_le rfl rfl rfl) ?_
  refine xe ?_
  refine r_condB (b := (decide (idx9 ≤ (W ((W (a1 + (W ((W (Int.tdiv length6 4)) * 2)))) + 1))))) rfl H ?_ ?_
  ·clear H; intro hb3 H
   refine r_skip ?_
   refine sb ?_
   refine sr ?_
   refine xo_eff rfl (wo rfl) (e_call (fn := Try.f243) H rfl rfl Try.func243 rfl rfl rfl) ?_
   rintro _ w_4 ⟨v_5, rfl, H⟩
   refine xm (.int .u64 modulus8) rfl rfl ?_
   refine xp _ rfl (p_sub rfl rfl rfl) ?_
   refine xp (.int .u64 (andK .u64 v_5 (IntKind.u64.wrap (modulus8 - 1)))) rfl (p_and rfl rfl rfl) ?_
   refine xp (I (W (andK .u64 v_5 (IntKind.u64.wrap (modulus8 - 1))))) rfl (p_conv rfl u234 u3 rfl) ?_
   refine xs (I (W (andK .u64 v_5 (IntKind.u64.wrap (modulus8 - 1))))) rfl rfl ?_
   refine xe ?_
   refine r_seqJ (fun (s : Sl × Int × Int × Option Addr × Int × Int × Int) σ => upd 10 (I s.2.2.2.2.2.2) (upd 9 (I s.2.2.2.2.2.1) (upd 8 (.int .u64 s.2.2.2.2.1) (upd 7 (.pointer s.2.2.2.1) (upd 6 (I s.2.2.1) (upd 1 (I s.2.1) (upd 0 (Sl.v s.1) (σ)))))))) (fun (s : Sl × Int × Int × Option Addr × Int × Int × Int) w => f221_k1 R ag2 s.1 s.2.1 s.2.2.1 s.2.2.2.1 s.2.2.2.2.1 s.2.2.2.2.2.1 s.2.2.2.2.2.2 w) ?_ ?_
   ·rintro ⟨data0, a1, length6, random7, modulus8, idx9, other10⟩ σ w H
    replace H : f221_k1 R ag2 data0 a1 length6 random7 modulus8 idx9 other10 w := H
    try dsimp only
    unfold f221_k1 at H
    refine r_draw #[[], [], [], [], [], [3, 4], [], [], [], [7, 8], [6, 7, 8, 9], [6, 7, 8, 9, 10], [], [], [12, 13], [12, 13, 14], [0, 1, 6, 7, 8, 9, 10, 11, 12, 13, 14, 15], [0, 1, 6, 7, 8, 9, 10, 11, 12, 13, 14, 15, 16], [0, 1, 2, 3, 4, 5, 6, 7, 8, 9, 10, 11, 12, 13, 14, 15, 16, 17], [0, 1, 2, 3, 4, 5, 6, 7, 8, 9, 10, 11, 12, 13, 14, 15, 16, 17, 18]] 20 rfl rfl ?_
    refine am 0 (Sl.v data0) rfl rfl rfl ?_
    refine am 1 (I idx9) rfl rfl rfl ?_
    refine am 2 (Sl.v data0) rfl rfl rfl ?_
    refine am 3 (I a1) rfl rfl rfl ?_
    refine am 4 (I other10) rfl rfl rfl ?_
    refine ap 5 _ rfl rfl (p_add rfl rfl rfl) ?_
    refine am 6 (Sl.v data0) rfl rfl rfl ?_
    refine am 7 (I a1) rfl rfl rfl ?_
    refine am 8 (I other10) rfl rfl rfl ?_
    refine ap 9 _ rfl rfl (p_add rfl rfl rfl) ?_
    obtain ⟨p_6, hap_6, hlp_6, hup_6, H⟩ := H
    refine ap 10 _ rfl rfl (p_indexAddr (s := data0) (ad := p_6) (size := 1) rfl u184 Try.ti3 rfl rfl hap_6 hlp_6 hup_6) ?_
    obtain ⟨adv_7, v_7, hev_7, hcv_7, H⟩ := H
    refine ar 11 (I v_7) rfl rfl (wo rfl) rfl u3 rfl rfl hev_7 hcv_7 ?_
    refine am 12 (Sl.v data0) rfl rfl rfl ?_
    refine am 13 (I idx9) rfl rfl rfl ?_
    obtain ⟨p_8, hap_8, hlp_8, hup_8, H⟩ := H
    refine ap 14 _ rfl rfl (p_indexAddr (s := data0) (ad := p_8) (size := 1) rfl u184 Try.ti3 rfl rfl hap_8 hlp_8 hup_8) ?_
    obtain ⟨adv_9, v_9, hev_9, hcv_9, H⟩ := H
    refine ar 15 (I v_9) rfl rfl (wo rfl) rfl u3 rfl rfl hev_9 hcv_9 ?_
    obtain ⟨p_10, hap_10, hlp_10, hup_10, H⟩ := H
    refine ap 16 _ rfl rfl (p_indexAddr (s := data0) (ad := p_10) (size := 1) rfl u184 Try.ti3 rfl rfl hap_10 hlp_10 hup_10) ?_
    refine an 17 rfl rfl rfl (wo rfl) (e_store rfl Try.ti3 rfl rfl rfl H) fun _ w_6 H => ?_
    obtain ⟨p_11, hap_11, hlp_11, hup_11, H⟩ := H
    refine ap 18 _ rfl rfl (p_indexAddr (s := data0) (ad := p_11) (size := 1) rfl u184 Try.ti3 rfl rfl hap_11 hlp_11 hup_11) ?_
    refine an 19 rfl rfl rfl (wo rfl) (e_store rfl Try.ti3 rfl rfl rfl H) fun _ w_7 H => ?_
    refine ax ?_
    refine r_inBlock ?_
    refine r_region ?_
    refine xm (I idx9) rfl rfl ?_
    refine xp _ rfl (p_add rfl rfl rfl) ?_
    refine xs (I (W (idx9 + 1))) rfl rfl ?_
    refine xe ?_
    refine ru4 0 (Sl.v data0) 1 (I a1) 6 (I length6) 7 (.pointer random7) rfl rfl rfl rfl ?_
    refine ru2 8 (.int .u64 modulus8) 9 (I (W (idx9 + 1))) rfl rfl ?_
    exact hag2 (data0, a1, length6, random7, modulus8, (W (idx9 + 1))) _ _ H
   ·intro J4
    refine sr ?_
    refine xm (I (W (andK .u64 v_5 (IntKind.u64.wrap (modulus8 - 1))))) rfl rfl ?_
    refine xm (I length6) rfl rfl ?_
    refine xp _ rfl (p_ge rfl rfl rfl) ?_
    refine xe ?_
    refine r_condB (b := (decide (length6 ≤ (W (andK .u64 v_5 (IntKind.u64.wrap (modulus8 - 1))))))) rfl H ?_ ?_
    ·clear H; intro hb5 H
     refine r_region ?_
     refine xm (I (W (andK .u64 v_5 (IntKind.u64.wrap (modulus8 - 1))))) rfl rfl ?_
     refine xm (I length6) rfl rfl ?_
     refine xp _ rfl (p_sub rfl rfl rfl) ?_
     refine xs (I (W ((W (andK .u64 v_5 (IntKind.u64.wrap (modulus8 - 1)))) - length6))) rfl rfl ?_
     refine xe ?_
     refine ru4 0 (Sl.v data0) 1 (I a1) 6 (I length6) 7 (.pointer random7) rfl rfl rfl rfl ?_
     refine ru3 8 (.int .u64 modulus8) 9 (I idx9) 10 (I (W ((W (andK .u64 v_5 (IntKind.u64.wrap (modulus8 - 1)))) - length6))) rfl rfl rfl ?_
     exact J4 (data0, a1, length6, random7, modulus8, idx9, (W ((W (andK .u64 v_5 (IntKind.u64.wrap (modulus8 - 1)))) - length6))) _ _ H
    ·clear H; intro hb5 H
     refine r_skip ?_
     refine ru4 0 (Sl.v data0) 1 (I a1) 6 (I length6) 7 (.pointer random7) rfl rfl rfl rfl ?_
     refine ru3 8 (.int .u64 modulus8) 9 (I idx9) 10 (I (W (andK .u64 v_5 (IntKind.u64.wrap (modulus8 - 1))))) rfl rfl rfl ?_
     exact J4 (data0, a1, length6, random7, modulus8, idx9, (W (andK .u64 v_5 (IntKind.u64.wrap (modulus8 - 1))))) _ _ H
  ·clear H; intro hb3 H
   refine r_exit rfl ?_
   exact r_end (fn := Try.f221) Try.func221 (res_0 rfl ) H
 ·clear H; intro hb1 H
  refine r_skip ?_
  exact r_end (fn := Try.f221) Try.func221 (res_0 rfl ) H

/-! 222 slices.choosePivotOrdered[int] -/
def f222_k0 (R : Value → World → Prop) (swaps9 : Option Addr) (j11 : Int) (w : World) : Prop :=
 Ld (Value.int .i64) swaps9 w fun v_2 =>
 IfB (decide (v_2 = 0)) (
  R (.tuple #[(.int .i64 j11), (.int .i64 1)]) w) (
  IfB (decide (v_2 = 12)) (
   R (.tuple #[(.int .i64 j11), (.int .i64 2)]) w) (
   R (.tuple #[(.int .i64 j11), (.int .i64 0)]) w))
def f222_k1 (R : Value → World → Prop) (data0 : Sl) (swaps9 : Option Addr) (i10 : Int) (j11 : Int) (k12 : Int) (w : World) : Prop :=
 CallF Try.prog 249 #[(Sl.v data0), (.int .i64 i10), (.int .i64 j11), (.int .i64 k12), (.pointer swaps9)] w fun u_3 w_2 => As (Value.int .i64) u_3 fun v_4 =>
 f222_k0 R swaps9 v_4 w_2
def f222 (R : Value → World → Prop) (data0 : Sl) (a1 : Int) (b2 : Int) (w : World) : Prop :=
 New #[(.int .i64 0)] 3 w fun a_1 w_1 =>
 IfB (decide (8 ≤ (IntKind.i64.wrap (b2 - a1)))) (
  IfB (decide (50 ≤ (IntKind.i64.wrap (b2 - a1)))) (
   CallF Try.prog 248 #[(Sl.v data0), (.int .i64 (IntKind.i64.wrap (a1 + (IntKind.i64.wrap ((IntKind.i64.wrap (Int.tdiv (IntKind.i64.wrap (b2 - a1)) 4)) * 1))))), (.pointer (some a_1))] w_1 fun u_5 w_3 => As (Value.int .i64) u_5 fun v_6 =>
   CallF Try.prog 248 #[(Sl.v data0), (.int .i64 (IntKind.i64.wrap (a1 + (IntKind.i64.wrap ((IntKind.i64.wrap (Int.tdiv (IntKind.i64.wrap (b2 - a1)) 4)) * 2))))), (.pointer (some a_1))] w_3 fun u_7 w_4 => As (Value.int .i64) u_7 fun v_8 =>
   CallF Try.prog 248 #[(Sl.v data0), (.int .i64 (IntKind.i64.wrap (a1 + (IntKind.i64.wrap ((IntKind.i64.wrap (Int.tdiv (IntKind.i64.wrap (b2 - a1)) 4)) * 3))))), (.pointer (some a_1))] w_4 fun u_9 w_5 => As (Value.int .i64) u_9 fun v_10 =>
   f222_k1 R data0 (some a_1) v_6 v_8 v_10 w_5) (
   f222_k1 R data0 (some a_1) (IntKind.i64.wrap (a1 + (IntKind.i64.wrap ((IntKind.i64.wrap (Int.tdiv (IntKind.i64.wrap (b2 - a1)) 4)) * 1)))) (IntKind.i64.wrap (a1 + (IntKind.i64.wrap ((IntKind.i64.wrap (Int.tdiv (IntKind.i64.wrap (b2 - a1)) 4)) * 2)))) (IntKind.i64.wrap (a1 + (IntKind.i64.wrap ((IntKind.i64.wrap (Int.tdiv (IntKind.i64.wrap (b2 - a1)) 4)) * 3)))) w_1)) (
  f222_k0 R (some a_1) (IntKind.i64.wrap (a1 + (IntKind.i64.wrap ((IntKind.i64.wrap (Int.tdiv (IntKind.i64.wrap (b2 - a1)) 4)) * 2)))) w_1)
theorem f222_ok (R : Value → World → Prop) (data0 : Sl) (a1 : Int) (b2 : Int) (w : World) (H : f222 R data0 a1 b2 w) : CallF Try.prog 222 #[(Sl.v data0), (.int .i64 a1), (.int .i64 b2)] w R := by
 refine calls_of_runs (fn := Try.f222) Try.func222 rfl (Nat.le_of_ble_eq_true rfl) ?_
 show Runs _ _ 57 _ _ _ _
 unfold f222 at H
 refine ru3 0 (Sl.v data0) 1 (I a1) 2 (I b2) rfl rfl rfl ?_
 refine sr ?_
 refine xs (I 0) rfl rfl ?_
 refine xs (I 0) rfl rfl ?_
 refine xe ?_
 refine sr ?_
 refine xm (I b2) rfl rfl ?_
 refine xm (I a1) rfl rfl ?_
 refine xp _ rfl (p_sub rfl rfl rfl) ?_
 refine xs (I (W (b2 - a1))) rfl rfl ?_
 refine xe ?_
 refine sr ?_
 refine xo_eff rfl (wo rfl) (e_alloc rfl Try.ti3 H) ?_
 rintro _ w_1 ⟨a_1, rfl, H⟩
 refine xe ?_
 refine sr ?_
 refine xm (I a1) rfl rfl ?_
 refine xm (I (W (b2 - a1))) rfl rfl ?_
 refine xp (I (W (Int.tdiv (W (b2 - a1)) 4))) rfl (p_quo rfl rfl rfl (by decide)) ?_
 refine xp _ rfl (p_mul rfl rfl rfl) ?_
 refine xp _ rfl (p_add rfl rfl rfl) ?_
 refine xs (I (W (a1 + (W ((W (Int.tdiv (W (b2 - a1)) 4)) * 1))))) rfl rfl ?_
 refine xe ?_
 refine sr ?_
 refine xm (I a1) rfl rfl ?_
 refine xm (I (W (b2 - a1))) rfl rfl ?_
 refine xp (I (W (Int.tdiv (W (b2 - a1)) 4))) rfl (p_quo rfl rfl rfl (by decide)) ?_
 refine xp _ rfl (p_mul rfl rfl rfl) ?_
 refine xp _ rfl (p_add rfl rfl rfl) ?_
 refine xs (I (W (a1 + (W ((W (Int.tdiv (W (b2 - a1)) 4)) * 2))))) rfl rfl ?_
 refine xe ?_
 refine sr ?_
 refine xm (I a1) rfl rfl ?_
 refine xm (I (W (b2 - a1))) rfl rfl ?_
 refine xp (I (W (Int.tdiv (W (b2 - a1)) 4))) rfl (p_quo rfl rfl rfl (by decide)) ?_
 refine xp _ rfl (p_mul rfl rfl rfl) ?_
 refine xp _ rfl (p_add rfl rfl rfl) ?_
 refine xs (I (W (a1 + (W ((W (Int.tdiv (W (b2 - a1)) 4)) * 3))))) rfl rfl ?_
 refine xe ?_
 refine r_seqJ (fun (s : Option Addr × Int) σ => upd 11 (I s.2) (upd 9 (.pointer s.1) (σ))) (fun (s : Option Addr × Int) w => f222_k0 R s.1 s.2 w) ?_ ?_
 ·rintro ⟨swaps9, j11⟩ σ w H
  replace H : f222_k0 R swaps9 j11 w := H
  try dsimp only
  unfold f222_k0 at H
  refine sr ?_
  obtain ⟨adv_2, v_2, hev_2, hcv_2, H⟩ := H
  refine xr (I v_2) rfl (wo rfl) rfl u3 rfl rfl hev_2 hcv_2 ?_
  refine xe ?_
  refine r_block ?_
  refine sr ?_
  refine xp _ rfl (p_eq rfl rfl rfl) ?_
  refine xs (.bool (decide (v_2 = 0))) rfl rfl ?_
  refine xe ?_
  refine r_condB (b := (decide (v_2 = 0))) rfl H ?_ ?_
  ·clear H; intro hb2 H
   refine sr ?_
   refine xm (I j11) rfl rfl ?_
   refine xs (I j11) rfl rfl ?_
   refine xs (I 1) rfl rfl ?_
   refine xe ?_
   exact r_ret (fn := Try.f222) Try.func222 (res_2 rfl ⟨by decide, rfl⟩ ⟨by decide, rfl⟩) H
  ·clear H; intro hb2 H
   refine sr ?_
   refine xp _ rfl (p_eq rfl rfl rfl) ?_
   refine xs (.bool (decide (v_2 = 12))) rfl rfl ?_
   refine xe ?_
   refine r_condB (b := (decide (v_2 = 12))) rfl H ?_ ?_
   ·clear H; intro hb3 H
    refine sr ?_
    refine xm (I j11) rfl rfl ?_
    refine xs (I j11) rfl rfl ?_
    refine xs (I 2) rfl rfl ?_
    refine xe ?_
    exact r_ret (fn := Try.f222) Try.func222 (res_2 rfl ⟨by decide, rfl⟩ ⟨by decide, rfl⟩) H
   ·clear H; intro hb3 H
    refine sr ?_
    refine xm (I j11) rfl rfl ?_
    refine xs (I j11) rfl rfl ?_
    refine xs (I 0) rfl rfl ?_
    refine xe ?_
    exact r_ret (fn := Try.f222) Try.func222 (res_2 rfl ⟨by decide, rfl⟩ ⟨by decide, rfl⟩) H
 ·intro J1
  refine sr ?_
  refine xm (I (W (b2 - a1))) rfl rfl ?_
  refine xp _ rfl (p_ge rfl rfl rfl) ?_
  refine xe ?_
  refine r_condB (b := (decide (8 ≤ (W (b2 - a1))))) rfl H ?_ ?_
  ·clear H; intro hb4 H
   refine r_seqJ (fun (s : Sl × Option Addr × Int × Int × Int) σ => upd 12 (I s.2.2.2.2) (upd 11 (I s.2.2.2.1) (upd 10 (I s.2.2.1) (upd 9 (.pointer s.2.1) (upd 0 (Sl.v s.1) (σ)))))) (fun (s : Sl × Option Addr × Int × Int × Int) w => f222_k1 R s.1 s.2.1 s.2.2.1 s.2.2.2.1 s.2.2.2.2 w) ?_ ?_
   ·rintro ⟨data0, swaps9, i10, j11, k12⟩ σ w H
    replace H : f222_k1 R data0 swaps9 i10 j11 k12 w := H
    try dsimp only
    unfold f222_k1 at H
    refine r_region ?_
    refine xm (Sl.v data0) rfl rfl ?_
    refine xm (I i10) rfl rfl ?_
    refine xm (I j11) rfl rfl ?_
    refine xm (I k12) rfl rfl ?_
    refine xo_eff rfl (wo rfl) (e_call (fn := Try.f249) H rfl rfl Try.func249 rfl rfl rfl) ?_
    rintro _ w_2 ⟨v_4, rfl, H⟩
    refine xs (I v_4) rfl rfl ?_
    refine xe ?_
    refine ru2 9 (.pointer swaps9) 11 (I v_4) rfl rfl ?_
    exact J1 (swaps9, v_4) _ _ H
   ·intro J5
    refine sr ?_
    refine xm (I (W (b2 - a1))) rfl rfl ?_
    refine xp _ rfl (p_ge rfl rfl rfl) ?_
    refine xe ?_
    refine r_condB (b := (decide (50 ≤ (W (b2 - a1))))) rfl H ?_ ?_
    ·clear H; intro hb6 H
     refine sr ?_
     refine xm (Sl.v data0) rfl rfl ?_
     refine xm (I (W (a1 + (W ((W (Int.tdiv (W (b2 - a1)) 4)) * 1))))) rfl rfl ?_
     refine xo_eff rfl (wo rfl) (e_call (fn := Try.f248) H rfl rfl Try.func248 rfl rfl rfl) ?_
     rintro _ w_3 ⟨v_6, rfl, H⟩
     refine xs (I v_6) rfl rfl ?_
     refine xe ?_
     refine sr ?_
     refine xm (Sl.v data0) rfl rfl ?_
     refine xm (I (W (a1 + (W ((W (Int.tdiv (W (b2 - a1)) 4)) * 2))))) rfl rfl ?_
     refine xo_eff rfl (wo rfl) (e_call (fn := Try.f248) H rfl rfl Try.func248 rfl rfl rfl) ?_
     rintro _ w_4 ⟨v_8, rfl, H⟩
     refine xs (I v_8) rfl rfl ?_
     refine xe ?_
     refine r_region ?_
     refine xm (Sl.v data0) rfl rfl ?_
     refine xm (I (W (a1 + (W ((W (Int.tdiv (W (b2 - a1)) 4)) * 3))))) rfl rfl ?_
     refine xo_eff rfl (wo rfl) (e_call (fn := Try.f248) H rfl rfl Try.func248 rfl rfl rfl) ?_
     rintro _ w_5 ⟨v_10, rfl, H⟩
     refine xs (I v_10) rfl rfl ?_
     refine xe ?_
     refine ru4 0 (Sl.v data0) 9 (.pointer (some a_1)) 10 (I v_6) 11 (I v_8) rfl rfl rfl rfl ?_
     refine ru 12 (I v_10) rfl ?_
     exact J5 (data0, (some a_1), v_6, v_8, v_10) _ _ H
    ·clear H; intro hb6 H
     refine r_skip ?_
     refine ru4 0 (Sl.v data0) 9 (.pointer (some a_1)) 10 (I (W (a1 + (W ((W (Int.tdiv (W (b2 - a1)) 4)) * 1))))) 11 (I (W (a1 + (W ((W (Int.tdiv (W (b2 - a1)) 4)) * 2))))) rfl rfl rfl rfl ?_
     refine ru 12 (I (W (a1 + (W ((W (Int.tdiv (W (b2 - a1)) 4)) * 3))))) rfl ?_
     exact J5 (data0, (some a_1), (W (a1 + (W ((W (Int.tdiv (W (b2 - a1)) 4)) * 1)))), (W (a1 + (W ((W (Int.tdiv (W (b2 - a1)) 4)) * 2)))), (W (a1 + (W ((W (Int.tdiv (W (b2 - a1)) 4)) * 3))))) _ _ H
  ·clear H; intro hb4 H
   refine r_skip ?_
   refine ru2 9 (.pointer (some a_1)) 11 (I (W (a1 + (W ((W (Int.tdiv (W (b2 - a1)) 4)) * 2))))) rfl rfl ?_
   exact J1 ((some a_1), (W (a1 + (W ((W (Int.tdiv (W (b2 - a1)) 4)) * 2))))) _ _ H

/-! 223 slices.reverseRangeOrdered[int] -/
def f223_b0 (R : Value → World → Prop) (ag1 : (Sl × Int × Int) → World → Prop) (data0 : Sl) (i6 : Int) (j7 : Int) (w : World) : Prop :=
 IfB (decide (i6 < j7)) (
  Ix data0 j7 fun p_1 =>
  Ld (Value.int .i64) (some (p_1.add (j7.toNat * 1))) (World.drew w) fun v_2 =>
  Ix data0 i6 fun p_3 =>
  Ld (Value.int .i64) (some (p_3.add (i6.toNat * 1))) (World.drew w) fun v_4 =>
  Ix data0 i6 fun p_5 =>
  St (some (p_5.add (i6.toNat * 1))) (.int .i64 v_2) (World.drew w) fun w_2 =>
  Ix data0 j7 fun p_6 =>
  St (some (p_6.add (j7.toNat * 1))) (.int .i64 v_4) w_2 fun w_3 =>
  ag1 (data0, (IntKind.i64.wrap (i6 + 1)), (IntKind.i64.wrap (j7 - 1))) w_3) (
  R (.tuple #[]) w)
def f223 (R : Value → World → Prop) (data0 : Sl) (a1 : Int) (b2 : Int) (w : World) : Prop :=
 Lp (fun ag (s : Sl × Int × Int) w => f223_b0 R ag s.1 s.2.1 s.2.2 w) (data0, a1, (IntKind.i64.wrap (b2 - 1))) w
theorem f223_ok (R : Value → World → Prop) (data0 : Sl) (a1 : Int) (b2 : Int) (w : World) (H : f223 R data0 a1 b2 w) : CallF Try.prog 223 #[(Sl.v data0), (.int .i64 a1), (.int .i64 b2)] w R := by
 refine calls_of_runs (fn := Try.f223) Try.func223 rfl (Nat.le_of_ble_eq_true rfl) ?_
 show Runs _ _ 32 _ _ _ _
 unfold f223 at H
 refine ru3 0 (Sl.v data0) 1 (I a1) 2 (I b2) rfl rfl rfl ?_
 refine sr ?_
 refine xm (I a1) rfl rfl ?_
 refine xs (I a1) rfl rfl ?_
 refine xe ?_
 refine sr ?_
 refine xm (I b2) rfl rfl ?_
 refine xp _ rfl (p_sub rfl rfl rfl) ?_
 refine xs (I (W (b2 - 1))) rfl rfl ?_
 refine xe ?_
 refine r_block ?_
 refine ru3 0 (Sl.v data0) 6 (I a1) 7 (I (W (b2 - 1))) rfl rfl rfl ?_
 refine r_loopJ (fun (s : Sl × Int × Int) σ => upd 7 (I s.2.2) (upd 6 (I s.2.1) (upd 0 (Sl.v s.1) (σ)))) (s := (data0, a1, (W (b2 - 1)))) H ?_
 clear H
 rintro ag1 ⟨data0, i6, j7⟩ σ w H hag1
 replace H : f223_b0 R ag1 data0 i6 j7 w := H
 try dsimp only
 unfold f223_b0 at H
 refine r_seq ?_
 refine sr ?_
 refine xm (I i6) rfl rfl ?_
 refine xm (I j7) rfl rfl ?_
 refine xp _ rfl (p_lt rfl rfl rfl) ?_
 refine xe ?_
 refine r_condB (b := (decide (i6 < j7))) rfl H ?_ ?_
 ·clear H; intro hb2 H
  refine r_skip ?_
  refine r_block ?_
  refine r_seq ?_
  refine r_draw #[[], [], [], [], [], [], [4, 5], [4, 5, 6], [], [], [8, 9], [8, 9, 10], [0, 1, 4, 5, 6, 7, 8, 9, 10, 11], [0, 1, 4, 5, 6, 7, 8, 9, 10, 11, 12], [0, 1, 2, 3, 4, 5, 6, 7, 8, 9, 10, 11, 12, 13], [0, 1, 2, 3, 4, 5, 6, 7, 8, 9, 10, 11, 12, 13, 14]] 16 rfl rfl ?_
  refine am 0 (Sl.v data0) rfl rfl rfl ?_
  refine am 1 (I i6) rfl rfl rfl ?_
  refine am 2 (Sl.v data0) rfl rfl rfl ?_
  refine am 3 (I j7) rfl rfl rfl ?_
  refine am 4 (Sl.v data0) rfl rfl rfl ?_
  refine am 5 (I j7) rfl rfl rfl ?_
  obtain ⟨p_1, hap_1, hlp_1, hup_1, H⟩ := H
  refine ap 6 _ rfl rfl (p_indexAddr (s := data0) (ad := p_1) (size := 1) rfl u184 Try.ti3 rfl rfl hap_1 hlp_1 hup_1) ?_
  obtain ⟨adv_2, v_2, hev_2, hcv_2, H⟩ := H
  refine ar 7 (I v_2) rfl rfl (wo rfl) rfl u3 rfl rfl hev_2 hcv_2 ?_
  refine am 8 (Sl.v data0) rfl rfl rfl ?_
  refine am 9 (I i6) rfl rfl rfl ?_
  obtain ⟨p_3, hap_3, hlp_3, hup_3, H⟩ := H
  refine ap 10 _ rfl rfl (p_indexAddr (s := data0) (ad := p_3) (size := 1) rfl u184 Try.ti3 rfl rfl hap_3 hlp_3 hup_3) ?_
  obtain ⟨adv_4, v_4, hev_4, hcv_4, H⟩ := H
  refine ar 11 (I v_4) rfl rfl (wo rfl) rfl u3 rfl rfl hev_4 hcv_4 ?_
  obtain ⟨p_5, hap_5, hlp_5, hup_5, H⟩ := H
  refine ap 12 _ rfl rfl (p_indexAddr (s := data0) (ad := p_5) (size := 1) rfl u184 Try.ti3 rfl rfl hap_5 hlp_5 hup_5) ?_
  refine an 13 rfl rfl rfl (wo rfl) (e_store rfl Try.ti3 rfl rfl rfl H) fun _ w_2 H => ?_
  obtain ⟨p_6, hap_6, hlp_6, hup_6, H⟩ := H
  refine ap 14 _ rfl rfl (p_indexAddr (s := data0) (ad := p_6) (size := 1) rfl u184 Try.ti3 rfl rfl hap_6 hlp_6 hup_6) ?_
  refine an 15 rfl rfl rfl (wo rfl) (e_store rfl Try.ti3 rfl rfl rfl H) fun _ w_3 H => ?_
  refine ax ?_
  refine sr ?_
  refine xm (I i6) rfl rfl ?_
  refine xp _ rfl (p_add rfl rfl rfl) ?_
  refine xs (I (W (i6 + 1))) rfl rfl ?_
  refine xe ?_
  refine r_region ?_
  refine xm (I j7) rfl rfl ?_
  refine xp _ rfl (p_sub rfl rfl rfl) ?_
  refine xs (I (W (j7 - 1))) rfl rfl ?_
  refine xe ?_
  refine r_inBlock ?_
  refine ru3 0 (Sl.v data0) 6 (I (W (i6 + 1))) 7 (I (W (j7 - 1))) rfl rfl rfl ?_
  exact hag1 (data0, (W (i6 + 1)), (W (j7 - 1))) _ _ H
 ·clear H; intro hb2 H
  refine r_exit rfl ?_
  exact r_end (fn := Try.f223) Try.func223 (res_0 rfl ) H

/-! 224 slices.partialInsertionSortOrdered[int] -/
def f224_k1 (R : Value → World → Prop) (ag1 : (Sl × Int × Int × Int × Int) → World → Prop) (data0 : Sl) (a1 : Int) (b2 : Int) (i7 : Int) (j8 : Int) (w : World) : Prop :=
 ag1 (data0, a1, b2, i7, (IntKind.i64.wrap (j8 + 1))) w
def f224_b5 (R : Value → World → Prop) (ag1 : (Sl × Int × Int × Int × Int) → World → Prop) (ag4 : (Sl × Int × Int × Int × Int) → World → Prop) (ag11 : (Sl × Int × Int × Int × Int × Int) → World → Prop) (data0 : Sl) (a1 : Int) (b2 : Int) (i7 : Int) (j8 : Int) (j10 : Int) (w : World) : Prop :=
 IfB (decide (j10 < b2)) (
  Ix data0 j10 fun p_7 =>
  Ld (Value.int .i64) (some (p_7.add (j10.toNat * 1))) (World.drew w) fun v_8 =>
  Ix data0 (IntKind.i64.wrap (j10 - 1)) fun p_9 =>
  Ld (Value.int .i64) (some (p_9.add ((IntKind.i64.wrap (j10 - 1)).toNat * 1))) (World.drew w) fun v_10 =>
  CallF Try.prog 225 #[(.int .i64 v_8), (.int .i64 v_10)] (World.drew w) fun u_11 w_5 => As Value.bool u_11 fun v_12 =>
  IfB (!v_12) (
   f224_k1 R ag1 data0 a1 b2 i7 j8 w_5) (
   Ix data0 (IntKind.i64.wrap (j10 - 1)) fun p_13 =>
   Ld (Value.int .i64) (some (p_13.add ((IntKind.i64.wrap (j10 - 1)).toNat * 1))) (World.drew w_5) fun v_14 =>
   Ix data0 j10 fun p_15 =>
   Ld (Value.int .i64) (some (p_15.add (j10.toNat * 1))) (World.drew w_5) fun v_16 =>
   Ix data0 j10 fun p_17 =>
   St (some (p_17.add (j10.toNat * 1))) (.int .i64 v_14) (World.drew w_5) fun w_7 =>
   Ix data0 (IntKind.i64.wrap (j10 - 1)) fun p_18 =>
   St (some (p_18.add ((IntKind.i64.wrap (j10 - 1)).toNat * 1))) (.int .i64 v_16) w_7 fun w_8 =>
   ag11 (data0, a1, b2, i7, j8, (IntKind.i64.wrap (j10 + 1))) w_8)) (
  f224_k1 R ag1 data0 a1 b2 i7 j8 w)
def f224_k4 (R : Value → World → Prop) (ag1 : (Sl × Int × Int × Int × Int) → World → Prop) (ag4 : (Sl × Int × Int × Int × Int) → World → Prop) (data0 : Sl) (a1 : Int) (b2 : Int) (i7 : Int) (j8 : Int) (w : World) : Prop :=
 IfB (decide (2 ≤ (IntKind.i64.wrap (b2 - i7)))) (
  Lp (fun ag (s : Sl × Int × Int × Int × Int × Int) w => f224_b5 R ag1 ag4 ag s.1 s.2.1 s.2.2.1 s.2.2.2.1 s.2.2.2.2.1 s.2.2.2.2.2 w) (data0, a1, b2, i7, j8, (IntKind.i64.wrap (i7 + 1))) w) (
  f224_k1 R ag1 data0 a1 b2 i7 j8 w)
def f224_b6 (R : Value → World → Prop) (ag1 : (Sl × Int × Int × Int × Int) → World → Prop) (ag4 : (Sl × Int × Int × Int × Int) → World → Prop) (ag15 : (Sl × Int × Int × Int × Int × Int) → World → Prop) (data0 : Sl) (a1 : Int) (b2 : Int) (i7 : Int) (j8 : Int) (j9 : Int) (w : World) : Prop :=
 IfB (decide (1 ≤ j9)) (
  Ix data0 j9 fun p_19 =>
  Ld (Value.int .i64) (some (p_19.add (j9.toNat * 1))) (World.drew w) fun v_20 =>
  Ix data0 (IntKind.i64.wrap (j9 - 1)) fun p_21 =>
  Ld (Value.int .i64) (some (p_21.add ((IntKind.i64.wrap (j9 - 1)).toNat * 1))) (World.drew w) fun v_22 =>
  CallF Try.prog 225 #[(.int .i64 v_20), (.int .i64 v_22)] (World.drew w) fun u_23 w_10 => As Value.bool u_23 fun v_24 =>
  IfB (!v_24) (
   f224_k4 R ag1 ag4 data0 a1 b2 i7 j8 w_10) (
   Ix data0 (IntKind.i64.wrap (j9 - 1)) fun p_25 =>
   Ld (Value.int .i64) (some (p_25.add ((IntKind.i64.wrap (j9 - 1)).toNat * 1))) (World.drew w_10) fun v_26 =>
   Ix data0 j9 fun p_27 =>
   Ld (Value.int .i64) (some (p_27.add (j9.toNat * 1))) (World.drew w_10) fun v_28 =>
   Ix data0 j9 fun p_29 =>
   St (some (p_29.add (j9.toNat * 1))) (.int .i64 v_26) (World.drew w_10) fun w_12 =>
   Ix data0 (IntKind.i64.wrap (j9 - 1)) fun p_30 =>
   St (some (p_30.add ((IntKind.i64.wrap (j9 - 1)).toNat * 1))) (.int .i64 v_28) w_12 fun w_13 =>
   ag15 (data0, a1, b2, i7, j8, (IntKind.i64.wrap (j9 - 1))) w_13)) (
  f224_k4 R ag1 ag4 data0 a1 b2 i7 j8 w)
def f224_k3 (R : Value → World → Prop) (ag1 : (Sl × Int × Int × Int × Int) → World → Prop) (ag4 : (Sl × Int × Int × Int × Int) → World → Prop) (data0 : Sl) (a1 : Int) (b2 : Int) (i7 : Int) (j8 : Int) (t32 : Bool) (w : World) : Prop :=
 IfB t32 (
  ag4 (data0, a1, b2, (IntKind.i64.wrap (i7 + 1)), j8) w) (
  IfB (decide (i7 = b2)) (
   R (.bool true) w) (
   IfB (decide ((IntKind.i64.wrap (b2 - a1)) < 50)) (
    R (.bool false) w) (
    Ix data0 (IntKind.i64.wrap (i7 - 1)) fun p_1 =>
    Ld (Value.int .i64) (some (p_1.add ((IntKind.i64.wrap (i7 - 1)).toNat * 1))) (World.drew w) fun v_2 =>
    Ix data0 i7 fun p_3 =>
    Ld (Value.int .i64) (some (p_3.add (i7.toNat * 1))) (World.drew w) fun v_4 =>
    Ix data0 i7 fun p_5 =>
    St (some (p_5.add (i7.toNat * 1))) (.int .i64 v_2) (World.drew w) fun w_2 =>
    Ix data0 (IntKind.i64.wrap (i7 - 1)) fun p_6 =>
    St (some (p_6.add ((IntKind.i64.wrap (i7 - 1)).toNat * 1))) (.int .i64 v_4) w_2 fun w_3 =>
    IfB (decide (2 ≤ (IntKind.i64.wrap (i7 - a1)))) (
     Lp (fun ag (s : Sl × Int × Int × Int × Int × Int) w => f224_b6 R ag1 ag4 ag s.1 s.2.1 s.2.2.1 s.2.2.2.1 s.2.2.2.2.1 s.2.2.2.2.2 w) (data0, a1, b2, i7, j8, (IntKind.i64.wrap (i7 - 1))) w_3) (
     f224_k4 R ag1 ag4 data0 a1 b2 i7 j8 w_3))))
def f224_b2 (R : Value → World → Prop) (ag1 : (Sl × Int × Int × Int × Int) → World → Prop) (ag4 : (Sl × Int × Int × Int × Int) → World → Prop) (data0 : Sl) (a1 : Int) (b2 : Int) (i7 : Int) (j8 : Int) (w : World) : Prop :=
 IfB (decide (i7 < b2)) (
  Ix data0 i7 fun p_31 =>
  Ld (Value.int .i64) (some (p_31.add (i7.toNat * 1))) (World.drew w) fun v_32 =>
  Ix data0 (IntKind.i64.wrap (i7 - 1)) fun p_33 =>
  Ld (Value.int .i64) (some (p_33.add ((IntKind.i64.wrap (i7 - 1)).toNat * 1))) (World.drew w) fun v_34 =>
  CallF Try.prog 225 #[(.int .i64 v_32), (.int .i64 v_34)] (World.drew w) fun u_35 w_15 => As Value.bool u_35 fun v_36 =>
  f224_k3 R ag1 ag4 data0 a1 b2 i7 j8 (!v_36) w_15) (
  f224_k3 R ag1 ag4 data0 a1 b2 i7 j8 false (World.drew w))
def f224_b0 (R : Value → World → Prop) (ag1 : (Sl × Int × Int × Int × Int) → World → Prop) (data0 : Sl) (a1 : Int) (b2 : Int) (i7 : Int) (j8 : Int) (w : World) : Prop :=
 IfB (decide (j8 < 5)) (
  Lp (fun ag (s : Sl × Int × Int × Int × Int) w => f224_b2 R ag1 ag s.1 s.2.1 s.2.2.1 s.2.2.2.1 s.2.2.2.2 w) (data0, a1, b2, i7, j8) w) (
  R (.bool false) w)
def f224 (R : Value → World → Prop) (data0 : Sl) (a1 : Int) (b2 : Int) (w : World) : Prop :=
 Lp (fun ag (s : Sl × Int × Int × Int × Int) w => f224_b0 R ag s.1 s.2.1 s.2.2.1 s.2.2.2.1 s.2.2.2.2 w) (data0, a1, b2, (IntKind.i64.wrap (a1 + 1)), 0) w
theorem f224_ok (R : Value → World → Prop) (data0 : Sl) (a1 : Int) (b2 : Int) (w : World) (H : f224 R data0 a1 b2 w) : CallF Try.prog 224 #[(Sl.v data0), (.int .i64 a1), (.int .i64 b2)] w R := by
 refine calls_of_runs (fn := Try.f224) Try.func224 rfl (Nat.le_of_ble_eq_true rfl) ?_
 show Runs _ _ 133 _ _ _ _
 unfold f224 at H
 refine ru3 0 (Sl.v data0) 1 (I a1) 2 (I b2) rfl rfl rfl ?_
 refine sr ?_
 refine xs (.bool false) rfl rfl ?_
 refine xe ?_
 refine sr ?_
 refine xm (I a1) rfl rfl ?_
 refine xp _ rfl (p_add rfl rfl rfl) ?_
 refine xs (I (W (a1 + 1))) rfl rfl ?_
 refine xe ?_
 refine r_seq ?_
 refine sr ?_
 refine xs (I 0) rfl rfl ?_
 refine xe ?_
 refine r_block ?_
 refine ru4 0 (Sl.v data0) 1 (I a1) 2 (I b2) 7 (I (W (a1 + 1))) rfl rfl rfl rfl ?_
 refine ru 8 (I 0) rfl ?_
 refine r_loopJ (fun (s : Sl × Int × Int × Int × Int) σ => upd 8 (I s.2.2.2.2) (upd 7 (I s.2.2.2.1) (upd 2 (I s.2.2.1) (upd 1 (I s.2.1) (upd 0 (Sl.v s.1) (σ)))))) (s := (data0, a1, b2, (W (a1 + 1)), 0)) H ?_
 clear H
 rintro ag1 ⟨data0, a1, b2, i7, j8⟩ σ w H hag1
 replace H : f224_b0 R ag1 data0 a1 b2 i7 j8 w := H
 try dsimp only
 unfold f224_b0 at H
 refine r_seq ?_
 refine sr ?_
 refine xm (I j8) rfl rfl ?_
 refine xp _ rfl (p_lt rfl rfl rfl) ?_
 refine xe ?_
 refine r_condB (b := (decide (j8 < 5))) rfl H ?_ ?_
 ·clear H; intro hb2 H
  refine r_skip ?_
  refine r_seqJ (fun (s : Sl × Int × Int × Int × Int) σ => upd 8 (I s.2.2.2.2) (upd 7 (I s.2.2.2.1) (upd 2 (I s.2.2.1) (upd 1 (I s.2.1) (upd 0 (Sl.v s.1) (σ)))))) (fun (s : Sl × Int × Int × Int × Int) w => f224_k1 R ag1 s.1 s.2.1 s.2.2.1 s.2.2.2.1 s.2.2.2.2 w) ?_ ?_
  ·rintro ⟨data0, a1, b2, i7, j8⟩ σ w H
   replace H : f224_k1 R ag1 data0 a1 b2 i7 j8 w := H
   try dsimp only
   unfold f224_k1 at H
   refine r_region ?_
   refine xm (I j8) rfl rfl ?_
   refine xp _ rfl (p_add rfl rfl rfl) ?_
   refine xs (I (W (j8 + 1))) rfl rfl ?_
   refine xe ?_
   refine ru4 0 (Sl.v data0) 1 (I a1) 2 (I b2) 7 (I i7) rfl rfl rfl rfl ?_
   refine ru 8 (I (W (j8 + 1))) rfl ?_
   exact hag1 (data0, a1, b2, i7, (W (j8 + 1))) _ _ H
  ·intro J3
   refine r_block ?_
   refine sb ?_
   refine ru4 0 (Sl.v data0) 1 (I a1) 2 (I b2) 7 (I i7) rfl rfl rfl rfl ?_
   refine ru 8 (I j8) rfl ?_
   refine r_loopJ (fun (s : Sl × Int × Int × Int × Int) σ => upd 8 (I s.2.2.2.2) (upd 7 (I s.2.2.2.1) (upd 2 (I s.2.2.1) (upd 1 (I s.2.1) (upd 0 (Sl.v s.1) (σ)))))) (s := (data0, a1, b2, i7, j8)) H ?_
   clear H
   rintro ag4 ⟨data0, a1, b2, i7, j8⟩ σ w H hag4
   replace H : f224_b2 R ag1 ag4 data0 a1 b2 i7 j8 w := H
   try dsimp only
   unfold f224_b2 at H
   refine r_seq ?_
   refine r_seq ?_
   refine r_topJ (fun (s : Sl × Int × Int × Int × Int × Bool) σ => upd 32 (.bool s.2.2.2.2.2) (upd 8 (I s.2.2.2.2.1) (upd 7 (I s.2.2.2.1) (upd 2 (I s.2.2.1) (upd 1 (I s.2.1) (upd 0 (Sl.v s.1) (σ))))))) (fun (s : Sl × Int × Int × Int × Int × Bool) w => f224_k3 R ag1 ag4 s.1 s.2.1 s.2.2.1 s.2.2.2.1 s.2.2.2.2.1 s.2.2.2.2.2 w) ?_ ?_
   ·rintro ⟨data0, a1, b2, i7, j8, t32⟩ σ w H
    replace H : f224_k3 R ag1 ag4 data0 a1 b2 i7 j8 t32 w := H
    try dsimp only
    unfold f224_k3 at H
    refine r_condB (b := t32) rfl H ?_ ?_
    ·clear H; intro hb6 H
     refine r_skip ?_
     refine r_block ?_
     refine r_region ?_
     refine xm (I i7) rfl rfl ?_
     refine xp _ rfl (p_add rfl rfl rfl) ?_
     refine xs (I (W (i7 + 1))) rfl rfl ?_
     refine xe ?_
     refine r_inBlock ?_
     refine ru4 0 (Sl.v data0) 1 (I a1) 2 (I b2) 7 (I (W (i7 + 1))) rfl rfl rfl rfl ?_
     refine ru 8 (I j8) rfl ?_
     exact hag4 (data0, a1, b2, (W (i7 + 1)), j8) _ _ H
    ·clear H; intro hb6 H
     refine r_exit rfl ?_
     refine r_seq ?_
     refine sr ?_
     refine xm (I i7) rfl rfl ?_
     refine xm (I b2) rfl rfl ?_
     refine xp _ rfl (p_eq rfl rfl rfl) ?_
     refine xe ?_
     refine r_condB (b := (decide (i7 = b2))) rfl H ?_ ?_
     ·clear H; intro hb7 H
      refine sr ?_
      refine xs (.bool true) rfl rfl ?_
      refine xe ?_
      exact r_ret (fn := Try.f224) Try.func224 (res_1 rfl ⟨by decide, rfl⟩) H
     ·clear H; intro hb7 H
      refine r_skip ?_
      refine r_seq ?_
      refine sr ?_
      refine xm (I b2) rfl rfl ?_
      refine xm (I a1) rfl rfl ?_
      refine xp _ rfl (p_sub rfl rfl rfl) ?_
      refine xp _ rfl (p_lt rfl rfl rfl) ?_
      refine xe ?_
      refine r_condB (b := (decide ((W (b2 - a1)) < 50))) rfl H ?_ ?_
      ·clear H; intro hb8 H
       refine sr ?_
       refine xs (.bool false) rfl rfl ?_
       refine xe ?_
       exact r_ret (fn := Try.f224) Try.func224 (res_1 rfl ⟨by decide, rfl⟩) H
      ·clear H; intro hb8 H
       refine r_skip ?_
       refine r_seq ?_
       refine r_draw #[[], [], [], [], [3], [], [], [6], [5, 6, 7], [5, 6, 7, 8], [], [], [10, 11], [10, 11, 12], [0, 1, 5, 6, 7, 8, 9, 10, 11, 12, 13], [0, 1, 5, 6, 7, 8, 9, 10, 11, 12, 13, 14], [0, 1, 2, 3, 4, 5, 6, 7, 8, 9, 10, 11, 12, 13, 14, 15], [0, 1, 2, 3, 4, 5, 6, 7, 8, 9, 10, 11, 12, 13, 14, 15, 16]] 18 rfl rfl ?_
       refine am 0 (Sl.v data0) rfl rfl rfl ?_
       refine am 1 (I i7) rfl rfl rfl ?_
       refine am 2 (Sl.v data0) rfl rfl rfl ?_
       refine am 3 (I i7) rfl rfl rfl ?_
       refine ap 4 _ rfl rfl (p_sub rfl rfl rfl) ?_
       refine am 5 (Sl.v data0) rfl rfl rfl ?_
       refine am 6 (I i7) rfl rfl rfl ?_
       refine ap 7 _ rfl rfl (p_sub rfl rfl rfl) ?_
       obtain ⟨p_1, hap_1, hlp_1, hup_1, H⟩ := H
       refine ap 8 _ rfl rfl (p_indexAddr (s := data0) (ad := p_1) (size := 1) rfl u184 Try.ti3 rfl rfl hap_1 hlp_1 hup_1) ?_
       obtain ⟨adv_2, v_2, hev_2, hcv_2, H⟩ := H
       refine ar 9 (I v_2) rfl rfl (wo rfl) rfl u3 rfl rfl hev_2 hcv_2 ?_
       refine am 10 (Sl.v data0) rfl rfl rfl ?_
       refine am 11 (I i7) rfl rfl rfl ?_
       obtain ⟨p_3, hap_3, hlp_3, hup_3, H⟩ := H
       refine ap 12 _ rfl rfl (p_indexAddr (s := data0) (ad := p_3) (size := 1) rfl u184 Try.ti3 rfl rfl hap_3 hlp_3 hup_3) ?_
       obtain ⟨adv_4, v_4, hev_4, hcv_4, H⟩ := H
       refine ar 13 (I v_4) rfl rfl (wo rfl) rfl u3 rfl rfl hev_4 hcv_4 ?_
       obtain ⟨p_5, hap_5, hlp_5, hup_5, H⟩ := H
       refine ap 14 _ rfl rfl (p_indexAddr (s := data0) (ad := p_5) (size := 1) rfl u184 Try.ti3 rfl rfl hap_5 hlp_5 hup_5) ?_
       refine an 15 rfl rfl rfl (wo rfl) (e_store rfl Try.ti3 rfl rfl rfl H) fun _ w_2 H => ?_
       obtain ⟨p_6, hap_6, hlp_6, hup_6, H⟩ := H
       refine ap 16 _ rfl rfl (p_indexAddr (s := data0) (ad := p_6) (size := 1) rfl u184 Try.ti3 rfl rfl hap_6 hlp_6 hup_6) ?_
       refine an 17 rfl rfl rfl (wo rfl) (e_store rfl Try.ti3 rfl rfl rfl H) fun _ w_3 H => ?_
       refine ax ?_
       refine r_seqJ (fun (s : Sl × Int × Int × Int × Int) σ => upd 8 (I s.2.2.2.2) (upd 7 (I s.2.2.2.1) (upd 2 (I s.2.2.1) (upd 1 (I s.2.1) (upd 0 (Sl.v s.1) (σ)))))) (fun (s : Sl × Int × Int × Int × Int) w => f224_k4 R ag1 ag4 s.1 s.2.1 s.2.2.1 s.2.2.2.1 s.2.2.2.2 w) ?_ ?_
       ·rintro ⟨data0, a1, b2, i7, j8⟩ σ w H
        replace H : f224_k4 R ag1 ag4 data0 a1 b2 i7 j8 w := H
        try dsimp only
        unfold f224_k4 at H
        refine sr ?_
        refine xm (I b2) rfl rfl ?_
        refine xm (I i7) rfl rfl ?_
        refine xp _ rfl (p_sub rfl rfl rfl) ?_
        refine xp _ rfl (p_ge rfl rfl rfl) ?_
        refine xe ?_
        refine r_condB (b := (decide (2 ≤ (W (b2 - i7))))) rfl H ?_ ?_
        ·clear H; intro hb10 H
         refine sr ?_
         refine xm (I i7) rfl rfl ?_
         refine xp _ rfl (p_add rfl rfl rfl) ?_
         refine xs (I (W (i7 + 1))) rfl rfl ?_
         refine xe ?_
         refine r_block ?_
         refine ru4 0 (Sl.v data0) 1 (I a1) 2 (I b2) 7 (I i7) rfl rfl rfl rfl ?_
         refine ru2 8 (I j8) 10 (I (W (i7 + 1))) rfl rfl ?_
         refine r_loopJ (fun (s : Sl × Int × Int × Int × Int × Int) σ => upd 10 (I s.2.2.2.2.2) (upd 8 (I s.2.2.2.2.1) (upd 7 (I s.2.2.2.1) (upd 2 (I s.2.2.1) (upd 1 (I s.2.1) (upd 0 (Sl.v s.1) (σ))))))) (s := (data0, a1, b2, i7, j8, (W (i7 + 1)))) H ?_
         clear H
         rintro ag11 ⟨data0, a1, b2, i7, j8, j10⟩ σ w H hag11
         replace H : f224_b5 R ag1 ag4 ag11 data0 a1 b2 i7 j8 j10 w := H
         try dsimp only
         unfold f224_b5 at H
         refine r_seq ?_
         refine sr ?_
         refine xm (I j10) rfl rfl ?_
         refine xm (I b2) rfl rfl ?_
         refine xp _ rfl (p_lt rfl rfl rfl) ?_
         refine xe ?_
         refine r_condB (b := (decide (j10 < b2))) rfl H ?_ ?_
         ·clear H; intro hb12 H
          refine r_skip ?_
          refine sb ?_
          refine r_seq ?_
          refine r_seq ?_
          refine r_draw #[[], [], [0, 1], [0, 1, 2], [], [], [5], [4, 5, 6], [4, 5, 6, 7], [0, 1, 2, 3, 4, 5, 6, 7, 8], [0, 1, 2, 3, 4, 5, 6, 7, 8, 9]] 11 rfl rfl ?_
          refine am 0 (Sl.v data0) rfl rfl rfl ?_
          refine am 1 (I j10) rfl rfl rfl ?_
          obtain ⟨p_7, hap_7, hlp_7, hup_7, H⟩ := H
          refine ap 2 _ rfl rfl (p_indexAddr (s := data0) (ad := p_7) (size := 1) rfl u184 Try.ti3 rfl rfl hap_7 hlp_7 hup_7) ?_
          obtain ⟨adv_8, v_8, hev_8, hcv_8, H⟩ := H
          refine ar 3 (I v_8) rfl rfl (wo rfl) rfl u3 rfl rfl hev_8 hcv_8 ?_
          refine am 4 (Sl.v data0) rfl rfl rfl ?_
          refine am 5 (I j10) rfl rfl rfl ?_
          refine ap 6 _ rfl rfl (p_sub rfl rfl rfl) ?_
          obtain ⟨p_9, hap_9, hlp_9, hup_9, H⟩ := H
          refine ap 7 _ rfl rfl (p_indexAddr (s := data0) (ad := p_9) (size := 1) rfl u184 Try.ti3 rfl rfl hap_9 hlp_9 hup_9) ?_
          obtain ⟨adv_10, v_10, hev_10, hcv_10, H⟩ := H
          refine ar 8 (I v_10) rfl rfl (wo rfl) rfl u3 rfl rfl hev_10 hcv_10 ?_
          refine ae 9 [] rfl rfl rfl (wo rfl) (e_call (fn := Try.f225) H rfl rfl Try.func225 rfl rfl rfl) ?_
          rintro _ w_5 ⟨v_12, rfl, H⟩
          refine ⟨AllHeld.nil, ?_⟩
          refine ap 10 (.bool (!v_12)) rfl rfl (p_not rfl rfl) ?_
          refine ax ?_
          refine r_condB (b := (!v_12)) rfl H ?_ ?_
          ·clear H; intro hb13 H
           refine r_exit rfl ?_
           refine r_inBlock ?_
           refine ru4 0 (Sl.v data0) 1 (I a1) 2 (I b2) 7 (I i7) rfl rfl rfl rfl ?_
           refine ru 8 (I j8) rfl ?_
           exact J3 (data0, a1, b2, i7, j8) _ _ H
          ·clear H; intro hb13 H
           refine r_skip ?_
           refine r_draw #[[], [], [], [], [3], [], [], [6], [5, 6, 7], [5, 6, 7, 8], [], [], [10, 11], [10, 11, 12], [0, 1, 5, 6, 7, 8, 9, 10, 11, 12, 13], [0, 1, 5, 6, 7, 8, 9, 10, 11, 12, 13, 14], [0, 1, 2, 3, 4, 5, 6, 7, 8, 9, 10, 11, 12, 13, 14, 15], [0, 1, 2, 3, 4, 5, 6, 7, 8, 9, 10, 11, 12, 13, 14, 15, 16]] 18 rfl rfl ?_
           refine am 0 (Sl.v data0) rfl rfl rfl ?_
           refine am 1 (I j10) rfl rfl rfl ?_
           refine am 2 (Sl.v data0) rfl rfl rfl ?_
           refine am 3 (I j10) rfl rfl rfl ?_
           refine ap 4 _ rfl rfl (p_sub rfl rfl rfl) ?_
           refine am 5 (Sl.v data0) rfl rfl rfl ?_
           refine am 6 (I j10) rfl rfl rfl ?_
           refine ap 7 _ rfl rfl (p_sub rfl rfl rfl) ?_
           obtain ⟨p_13, hap_13, hlp_13, hup_13, H⟩ := H
           refine ap 8 _ rfl rfl (p_indexAddr (s := data0) (ad := p_13) (size := 1) rfl u184 Try.ti3 rfl rfl hap_13 hlp_13 hup_13) ?_
           obtain ⟨adv_14, v_14, hev_14, hcv_14, H⟩ := H
           refine ar 9 (I v_14) rfl rfl (wo rfl) rfl u3 rfl rfl hev_14 hcv_14 ?_
           refine am 10 (Sl.v data0) rfl rfl rfl ?_
           refine am 11 (I j10) rfl rfl rfl ?_
           obtain ⟨p_15, hap_15, hlp_15, hup_15, H⟩ := H
           refine ap 12 _ rfl rfl (p_indexAddr (s := data0) (ad := p_15) (size := 1) rfl u184 Try.ti3 rfl rfl hap_15 hlp_15 hup_15) ?_
           obtain ⟨adv_16, v_16, hev_16, hcv_16, H⟩ := H
           refine ar 13 (I v_16) rfl rfl (wo rfl) rfl u3 rfl rfl hev_16 hcv_16 ?_
           obtain ⟨p_17, hap_17, hlp_17, hup_17, H⟩ := H
           refine ap 14 _ rfl rfl (p_indexAddr (s := data0) (ad := p_17) (size := 1) rfl u184 Try.ti3 rfl rfl hap_17 hlp_17 hup_17) ?_
           refine an 15 rfl rfl rfl (wo rfl) (e_store rfl Try.ti3 rfl rfl rfl H) fun _ w_7 H => ?_
           obtain ⟨p_18, hap_18, hlp_18, hup_18, H⟩ := H
           refine ap 16 _ rfl rfl (p_indexAddr (s := data0) (ad := p_18) (size := 1) rfl u184 Try.ti3 rfl rfl hap_18 hlp_18 hup_18) ?_
           refine an 17 rfl rfl rfl (wo rfl) (e_store rfl Try.ti3 rfl rfl rfl H) fun _ w_8 H => ?_
           refine ax ?_
           refine r_inBlock ?_
           refine r_region ?_
           refine xm (I j10) rfl rfl ?_
           refine xp _ rfl (p_add rfl rfl rfl) ?_
           refine xs (I (W (j10 + 1))) rfl rfl ?_
           refine xe ?_
           refine ru4 0 (Sl.v data0) 1 (I a1) 2 (I b2) 7 (I i7) rfl rfl rfl rfl ?_
           refine ru2 8 (I j8) 10 (I (W (j10 + 1))) rfl rfl ?_
           exact hag11 (data0, a1, b2, i7, j8, (W (j10 + 1))) _ _ H
         ·clear H; intro hb12 H
          refine r_exit rfl ?_
          refine r_inBlock ?_
          refine ru4 0 (Sl.v data0) 1 (I a1) 2 (I b2) 7 (I i7) rfl rfl rfl rfl ?_
          refine ru 8 (I j8) rfl ?_
          exact J3 (data0, a1, b2, i7, j8) _ _ H
        ·clear H; intro hb10 H
         refine r_skip ?_
         refine r_inBlock ?_
         refine ru4 0 (Sl.v data0) 1 (I a1) 2 (I b2) 7 (I i7) rfl rfl rfl rfl ?_
         refine ru 8 (I j8) rfl ?_
         exact J3 (data0, a1, b2, i7, j8) _ _ H
       ·intro J9
        refine sr ?_
        refine xm (I i7) rfl rfl ?_
        refine xm (I a1) rfl rfl ?_
        refine xp _ rfl (p_sub rfl rfl rfl) ?_
        refine xp _ rfl (p_ge rfl rfl rfl) ?_
        refine xe ?_
        refine r_condB (b := (decide (2 ≤ (W (i7 - a1))))) rfl H ?_ ?_
        ·clear H; intro hb14 H
         refine sr ?_
         refine xm (I i7) rfl rfl ?_
         refine xp _ rfl (p_sub rfl rfl rfl) ?_
         refine xs (I (W (i7 - 1))) rfl rfl ?_
         refine xe ?_
         refine r_block ?_
         refine ru4 0 (Sl.v data0) 1 (I a1) 2 (I b2) 7 (I i7) rfl rfl rfl rfl ?_
         refine ru2 8 (I j8) 9 (I (W (i7 - 1))) rfl rfl ?_
         refine r_loopJ (fun (s : Sl × Int × Int × Int × Int × Int) σ => upd 9 (I s.2.2.2.2.2) (upd 8 (I s.2.2.2.2.1) (upd 7 (I s.2.2.2.1) (upd 2 (I s.2.2.1) (upd 1 (I s.2.1) (upd 0 (Sl.v s.1) (σ))))))) (s := (data0, a1, b2, i7, j8, (W (i7 - 1)))) H ?_
         clear H
         rintro ag15 ⟨data0, a1, b2, i7, j8, j9⟩ σ w H hag15
         replace H : f224_b6 R ag1 ag4 ag15 data0 a1 b2 i7 j8 j9 w := H
         try dsimp only
         unfold f224_b6 at H
         refine r_seq ?_
         refine sr ?_
         refine xm (I j9) rfl rfl ?_
         refine xp _ rfl (p_ge rfl rfl rfl) ?_
         refine xe ?_
         refine r_condB (b := (decide (1 ≤ j9))) rfl H ?_ ?_
         ·clear H; intro hb16 H
          refine r_skip ?_
          refine sb ?_
          refine r_seq ?_
          refine r_seq ?_
          refine r_draw #[[], [], [0, 1], [0, 1, 2], [], [], [5], [4, 5, 6], [4, 5, 6, 7], [0, 1, 2, 3, 4, 5, 6, 7, 8], [0, 1, 2, 3, 4, 5, 6, 7, 8, 9]] 11 rfl rfl ?_
          refine am 0 (Sl.v data0) rfl rfl rfl ?_
          refine am 1 (I j9) rfl rfl rfl ?_
          obtain ⟨p_19, hap_19, hlp_19, hup_19, H⟩ := H
          refine ap 2 _ rfl rfl (p_indexAddr (s := data0) (ad := p_19) (size := 1) rfl u184 Try.ti3 rfl rfl hap_19 hlp_19 hup_19) ?_
          obtain ⟨adv_20, v_20, hev_20, hcv_20, H⟩ := H
          refine ar 3 (I v_20) rfl rfl (wo rfl) rfl u3 rfl rfl hev_20 hcv_20 ?_
          refine am 4 (Sl.v data0) rfl rfl rfl ?_
          refine am 5 (I j9) rfl rfl rfl ?_
          refine ap 6 _ rfl rfl (p_sub rfl rfl rfl) ?_
          obtain ⟨p_21, hap_21, hlp_21, hup_21, H⟩ := H
          refine ap 7 _ rfl rfl (p_indexAddr (s := data0) (ad := p_21) (size := 1) rfl u184 Try.ti3 rfl rfl hap_21 hlp_21 hup_21) ?_
          obtain ⟨adv_22, v_22, hev_22, hcv_22, H⟩ := H
          refine ar 8 (I v_22) rfl rfl (wo rfl) rfl u3 rfl rfl hev_22 hcv_22 ?_
          refine ae 9 [] rfl rfl rfl (wo rfl) (e_call (fn := Try.f225) H rfl rfl Try.func225 rfl rfl rfl) ?_
          rintro _ w_10 ⟨v_24, rfl, H⟩
          refine ⟨AllHeld.nil, ?_⟩
          refine ap 10 (.bool (!v_24)) rfl rfl (p_not rfl rfl) ?_
          refine ax ?_
          refine r_condB (b := (!v_24)) rfl H ?_ ?_
          ·clear H; intro hb17 H
           refine r_exit rfl ?_
           refine ru4 0 (Sl.v data0) 1 (I a1) 2 (I b2) 7 (I i7) rfl rfl rfl rfl ?_
           refine ru 8 (I j8) rfl ?_
           exact J9 (data0, a1, b2, i7, j8) _ _ H
          ·clear H; intro hb17 H
           refine r_skip ?_
           refine r_draw #[[], [], [], [], [3], [], [], [6], [5, 6, 7], [5, 6, 7, 8], [], [], [10, 11], [10, 11, 12], [0, 1, 5, 6, 7, 8, 9, 10, 11, 12, 13], [0, 1, 5, 6, 7, 8, 9, 10, 11, 12, 13, 14], [0, 1, 2, 3, 4, 5, 6, 7, 8, 9, 10, 11, 12, 13, 14, 15], [0, 1, 2, 3, 4, 5, 6, 7, 8, 9, 10, 11, 12, 13, 14, 15, 16]] 18 rfl rfl ?_
           refine am 0 (Sl.v data0) rfl rfl rfl ?_
           refine am 1 (I j9) rfl rfl rfl ?_
           refine am 2 (Sl.v data0) rfl rfl rfl ?_
           refine am 3 (I j9) rfl rfl rfl ?_
           refine ap 4 _ rfl rfl (p_sub rfl rfl rfl) ?_
           refine am 5 (Sl.v data0) rfl rfl rfl ?_
           refine am 6 (I j9) rfl rfl rfl ?_
           refine ap 7 _ rfl rfl (p_sub rfl rfl rfl) ?_
           obtain ⟨p_25, hap_25, hlp_25, hup_25, H⟩ := H
           refine ap 8 _ rfl rfl (p_indexAddr (s := data0) (ad := p_25) (size := 1) rfl u184 Try.ti3 rfl rfl hap_25 hlp_25 hup_25) ?_
           obtain ⟨adv_26, v_26, hev_26, hcv_26, H⟩ := H
           refine ar 9 (I v_26) rfl rfl (wo rfl) rfl u3 rfl rfl hev_26 hcv_26 ?_
           refine am 10 (Sl.v data0) rfl rfl rfl ?_
           refine am 11 (I j9) rfl rfl rfl ?_
           obtain ⟨p_27, hap_27, hlp_27, hup_27, H⟩ := H
           refine ap 12 _ rfl rfl (p_indexAddr (s := data0) (ad := p_27) (size := 1) rfl u184 Try.ti3 rfl rfl hap_27 hlp_27 hup_27) ?_
           obtain ⟨adv_28, v_28, hev_28, hcv_28, H⟩ := H
           refine ar 13 (I v_28) rfl rfl (wo rfl) rfl u3 rfl rfl hev_28 hcv_28 ?_
           obtain ⟨p_29, hap_29, hlp_29, hup_29, H⟩ := H
           refine ap 14 _ rfl rfl (p_indexAddr (s := data0) (ad := p_29) (size := 1) rfl u184 Try.ti3 rfl rfl hap_29 hlp_29 hup_29) ?_
           refine an 15 rfl rfl rfl (wo rfl) (e_store rfl Try.ti3 rfl rfl rfl H) fun _ w_12 H => ?_
           obtain ⟨p_30, hap_30, hlp_30, hup_30, H⟩ := H
           refine ap 16 _ rfl rfl (p_indexAddr (s := data0) (ad := p_30) (size := 1) rfl u184 Try.ti3 rfl rfl hap_30 hlp_30 hup_30) ?_
           refine an 17 rfl rfl rfl (wo rfl) (e_store rfl Try.ti3 rfl rfl rfl H) fun _ w_13 H => ?_
           refine ax ?_
           refine r_inBlock ?_
           refine r_region ?_
           refine xm (I j9) rfl rfl ?_
           refine xp _ rfl (p_sub rfl rfl rfl) ?_
           refine xs (I (W (j9 - 1))) rfl rfl ?_
           refine xe ?_
           refine ru4 0 (Sl.v data0) 1 (I a1) 2 (I b2) 7 (I i7) rfl rfl rfl rfl ?_
           refine ru2 8 (I j8) 9 (I (W (j9 - 1))) rfl rfl ?_
           exact hag15 (data0, a1, b2, i7, j8, (W (j9 - 1))) _ _ H
         ·clear H; intro hb16 H
          refine r_exit rfl ?_
          refine ru4 0 (Sl.v data0) 1 (I a1) 2 (I b2) 7 (I i7) rfl rfl rfl rfl ?_
          refine ru 8 (I j8) rfl ?_
          exact J9 (data0, a1, b2, i7, j8) _ _ H
        ·clear H; intro hb14 H
         refine r_skip ?_
         refine ru4 0 (Sl.v data0) 1 (I a1) 2 (I b2) 7 (I i7) rfl rfl rfl rfl ?_
         refine ru 8 (I j8) rfl ?_
         exact J9 (data0, a1, b2, i7, j8) _ _ H
   ·intro J5
    refine r_draw #[[], [], [0, 1], [0, 1, 2], [0, 1, 2, 3], [0, 1, 2, 3], [0, 1, 2, 3, 4, 5], [0, 1, 2, 3, 4, 5, 6], [0, 1, 2, 3], [0, 1, 2, 3], [0, 1, 2, 3, 9], [0, 1, 2, 3, 8, 9, 10], [0, 1, 2, 3, 8, 9, 10, 11], [0, 1, 2, 3, 4, 5, 6, 7, 8, 9, 10, 11, 12], [0, 1, 2, 3, 4, 5, 6, 7, 8, 9, 10, 11, 12, 13], [0, 1, 2, 3, 4, 5, 6, 7, 8, 9, 10, 11, 12, 13, 14]] 16 rfl rfl ?_
    refine am 0 (I i7) rfl rfl rfl ?_
    refine am 1 (I b2) rfl rfl rfl ?_
    refine ap 2 _ rfl rfl (p_lt rfl rfl rfl) ?_
    refine am 3 (.bool (decide (i7 < b2))) rfl rfl rfl ?_
    refine ifB_cases H ?_ ?_
    ·clear H; intro hb18 H
     refine ay 4 (Sl.v data0) rfl rfl (wy 20 rfl rfl rfl hb18) (p_move rfl rfl) ?_
     refine ay 5 (I i7) rfl rfl (wy 20 rfl rfl rfl hb18) (p_move rfl rfl) ?_
     obtain ⟨p_31, hap_31, hlp_31, hup_31, H⟩ := H
     refine ay 6 (.pointer (some (p_31.add (i7.toNat * 1)))) rfl rfl (wy 20 rfl rfl rfl hb18) (p_indexAddr (s := data0) (ad := p_31) (size := 1) rfl u184 Try.ti3 rfl rfl hap_31 hlp_31 hup_31) ?_
     obtain ⟨adv_32, v_32, hev_32, hcv_32, H⟩ := H
     refine ar 7 (I v_32) rfl rfl (wy 20 rfl rfl rfl hb18) rfl u3 rfl rfl hev_32 hcv_32 ?_
     refine ay 8 (Sl.v data0) rfl rfl (wy 20 rfl rfl rfl hb18) (p_move rfl rfl) ?_
     refine ay 9 (I i7) rfl rfl (wy 20 rfl rfl rfl hb18) (p_move rfl rfl) ?_
     refine ay 10 (I (W (i7 - 1))) rfl rfl (wy 20 rfl rfl rfl hb18) (p_sub rfl rfl rfl) ?_
     obtain ⟨p_33, hap_33, hlp_33, hup_33, H⟩ := H
     refine ay 11 (.pointer (some (p_33.add ((W (i7 - 1)).toNat * 1)))) rfl rfl (wy 20 rfl rfl rfl hb18) (p_indexAddr (s := data0) (ad := p_33) (size := 1) rfl u184 Try.ti3 rfl rfl hap_33 hlp_33 hup_33) ?_
     obtain ⟨adv_34, v_34, hev_34, hcv_34, H⟩ := H
     refine ar 12 (I v_34) rfl rfl (wy 20 rfl rfl rfl hb18) rfl u3 rfl rfl hev_34 hcv_34 ?_
     refine ae 13 [] rfl rfl rfl (wy 20 rfl rfl rfl hb18) (e_call (fn := Try.f225) H rfl rfl Try.func225 rfl rfl rfl) ?_
     rintro _ w_15 ⟨v_36, rfl, H⟩
     refine ⟨AllHeld.nil, ?_⟩
     refine ay 14 (.bool (!v_36)) rfl rfl (wy 20 rfl rfl rfl hb18) (p_not rfl rfl) ?_
     refine ap 15 (.bool (!v_36)) rfl rfl (p_pickT rfl rfl hb18 rfl) ?_
     refine ax ?_
     refine ru4 0 (Sl.v data0) 1 (I a1) 2 (I b2) 7 (I i7) rfl rfl rfl rfl ?_
     refine ru2 8 (I j8) 32 (.bool (!v_36)) rfl rfl ?_
     exact J5 (data0, a1, b2, i7, j8, (!v_36)) _ _ H
    ·clear H; intro hb18 H
     refine ak 4 rfl rfl (wn 20 rfl rfl rfl hb18) ?_
     refine ak 5 rfl rfl (wn 20 rfl rfl rfl hb18) ?_
     refine ak 6 rfl rfl (wn 20 rfl rfl rfl hb18) ?_
     refine ak 7 rfl rfl (wn 20 rfl rfl rfl hb18) ?_
     refine ak 8 rfl rfl (wn 20 rfl rfl rfl hb18) ?_
     refine ak 9 rfl rfl (wn 20 rfl rfl rfl hb18) ?_
     refine ak 10 rfl rfl (wn 20 rfl rfl rfl hb18) ?_
     refine ak 11 rfl rfl (wn 20 rfl rfl rfl hb18) ?_
     refine ak 12 rfl rfl (wn 20 rfl rfl rfl hb18) ?_
     refine ak 13 rfl rfl (wn 20 rfl rfl rfl hb18) ?_
     refine ak 14 rfl rfl (wn 20 rfl rfl rfl hb18) ?_
     refine ap 15 (.bool false) rfl rfl (p_pickF rfl rfl hb18 rfl) ?_
     refine ax ?_
     refine ru4 0 (Sl.v data0) 1 (I a1) 2 (I b2) 7 (I i7) rfl rfl rfl rfl ?_
     refine ru2 8 (I j8) 32 (.bool false) rfl rfl ?_
     exact J5 (data0, a1, b2, i7, j8, false) _ _ H
 ·clear H; intro hb2 H
  refine r_exit rfl ?_
  refine sr ?_
  refine xs (.bool false) rfl rfl ?_
  refine xe ?_
  exact r_ret (fn := Try.f224) Try.func224 (res_1 rfl ⟨by decide, rfl⟩) H

/-! 225 cmp.Less[int] -/
def f225 (R : Value → World → Prop) (x0 : Int) (y1 : Int) (w : World) : Prop :=
 CallF Try.prog 250 #[(.int .i64 x0)] w fun u_1 w_1 => As Value.bool u_1 fun v_2 =>
 IfB v_2 (
  CallF Try.prog 250 #[(.int .i64 y1)] w_1 fun u_3 w_2 => As Value.bool u_3 fun v_4 =>
  IfB (!v_4) (
   R (.bool true) w_2) (
   R (.bool (decide (x0 < y1))) w_2)) (
  R (.bool (decide (x0 < y1))) w_1)
theorem f225_ok (R : Value → World → Prop) (x0 : Int) (y1 : Int) (w : World) (H : f225 R x0 y1 w) : CallF Try.prog 225 #[(.int .i64 x0), (.int .i64 y1)] w R := by
 refine calls_of_runs (fn := Try.f225) Try.func225 rfl (Nat.le_of_ble_eq_true rfl) ?_
 show Runs _ _ 17 _ _ _ _
 unfold f225 at H
 refine ru2 0 (I x0) 1 (I y1) rfl rfl ?_
 refine sr ?_
 refine xs (.bool false) rfl rfl ?_
 refine xe ?_
 refine sr ?_
 refine xm (I x0) rfl rfl ?_
 refine xo_eff rfl (wo rfl) (e_call (fn := Try.f250) H rfl rfl Try.func250 rfl rfl rfl) ?_
 rintro _ w_1 ⟨v_2, rfl, H⟩
 refine xm (.bool v_2) rfl rfl ?_
 refine ifB_cases H ?_ ?_
 ·clear H; intro hb1 H
  refine yp (I y1) rfl (wy 7 rfl rfl rfl hb1) (p_move rfl rfl) ?_
  refine xo_eff rfl (wy 7 rfl rfl rfl hb1) (e_call (fn := Try.f250) H rfl rfl Try.func250 rfl rfl rfl) ?_
  rintro _ w_2 ⟨v_4, rfl, H⟩
  refine yp (.bool (!v_4)) rfl (wy 7 rfl rfl rfl hb1) (p_not rfl rfl) ?_
  refine xp (.bool (!v_4)) rfl (p_pickT rfl rfl hb1 rfl) ?_
  refine xm (.bool (!v_4)) rfl rfl ?_
  refine ifB_cases H ?_ ?_
  ·clear H; intro hb2 H
   refine xo_skip rfl (wn 12 rfl rfl rfl hb2) ?_
   refine xo_skip rfl (wn 12 rfl rfl rfl hb2) ?_
   refine xo_skip rfl (wn 12 rfl rfl rfl hb2) ?_
   refine xp (.bool true) rfl (p_pickT rfl rfl hb2 rfl) ?_
   refine xs (.bool true) rfl rfl ?_
   refine xe ?_
   exact r_ret (fn := Try.f225) Try.func225 (res_1 rfl ⟨by decide, rfl⟩) H
  ·clear H; intro hb2 H
   refine yp (I x0) rfl (wy 12 rfl rfl rfl hb2) (p_move rfl rfl) ?_
   refine yp (I y1) rfl (wy 12 rfl rfl rfl hb2) (p_move rfl rfl) ?_
   refine yp (.bool (decide (x0 < y1))) rfl (wy 12 rfl rfl rfl hb2) (p_lt rfl rfl rfl) ?_
   refine xp (.bool (decide (x0 < y1))) rfl (p_pickF rfl rfl hb2 rfl) ?_
   refine xs (.bool (decide (x0 < y1))) rfl rfl ?_
   refine xe ?_
   exact r_ret (fn := Try.f225) Try.func225 (res_1 rfl ⟨by decide, rfl⟩) H
 ·clear H; intro hb1 H
  refine xo_skip rfl (wn 7 rfl rfl rfl hb1) ?_
  refine xo_skip rfl (wn 7 rfl rfl rfl hb1) ?_
  refine xo_skip rfl (wn 7 rfl rfl rfl hb1) ?_
  refine xp (.bool false) rfl (p_pickF rfl rfl hb1 rfl) ?_
  refine xm (.bool false) rfl rfl ?_
  refine yp (I x0) rfl (wy 12 rfl rfl rfl rfl) (p_move rfl rfl) ?_
  refine yp (I y1) rfl (wy 12 rfl rfl rfl rfl) (p_move rfl rfl) ?_
  refine yp (.bool (decide (x0 < y1))) rfl (wy 12 rfl rfl rfl rfl) (p_lt rfl rfl rfl) ?_
  refine xp (.bool (decide (x0 < y1))) rfl (p_pickF rfl rfl rfl rfl) ?_
  refine xs (.bool (decide (x0 < y1))) rfl rfl ?_
  refine xe ?_
  exact r_ret (fn := Try.f225) Try.func225 (res_1 rfl ⟨by decide, rfl⟩) H

/-! 226 slices.partitionEqualOrdered[int] -/
def f226_k4 (R : Value → World → Prop) (ag1 : (Sl × Int × Int × Int) → World → Prop) (ag2 : (Sl × Int × Int × Int) → World → Prop) (ag5 : (Sl × Int × Int × Int) → World → Prop) (data0 : Sl) (a1 : Int) (i9 : Int) (j10 : Int) (t59 : Bool) (w : World) : Prop :=
 IfB t59 (
  ag5 (data0, a1, i9, (IntKind.i64.wrap (j10 - 1))) w) (
  IfB (decide (j10 < i9)) (
   R (.int .i64 i9) w) (
   Ix data0 j10 fun p_7 =>
   Ld (Value.int .i64) (some (p_7.add (j10.toNat * 1))) (World.drew w) fun v_8 =>
   Ix data0 i9 fun p_9 =>
   Ld (Value.int .i64) (some (p_9.add (i9.toNat * 1))) (World.drew w) fun v_10 =>
   Ix data0 i9 fun p_11 =>
   St (some (p_11.add (i9.toNat * 1))) (.int .i64 v_8) (World.drew w) fun w_5 =>
   Ix data0 j10 fun p_12 =>
   St (some (p_12.add (j10.toNat * 1))) (.int .i64 v_10) w_5 fun w_6 =>
   ag1 (data0, a1, (IntKind.i64.wrap (i9 + 1)), (IntKind.i64.wrap (j10 - 1))) w_6))
def f226_b3 (R : Value → World → Prop) (ag1 : (Sl × Int × Int × Int) → World → Prop) (ag2 : (Sl × Int × Int × Int) → World → Prop) (ag5 : (Sl × Int × Int × Int) → World → Prop) (data0 : Sl) (a1 : Int) (i9 : Int) (j10 : Int) (w : World) : Prop :=
 IfB (decide (i9 ≤ j10)) (
  Ix data0 a1 fun p_13 =>
  Ld (Value.int .i64) (some (p_13.add (a1.toNat * 1))) (World.drew w) fun v_14 =>
  Ix data0 j10 fun p_15 =>
  Ld (Value.int .i64) (some (p_15.add (j10.toNat * 1))) (World.drew w) fun v_16 =>
  CallF Try.prog 225 #[(.int .i64 v_14), (.int .i64 v_16)] (World.drew w) fun u_17 w_8 => As Value.bool u_17 fun v_18 =>
  f226_k4 R ag1 ag2 ag5 data0 a1 i9 j10 v_18 w_8) (
  f226_k4 R ag1 ag2 ag5 data0 a1 i9 j10 false (World.drew w))
def f226_k2 (R : Value → World → Prop) (ag1 : (Sl × Int × Int × Int) → World → Prop) (ag2 : (Sl × Int × Int × Int) → World → Prop) (data0 : Sl) (a1 : Int) (i9 : Int) (j10 : Int) (t43 : Bool) (w : World) : Prop :=
 IfB t43 (
  ag2 (data0, a1, (IntKind.i64.wrap (i9 + 1)), j10) w) (
  Lp (fun ag (s : Sl × Int × Int × Int) w => f226_b3 R ag1 ag2 ag s.1 s.2.1 s.2.2.1 s.2.2.2 w) (data0, a1, i9, j10) w)
def f226_b1 (R : Value → World → Prop) (ag1 : (Sl × Int × Int × Int) → World → Prop) (ag2 : (Sl × Int × Int × Int) → World → Prop) (data0 : Sl) (a1 : Int) (i9 : Int) (j10 : Int) (w : World) : Prop :=
 IfB (decide (i9 ≤ j10)) (
  Ix data0 a1 fun p_19 =>
  Ld (Value.int .i64) (some (p_19.add (a1.toNat * 1))) (World.drew w) fun v_20 =>
  Ix data0 i9 fun p_21 =>
  Ld (Value.int .i64) (some (p_21.add (i9.toNat * 1))) (World.drew w) fun v_22 =>
  CallF Try.prog 225 #[(.int .i64 v_20), (.int .i64 v_22)] (World.drew w) fun u_23 w_10 => As Value.bool u_23 fun v_24 =>
  f226_k2 R ag1 ag2 data0 a1 i9 j10 (!v_24) w_10) (
  f226_k2 R ag1 ag2 data0 a1 i9 j10 false (World.drew w))
def f226_b0 (R : Value → World → Prop) (ag1 : (Sl × Int × Int × Int) → World → Prop) (data0 : Sl) (a1 : Int) (i9 : Int) (j10 : Int) (w : World) : Prop :=
 Lp (fun ag (s : Sl × Int × Int × Int) w => f226_b1 R ag1 ag s.1 s.2.1 s.2.2.1 s.2.2.2 w) (data0, a1, i9, j10) w
def f226 (R : Value → World → Prop) (data0 : Sl) (a1 : Int) (b2 : Int) (pivot3 : Int) (w : World) : Prop :=
 Ix data0 pivot3 fun p_1 =>
 Ld (Value.int .i64) (some (p_1.add (pivot3.toNat * 1))) (World.drew w) fun v_2 =>
 Ix data0 a1 fun p_3 =>
 Ld (Value.int .i64) (some (p_3.add (a1.toNat * 1))) (World.drew w) fun v_4 =>
 Ix data0 a1 fun p_5 =>
 St (some (p_5.add (a1.toNat * 1))) (.int .i64 v_2) (World.drew w) fun w_2 =>
 Ix data0 pivot3 fun p_6 =>
 St (some (p_6.add (pivot3.toNat * 1))) (.int .i64 v_4) w_2 fun w_3 =>
 Lp (fun ag (s : Sl × Int × Int × Int) w => f226_b0 R ag s.1 s.2.1 s.2.2.1 s.2.2.2 w) (data0, a1, (IntKind.i64.wrap (a1 + 1)), (IntKind.i64.wrap (b2 - 1))) w_3
theorem f226_ok (R : Value → World → Prop) (data0 : Sl) (a1 : Int) (b2 : Int) (pivot3 : Int) (w : World) (H : f226 R data0 a1 b2 pivot3 w) : CallF Try.prog 226 #[(Sl.v data0), (.int .i64 a1), (.int .i64 b2), (.int .i64 pivot3)] w R := by
 refine calls_of_runs (fn := Try.f226) Try.func226 rfl (Nat.le_of_ble_eq_true rfl) ?_
 show Runs _ _ 84 _ _ _ _
 unfold f226 at H
 refine ru4 0 (Sl.v data0) 1 (I a1) 2 (I b2) 3 (I pivot3) rfl rfl rfl rfl ?_
 refine sr ?_
 refine xs (I 0) rfl rfl ?_
 refine xe ?_
 refine r_seq ?_
 refine r_draw #[[], [], [], [], [], [], [4, 5], [4, 5, 6], [], [], [8, 9], [8, 9, 10], [0, 1, 4, 5, 6, 7, 8, 9, 10, 11], [0, 1, 4, 5, 6, 7, 8, 9, 10, 11, 12], [0, 1, 2, 3, 4, 5, 6, 7, 8, 9, 10, 11, 12, 13], [0, 1, 2, 3, 4, 5, 6, 7, 8, 9, 10, 11, 12, 13, 14]] 16 rfl rfl ?_
 refine am 0 (Sl.v data0) rfl rfl rfl ?_
 refine am 1 (I a1) rfl rfl rfl ?_
 refine am 2 (Sl.v data0) rfl rfl rfl ?_
 refine am 3 (I pivot3) rfl rfl rfl ?_
 refine am 4 (Sl.v data0) rfl rfl rfl ?_
 refine am 5 (I pivot3) rfl rfl rfl ?_
 obtain ⟨p_1, hap_1, hlp_1, hup_1, H⟩ := H
 refine ap 6 _ rfl rfl (p_indexAddr (s := data0) (ad := p_1) (size := 1) rfl u184 Try.ti3 rfl rfl hap_1 hlp_1 hup_1) ?_
 obtain ⟨adv_2, v_2, hev_2, hcv_2, H⟩ := H
 refine ar 7 (I v_2) rfl rfl (wo rfl) rfl u3 rfl rfl hev_2 hcv_2 ?_
 refine am 8 (Sl.v data0) rfl rfl rfl ?_
 refine am 9 (I a1) rfl rfl rfl ?_
 obtain ⟨p_3, hap_3, hlp_3, hup_3, H⟩ := H
 refine ap 10 _ rfl rfl (p_indexAddr (s := data0) (ad := p_3) (size := 1) rfl u184 Try.ti3 rfl rfl hap_3 hlp_3 hup_3) ?_
 obtain ⟨adv_4, v_4, hev_4, hcv_4, H⟩ := H
 refine ar 11 (I v_4) rfl rfl (wo rfl) rfl u3 rfl rfl hev_4 hcv_4 ?_
 obtain ⟨p_5, hap_5, hlp_5, hup_5, H⟩ := H
 refine ap 12 _ rfl rfl (p_indexAddr (s := data0) (ad := p_5) (size := 1) rfl u184 Try.ti3 rfl rfl hap_5 hlp_5 hup_5) ?_
 refine an 13 rfl rfl rfl (wo rfl) (e_store rfl Try.ti3 rfl rfl rfl H) fun _ w_2 H => ?_
 obtain ⟨p_6, hap_6, hlp_6, hup_6, H⟩ := H
 refine ap 14 _ rfl rfl (p_indexAddr (s := data0) (ad := p_6) (size := 1) rfl u184 Try.ti3 rfl rfl hap_6 hlp_6 hup_6) ?_
 refine an 15 rfl rfl rfl (wo rfl) (e_store rfl Try.ti3 rfl rfl rfl H) fun _ w_3 H => ?_
 refine ax ?_
 refine sr ?_
 refine xm (I a1) rfl rfl ?_
 refine xp _ rfl (p_add rfl rfl rfl) ?_
 refine xm (I b2) rfl rfl ?_
 refine xp _ rfl (p_sub rfl rfl rfl) ?_
 refine xs (I (W (a1 + 1))) rfl rfl ?_
 refine xs (I (W (b2 - 1))) rfl rfl ?_
 refine xe ?_
 refine sb ?_
 refine ru4 0 (Sl.v data0) 1 (I a1) 9 (I (W (a1 + 1))) 10 (I (W (b2 - 1))) rfl rfl rfl rfl ?_
 refine r_loopJ (fun (s : Sl × Int × Int × Int) σ => upd 10 (I s.2.2.2) (upd 9 (I s.2.2.1) (upd 1 (I s.2.1) (upd 0 (Sl.v s.1) (σ))))) (s := (data0, a1, (W (a1 + 1)), (W (b2 - 1)))) H ?_
 clear H
 rintro ag1 ⟨data0, a1, i9, j10⟩ σ w H hag1
 replace H : f226_b0 R ag1 data0 a1 i9 j10 w := H
 try dsimp only
 unfold f226_b0 at H
 refine r_block ?_
 refine sb ?_
 refine ru4 0 (Sl.v data0) 1 (I a1) 9 (I i9) 10 (I j10) rfl rfl rfl rfl ?_
 refine r_loopJ (fun (s : Sl × Int × Int × Int) σ => upd 10 (I s.2.2.2) (upd 9 (I s.2.2.1) (upd 1 (I s.2.1) (upd 0 (Sl.v s.1) (σ))))) (s := (data0, a1, i9, j10)) H ?_
 clear H
 rintro ag2 ⟨data0, a1, i9, j10⟩ σ w H hag2
 replace H : f226_b1 R ag1 ag2 data0 a1 i9 j10 w := H
 try dsimp only
 unfold f226_b1 at H
 refine r_seq ?_
 refine r_seq ?_
 refine r_topJ (fun (s : Sl × Int × Int × Int × Bool) σ => upd 43 (.bool s.2.2.2.2) (upd 10 (I s.2.2.2.1) (upd 9 (I s.2.2.1) (upd 1 (I s.2.1) (upd 0 (Sl.v s.1) (σ)))))) (fun (s : Sl × Int × Int × Int × Bool) w => f226_k2 R ag1 ag2 s.1 s.2.1 s.2.2.1 s.2.2.2.1 s.2.2.2.2 w) ?_ ?_
 ·rintro ⟨data0, a1, i9, j10, t43⟩ σ w H
  replace H : f226_k2 R ag1 ag2 data0 a1 i9 j10 t43 w := H
  try dsimp only
  unfold f226_k2 at H
  refine r_condB (b := t43) rfl H ?_ ?_
  ·clear H; intro hb4 H
   refine r_skip ?_
   refine r_block ?_
   refine r_region ?_
   refine xm (I i9) rfl rfl ?_
   refine xp _ rfl (p_add rfl rfl rfl) ?_
   refine xs (I (W (i9 + 1))) rfl rfl ?_
   refine xe ?_
   refine r_inBlock ?_
   refine ru4 0 (Sl.v data0) 1 (I a1) 9 (I (W (i9 + 1))) 10 (I j10) rfl rfl rfl rfl ?_
   exact hag2 (data0, a1, (W (i9 + 1)), j10) _ _ H
  ·clear H; intro hb4 H
   refine r_exit rfl ?_
   refine sb ?_
   refine ru4 0 (Sl.v data0) 1 (I a1) 9 (I i9) 10 (I j10) rfl rfl rfl rfl ?_
   refine r_loopJ (fun (s : Sl × Int × Int × Int) σ => upd 10 (I s.2.2.2) (upd 9 (I s.2.2.1) (upd 1 (I s.2.1) (upd 0 (Sl.v s.1) (σ))))) (s := (data0, a1, i9, j10)) H ?_
   clear H
   rintro ag5 ⟨data0, a1, i9, j10⟩ σ w H hag5
   replace H : f226_b3 R ag1 ag2 ag5 data0 a1 i9 j10 w := H
   try dsimp only
   unfold f226_b3 at H
   refine r_seq ?_
   refine r_seq ?_
   refine r_topJ (fun (s : Sl × Int × Int × Int × Bool) σ => upd 59 (.bool s.2.2.2.2) (upd 10 (I s.2.2.2.1) (upd 9 (I s.2.2.1) (upd 1 (I s.2.1) (upd 0 (Sl.v s.1) (σ)))))) (fun (s : Sl × Int × Int × Int × Bool) w => f226_k4 R ag1 ag2 ag5 s.1 s.2.1 s.2.2.1 s.2.2.2.1 s.2.2.2.2 w) ?_ ?_
   ·rintro ⟨data0, a1, i9, j10, t59⟩ σ w H
    replace H : f226_k4 R ag1 ag2 ag5 data0 a1 i9 j10 t59 w := H
    try dsimp only
    unfold f226_k4 at H
    refine r_condB (b := t59) rfl H ?_ ?_
    ·clear H; intro hb7 H
     refine r_skip ?_
     refine r_block ?_
     refine r_region ?_
     refine xm (I j10) rfl rfl ?_
     refine xp _ rfl (p_sub rfl rfl rfl) ?_
     refine xs (I (W (j10 - 1))) rfl rfl ?_
     refine xe ?_
     refine r_inBlock ?_
     refine ru4 0 (Sl.v data0) 1 (I a1) 9 (I i9) 10 (I (W (j10 - 1))) rfl rfl rfl rfl ?_
     exact hag5 (data0, a1, i9, (W (j10 - 1))) _ _ H
    ·clear H; intro hb7 H
     refine r_exit rfl ?_
     refine r_seq ?_
     refine sr ?_
     refine xm (I i9) rfl rfl ?_
     refine xm (I j10) rfl rfl ?_
     refine xp _ rfl (p_gt rfl rfl rfl) ?_
     refine xe ?_
     refine r_condB (b := (decide (j10 < i9))) rfl H ?_ ?_
     ·clear H; intro hb8 H
      refine r_exit rfl ?_
      refine sr ?_
      refine xm (I i9) rfl rfl ?_
      refine xs (I i9) rfl rfl ?_
      refine xe ?_
      exact r_ret (fn := Try.f226) Try.func226 (res_1 rfl ⟨by decide, rfl⟩) H
     ·clear H; intro hb8 H
      refine r_skip ?_
      refine r_seq ?_
      refine r_draw #[[], [], [], [], [], [], [4, 5], [4, 5, 6], [], [], [8, 9], [8, 9, 10], [0, 1, 4, 5, 6, 7, 8, 9, 10, 11], [0, 1, 4, 5, 6, 7, 8, 9, 10, 11, 12], [0, 1, 2, 3, 4, 5, 6, 7, 8, 9, 10, 11, 12, 13], [0, 1, 2, 3, 4, 5, 6, 7, 8, 9, 10, 11, 12, 13, 14]] 16 rfl rfl ?_
      refine am 0 (Sl.v data0) rfl rfl rfl ?_
      refine am 1 (I i9) rfl rfl rfl ?_
      refine am 2 (Sl.v data0) rfl rfl rfl ?_
      refine am 3 (I j10) rfl rfl rfl ?_
      refine am 4 (Sl.v data0) rfl rfl rfl ?_
      refine am 5 (I j10) rfl rfl rfl ?_
      obtain ⟨p_7, hap_7, hlp_7, hup_7, H⟩ := H
      refine ap 6 _ rfl rfl (p_indexAddr (s := data0) (ad := p_7) (size := 1) rfl u184 Try.ti3 rfl rfl hap_7 hlp_7 hup_7) ?_
      obtain ⟨adv_8, v_8, hev_8, hcv_8, H⟩ := H
      refine ar 7 (I v_8) rfl rfl (wo rfl) rfl u3 rfl rfl hev_8 hcv_8 ?_
      refine am 8 (Sl.v data0) rfl rfl rfl ?_
      refine am 9 (I i9) rfl rfl rfl ?_
      obtain ⟨p_9, hap_9, hlp_9, hup_9, H⟩ := H
      refine ap 10 _ rfl rfl (p_indexAddr (s := data0) (ad := p_9) (size := 1) rfl u184 Try.ti3 rfl rfl hap_9 hlp_9 hup_9) ?_
      obtain ⟨adv_10, v_10, hev_10, hcv_10, H⟩ := H
      refine ar 11 (I v_10) rfl rfl (wo rfl) rfl u3 rfl rfl hev_10 hcv_10 ?_
      obtain ⟨p_11, hap_11, hlp_11, hup_11, H⟩ := H
      refine ap 12 _ rfl rfl (p_indexAddr (s := data0) (ad := p_11) (size := 1) rfl u184 Try.ti3 rfl rfl hap_11 hlp_11 hup_11) ?_
      refine an 13 rfl rfl rfl (wo rfl) (e_store rfl Try.ti3 rfl rfl rfl H) fun _ w_5 H => ?_
      obtain ⟨p_12, hap_12, hlp_12, hup_12, H⟩ := H
      refine ap 14 _ rfl rfl (p_indexAddr (s := data0) (ad := p_12) (size := 1) rfl u184 Try.ti3 rfl rfl hap_12 hlp_12 hup_12) ?_
      refine an 15 rfl rfl rfl (wo rfl) (e_store rfl Try.ti3 rfl rfl rfl H) fun _ w_6 H => ?_
      refine ax ?_
      refine sr ?_
      refine xm (I i9) rfl rfl ?_
      refine xp _ rfl (p_add rfl rfl rfl) ?_
      refine xs (I (W (i9 + 1))) rfl rfl ?_
      refine xe ?_
      refine r_region ?_
      refine xm (I j10) rfl rfl ?_
      refine xp _ rfl (p_sub rfl rfl rfl) ?_
      refine xs (I (W (j10 - 1))) rfl rfl ?_
      refine xe ?_
      refine r_inBlock ?_
      refine ru4 0 (Sl.v data0) 1 (I a1) 9 (I (W (i9 + 1))) 10 (I (W (j10 - 1))) rfl rfl rfl rfl ?_
      exact hag1 (data0, a1, (W (i9 + 1)), (W (j10 - 1))) _ _ H
   ·intro J6
    refine r_draw #[[], [], [0, 1], [0, 1, 2], [0, 1, 2, 3], [0, 1, 2, 3], [0, 1, 2, 3, 4, 5], [0, 1, 2, 3, 4, 5, 6], [0, 1, 2, 3], [0, 1, 2, 3], [0, 1, 2, 3, 8, 9], [0, 1, 2, 3, 8, 9, 10], [0, 1, 2, 3, 4, 5, 6, 7, 8, 9, 10, 11], [0, 1, 2, 3, 4, 5, 6, 7, 8, 9, 10, 11, 12]] 14 rfl rfl ?_
    refine am 0 (I i9) rfl rfl rfl ?_
    refine am 1 (I j10) rfl rfl rfl ?_
    refine ap 2 _ rfl rfl (p_le rfl rfl rfl) ?_
    refine am 3 (.bool (decide (i9 ≤ j10))) rfl rfl rfl ?_
    refine ifB_cases H ?_ ?_
    ·clear H; intro hb9 H
     refine ay 4 (Sl.v data0) rfl rfl (wy 49 rfl rfl rfl hb9) (p_move rfl rfl) ?_
     refine ay 5 (I a1) rfl rfl (wy 49 rfl rfl rfl hb9) (p_move rfl rfl) ?_
     obtain ⟨p_13, hap_13, hlp_13, hup_13, H⟩ := H
     refine ay 6 (.pointer (some (p_13.add (a1.toNat * 1)))) rfl rfl (wy 49 rfl rfl rfl hb9) (p_indexAddr (s := data0) (ad := p_13) (size := 1) rfl u184 Try.ti3 rfl rfl hap_13 hlp_13 hup_13) ?_
     obtain ⟨adv_14, v_14, hev_14, hcv_14, H⟩ := H
     refine ar 7 (I v_14) rfl rfl (wy 49 rfl rfl rfl hb9) rfl u3 rfl rfl hev_14 hcv_14 ?_
     refine ay 8 (Sl.v data0) rfl rfl (wy 49 rfl rfl rfl hb9) (p_move rfl rfl) ?_
     refine ay 9 (I j10) rfl rfl (wy 49 rfl rfl rfl hb9) (p_move rfl rfl) ?_
     obtain ⟨p_15, hap_15, hlp_15, hup_15, H⟩ := H
     refine ay 10 (.pointer (some (p_15.add (j10.toNat * 1)))) rfl rfl (wy 49 rfl rfl rfl hb9) (p_indexAddr (s := data0) (ad := p_15) (size := 1) rfl u184 Try.ti3 rfl rfl hap_15 hlp_15 hup_15) ?_
     obtain ⟨adv_16, v_16, hev_16, hcv_16, H⟩ := H
     refine ar 11 (I v_16) rfl rfl (wy 49 rfl rfl rfl hb9) rfl u3 rfl rfl hev_16 hcv_16 ?_
     refine ae 12 [] rfl rfl rfl (wy 49 rfl rfl rfl hb9) (e_call (fn := Try.f225) H rfl rfl Try.func225 rfl rfl rfl) ?_
     rintro _ w_8 ⟨v_18, rfl, H⟩
     refine ⟨AllHeld.nil, ?_⟩
     refine ap 13 (.bool v_18) rfl rfl (p_pickT rfl rfl hb9 rfl) ?_
     refine ax ?_
     refine ru4 0 (Sl.v data0) 1 (I a1) 9 (I i9) 10 (I j10) rfl rfl rfl rfl ?_
     refine ru 59 (.bool v_18) rfl ?_
     exact J6 (data0, a1, i9, j10, v_18) _ _ H
    ·clear H; intro hb9 H
     refine ak 4 rfl rfl (wn 49 rfl rfl rfl hb9) ?_
     refine ak 5 rfl rfl (wn 49 rfl rfl rfl hb9) ?_
     refine ak 6 rfl rfl (wn 49 rfl rfl rfl hb9) ?_
     refine ak 7 rfl rfl (wn 49 rfl rfl rfl hb9) ?_
     refine ak 8 rfl rfl (wn 49 rfl rfl rfl hb9) ?_
     refine ak 9 rfl rfl (wn 49 rfl rfl rfl hb9) ?_
     refine ak 10 rfl rfl (wn 49 rfl rfl rfl hb9) ?_
     refine ak 11 rfl rfl (wn 49 rfl rfl rfl hb9) ?_
     refine ak 12 rfl rfl (wn 49 rfl rfl rfl hb9) ?_
     refine ap 13 (.bool false) rfl rfl (p_pickF rfl rfl hb9 rfl) ?_
     refine ax ?_
     refine ru4 0 (Sl.v data0) 1 (I a1) 9 (I i9) 10 (I j10) rfl rfl rfl rfl ?_
     refine ru 59 (.bool false) rfl ?_
     exact J6 (data0, a1, i9, j10, false) _ _ H
 ·intro J3
  refine r_draw #[[], [], [0, 1], [0, 1, 2], [0, 1, 2, 3], [0, 1, 2, 3], [0, 1, 2, 3, 4, 5], [0, 1, 2, 3, 4, 5, 6], [0, 1, 2, 3], [0, 1, 2, 3], [0, 1, 2, 3, 8, 9], [0, 1, 2, 3, 8, 9, 10], [0, 1, 2, 3, 4, 5, 6, 7, 8, 9, 10, 11], [0, 1, 2, 3, 4, 5, 6, 7, 8, 9, 10, 11, 12], [0, 1, 2, 3, 4, 5, 6, 7, 8, 9, 10, 11, 12, 13]] 15 rfl rfl ?_
  refine am 0 (I i9) rfl rfl rfl ?_
  refine am 1 (I j10) rfl rfl rfl ?_
  refine ap 2 _ rfl rfl (p_le rfl rfl rfl) ?_
  refine am 3 (.bool (decide (i9 ≤ j10))) rfl rfl rfl ?_
  refine ifB_cases H ?_ ?_
  ·clear H; intro hb10 H
   refine ay 4 (Sl.v data0) rfl rfl (wy 32 rfl rfl rfl hb10) (p_move rfl rfl) ?_
   refine ay 5 (I a1) rfl rfl (wy 32 rfl rfl rfl hb10) (p_move rfl rfl) ?_
   obtain ⟨p_19, hap_19, hlp_19, hup_19, H⟩ := H
   refine ay 6 (.pointer (some (p_19.add (a1.toNat * 1)))) rfl rfl (wy 32 rfl rfl rfl hb10) (p_indexAddr (s := data0) (ad := p_19) (size := 1) rfl u184 Try.ti3 rfl rfl hap_19 hlp_19 hup_19) ?_
   obtain ⟨adv_20, v_20, hev_20, hcv_20, H⟩ := H
   refine ar 7 (I v_20) rfl rfl (wy 32 rfl rfl rfl hb10) rfl u3 rfl rfl hev_20 hcv_20 ?_
   refine ay 8 (Sl.v data0) rfl rfl (wy 32 rfl rfl rfl hb10) (p_move rfl rfl) ?_
   refine ay 9 (I i9) rfl rfl (wy 32 rfl rfl rfl hb10) (p_move rfl rfl) ?_
   obtain ⟨p_21, hap_21, hlp_21, hup_21, H⟩ := H
   refine ay 10 (.pointer (some (p_21.add (i9.toNat * 1)))) rfl rfl (wy 32 rfl rfl rfl hb10) (p_indexAddr (s := data0) (ad := p_21) (size := 1) rfl u184 Try.ti3 rfl rfl hap_21 hlp_21 hup_21) ?_
   obtain ⟨adv_22, v_22, hev_22, hcv_22, H⟩ := H
   refine ar 11 (I v_22) rfl rfl (wy 32 rfl rfl rfl hb10) rfl u3 rfl rfl hev_22 hcv_22 ?_
   refine ae 12 [] rfl rfl rfl (wy 32 rfl rfl rfl hb10) (e_call (fn := Try.f225) H rfl rfl Try.func225 rfl rfl rfl) ?_
   rintro _ w_10 ⟨v_24, rfl, H⟩
   refine ⟨AllHeld.nil, ?_⟩
   refine ay 13 (.bool (!v_24)) rfl rfl (wy 32 rfl rfl rfl hb10) (p_not rfl rfl) ?_
   refine ap 14 (.bool (!v_24)) rfl rfl (p_pickT rfl rfl hb10 rfl) ?_
   refine ax ?_
   refine ru4 0 (Sl.v data0) 1 (I a1) 9 (I i9) 10 (I j10) rfl rfl rfl rfl ?_
   refine ru 43 (.bool (!v_24)) rfl ?_
   exact J3 (data0, a1, i9, j10, (!v_24)) _ _ H
  ·clear H; intro hb10 H
   refine ak 4 rfl rfl (wn 32 rfl rfl rfl hb10) ?_
   refine ak 5 rfl rfl (wn 32 rfl rfl rfl hb10) ?_
   refine ak 6 rfl rfl (wn 32 rfl rfl rfl hb10) ?_
   refine ak 7 rfl rfl (wn 32 rfl rfl rfl hb10) ?_
   refine ak 8 rfl rfl (wn 32 rfl rfl rfl hb10) ?_
   refine ak 9 rfl rfl (wn 32 rfl rfl rfl hb10) ?_
   refine ak 10 rfl rfl (wn 32 rfl rfl rfl hb10) ?_
   refine ak 11 rfl rfl (wn 32 rfl rfl rfl hb10) ?_
   refine ak 12 rfl rfl (wn 32 rfl rfl rfl hb10) ?_
   refine ak 13 rfl rfl (wn 32 rfl rfl rfl hb10) ?_
   refine ap 14 (.bool false) rfl rfl (p_pickF rfl rfl hb10 rfl) ?_
   refine ax ?_
   refine ru4 0 (Sl.v data0) 1 (I a1) 9 (I i9) 10 (I j10) rfl rfl rfl rfl ?_
   refine ru 43 (.bool false) rfl ?_
   exact J3 (data0, a1, i9, j10, false) _ _ H

/-! 227 slices.partitionOrdered[int] -/
def f227_k8 (R : Value → World → Prop) (ag1 : (Sl × Int × Int × Int) → World → Prop) (ag4 : (Sl × Int × Int × Int) → World → Prop) (ag8 : (Sl × Int × Int × Int) → World → Prop) (ag9 : (Sl × Int × Int × Int) → World → Prop) (ag12 : (Sl × Int × Int × Int) → World → Prop) (data0 : Sl) (a1 : Int) (i10 : Int) (j11 : Int) (t129 : Bool) (w : World) : Prop :=
 IfB t129 (
  ag12 (data0, a1, i10, (IntKind.i64.wrap (j11 - 1))) w) (
  IfB (decide (j11 < i10)) (
   Ix data0 a1 fun p_19 =>
   Ld (Value.int .i64) (some (p_19.add (a1.toNat * 1))) (World.drew w) fun v_20 =>
   Ix data0 j11 fun p_21 =>
   Ld (Value.int .i64) (some (p_21.add (j11.toNat * 1))) (World.drew w) fun v_22 =>
   Ix data0 j11 fun p_23 =>
   St (some (p_23.add (j11.toNat * 1))) (.int .i64 v_20) (World.drew w) fun w_11 =>
   Ix data0 a1 fun p_24 =>
   St (some (p_24.add (a1.toNat * 1))) (.int .i64 v_22) w_11 fun w_12 =>
   R (.tuple #[(.int .i64 j11), (.bool false)]) w_12) (
   Ix data0 j11 fun p_25 =>
   Ld (Value.int .i64) (some (p_25.add (j11.toNat * 1))) (World.drew w) fun v_26 =>
   Ix data0 i10 fun p_27 =>
   Ld (Value.int .i64) (some (p_27.add (i10.toNat * 1))) (World.drew w) fun v_28 =>
   Ix data0 i10 fun p_29 =>
   St (some (p_29.add (i10.toNat * 1))) (.int .i64 v_26) (World.drew w) fun w_14 =>
   Ix data0 j11 fun p_30 =>
   St (some (p_30.add (j11.toNat * 1))) (.int .i64 v_28) w_14 fun w_15 =>
   ag8 (data0, a1, (IntKind.i64.wrap (i10 + 1)), (IntKind.i64.wrap (j11 - 1))) w_15))
def f227_b7 (R : Value → World → Prop) (ag1 : (Sl × Int × Int × Int) → World → Prop) (ag4 : (Sl × Int × Int × Int) → World → Prop) (ag8 : (Sl × Int × Int × Int) → World → Prop) (ag9 : (Sl × Int × Int × Int) → World → Prop) (ag12 : (Sl × Int × Int × Int) → World → Prop) (data0 : Sl) (a1 : Int) (i10 : Int) (j11 : Int) (w : World) : Prop :=
 IfB (decide (i10 ≤ j11)) (
  Ix data0 j11 fun p_31 =>
  Ld (Value.int .i64) (some (p_31.add (j11.toNat * 1))) (World.drew w) fun v_32 =>
  Ix data0 a1 fun p_33 =>
  Ld (Value.int .i64) (some (p_33.add (a1.toNat * 1))) (World.drew w) fun v_34 =>
  CallF Try.prog 225 #[(.int .i64 v_32), (.int .i64 v_34)] (World.drew w) fun u_35 w_17 => As Value.bool u_35 fun v_36 =>
  f227_k8 R ag1 ag4 ag8 ag9 ag12 data0 a1 i10 j11 (!v_36) w_17) (
  f227_k8 R ag1 ag4 ag8 ag9 ag12 data0 a1 i10 j11 false (World.drew w))
def f227_k6 (R : Value → World → Prop) (ag1 : (Sl × Int × Int × Int) → World → Prop) (ag4 : (Sl × Int × Int × Int) → World → Prop) (ag8 : (Sl × Int × Int × Int) → World → Prop) (ag9 : (Sl × Int × Int × Int) → World → Prop) (data0 : Sl) (a1 : Int) (i10 : Int) (j11 : Int) (t112 : Bool) (w : World) : Prop :=
 IfB t112 (
  ag9 (data0, a1, (IntKind.i64.wrap (i10 + 1)), j11) w) (
  Lp (fun ag (s : Sl × Int × Int × Int) w => f227_b7 R ag1 ag4 ag8 ag9 ag s.1 s.2.1 s.2.2.1 s.2.2.2 w) (data0, a1, i10, j11) w)
def f227_b5 (R : Value → World → Prop) (ag1 : (Sl × Int × Int × Int) → World → Prop) (ag4 : (Sl × Int × Int × Int) → World → Prop) (ag8 : (Sl × Int × Int × Int) → World → Prop) (ag9 : (Sl × Int × Int × Int) → World → Prop) (data0 : Sl) (a1 : Int) (i10 : Int) (j11 : Int) (w : World) : Prop :=
 IfB (decide (i10 ≤ j11)) (
  Ix data0 i10 fun p_37 =>
  Ld (Value.int .i64) (some (p_37.add (i10.toNat * 1))) (World.drew w) fun v_38 =>
  Ix data0 a1 fun p_39 =>
  Ld (Value.int .i64) (some (p_39.add (a1.toNat * 1))) (World.drew w) fun v_40 =>
  CallF Try.prog 225 #[(.int .i64 v_38), (.int .i64 v_40)] (World.drew w) fun u_41 w_19 => As Value.bool u_41 fun v_42 =>
  f227_k6 R ag1 ag4 ag8 ag9 data0 a1 i10 j11 v_42 w_19) (
  f227_k6 R ag1 ag4 ag8 ag9 data0 a1 i10 j11 false (World.drew w))
def f227_b4 (R : Value → World → Prop) (ag1 : (Sl × Int × Int × Int) → World → Prop) (ag4 : (Sl × Int × Int × Int) → World → Prop) (ag8 : (Sl × Int × Int × Int) → World → Prop) (data0 : Sl) (a1 : Int) (i10 : Int) (j11 : Int) (w : World) : Prop :=
 Lp (fun ag (s : Sl × Int × Int × Int) w => f227_b5 R ag1 ag4 ag8 ag s.1 s.2.1 s.2.2.1 s.2.2.2 w) (data0, a1, i10, j11) w
def f227_k3 (R : Value → World → Prop) (ag1 : (Sl × Int × Int × Int) → World → Prop) (ag4 : (Sl × Int × Int × Int) → World → Prop) (data0 : Sl) (a1 : Int) (i10 : Int) (j11 : Int) (t60 : Bool) (w : World) : Prop :=
 IfB t60 (
  ag4 (data0, a1, i10, (IntKind.i64.wrap (j11 - 1))) w) (
  IfB (decide (j11 < i10)) (
   Ix data0 a1 fun p_7 =>
   Ld (Value.int .i64) (some (p_7.add (a1.toNat * 1))) (World.drew w) fun v_8 =>
   Ix data0 j11 fun p_9 =>
   Ld (Value.int .i64) (some (p_9.add (j11.toNat * 1))) (World.drew w) fun v_10 =>
   Ix data0 j11 fun p_11 =>
   St (some (p_11.add (j11.toNat * 1))) (.int .i64 v_8) (World.drew w) fun w_5 =>
   Ix data0 a1 fun p_12 =>
   St (some (p_12.add (a1.toNat * 1))) (.int .i64 v_10) w_5 fun w_6 =>
   R (.tuple #[(.int .i64 j11), (.bool true)]) w_6) (
   Ix data0 j11 fun p_13 =>
   Ld (Value.int .i64) (some (p_13.add (j11.toNat * 1))) (World.drew w) fun v_14 =>
   Ix data0 i10 fun p_15 =>
   Ld (Value.int .i64) (some (p_15.add (i10.toNat * 1))) (World.drew w) fun v_16 =>
   Ix data0 i10 fun p_17 =>
   St (some (p_17.add (i10.toNat * 1))) (.int .i64 v_14) (World.drew w) fun w_8 =>
   Ix data0 j11 fun p_18 =>
   St (some (p_18.add (j11.toNat * 1))) (.int .i64 v_16) w_8 fun w_9 =>
   Lp (fun ag (s : Sl × Int × Int × Int) w => f227_b4 R ag1 ag4 ag s.1 s.2.1 s.2.2.1 s.2.2.2 w) (data0, a1, (IntKind.i64.wrap (i10 + 1)), (IntKind.i64.wrap (j11 - 1))) w_9))
def f227_b2 (R : Value → World → Prop) (ag1 : (Sl × Int × Int × Int) → World → Prop) (ag4 : (Sl × Int × Int × Int) → World → Prop) (data0 : Sl) (a1 : Int) (i10 : Int) (j11 : Int) (w : World) : Prop :=
 IfB (decide (i10 ≤ j11)) (
  Ix data0 j11 fun p_43 =>
  Ld (Value.int .i64) (some (p_43.add (j11.toNat * 1))) (World.drew w) fun v_44 =>
  Ix data0 a1 fun p_45 =>
  Ld (Value.int .i64) (some (p_45.add (a1.toNat * 1))) (World.drew w) fun v_46 =>
  CallF Try.prog 225 #[(.int .i64 v_44), (.int .i64 v_46)] (World.drew w) fun u_47 w_21 => As Value.bool u_47 fun v_48 =>
  f227_k3 R ag1 ag4 data0 a1 i10 j11 (!v_48) w_21) (
  f227_k3 R ag1 ag4 data0 a1 i10 j11 false (World.drew w))
def f227_k1 (R : Value → World → Prop) (ag1 : (Sl × Int × Int × Int) → World → Prop) (data0 : Sl) (a1 : Int) (i10 : Int) (j11 : Int) (t43 : Bool) (w : World) : Prop :=
 IfB t43 (
  ag1 (data0, a1, (IntKind.i64.wrap (i10 + 1)), j11) w) (
  Lp (fun ag (s : Sl × Int × Int × Int) w => f227_b2 R ag1 ag s.1 s.2.1 s.2.2.1 s.2.2.2 w) (data0, a1, i10, j11) w)
def f227_b0 (R : Value → World → Prop) (ag1 : (Sl × Int × Int × Int) → World → Prop) (data0 : Sl) (a1 : Int) (i10 : Int) (j11 : Int) (w : World) : Prop :=
 IfB (decide (i10 ≤ j11)) (
  Ix data0 i10 fun p_49 =>
  Ld (Value.int .i64) (some (p_49.add (i10.toNat * 1))) (World.drew w) fun v_50 =>
  Ix data0 a1 fun p_51 =>
  Ld (Value.int .i64) (some (p_51.add (a1.toNat * 1))) (World.drew w) fun v_52 =>
  CallF Try.prog 225 #[(.int .i64 v_50), (.int .i64 v_52)] (World.drew w) fun u_53 w_23 => As Value.bool u_53 fun v_54 =>
  f227_k1 R ag1 data0 a1 i10 j11 v_54 w_23) (
  f227_k1 R ag1 data0 a1 i10 j11 false (World.drew w))
def f227 (R : Value → World → Prop) (data0 : Sl) (a1 : Int) (b2 : Int) (pivot3 : Int) (w : World) : Prop :=
 Ix data0 pivot3 fun p_1 =>
 Ld (Value.int .i64) (some (p_1.add (pivot3.toNat * 1))) (World.drew w) fun v_2 =>
 Ix data0 a1 fun p_3 =>
 Ld (Value.int .i64) (some (p_3.add (a1.toNat * 1))) (World.drew w) fun v_4 =>
 Ix data0 a1 fun p_5 =>
 St (some (p_5.add (a1.toNat * 1))) (.int .i64 v_2) (World.drew w) fun w_2 =>
 Ix data0 pivot3 fun p_6 =>
 St (some (p_6.add (pivot3.toNat * 1))) (.int .i64 v_4) w_2 fun w_3 =>
 Lp (fun ag (s : Sl × Int × Int × Int) w => f227_b0 R ag s.1 s.2.1 s.2.2.1 s.2.2.2 w) (data0, a1, (IntKind.i64.wrap (a1 + 1)), (IntKind.i64.wrap (b2 - 1))) w_3
theorem f227_ok (R : Value → World → Prop) (data0 : Sl) (a1 : Int) (b2 : Int) (pivot3 : Int) (w : World) (H : f227 R data0 a1 b2 pivot3 w) : CallF Try.prog 227 #[(Sl.v data0), (.int .i64 a1), (.int .i64 b2), (.int .i64 pivot3)] w R := by
 refine calls_of_runs (fn := Try.f227) Try.func227 rfl (Nat.le_of_ble_eq_true rfl) ?_
 show Runs _ _ 168 _ _ _ _
 unfold f227 at H
 refine ru4 0 (Sl.v data0) 1 (I a1) 2 (I b2) 3 (I pivot3) rfl rfl rfl rfl ?_
 refine sr ?_
 refine xs (I 0) rfl rfl ?_
 refine xs (.bool false) rfl rfl ?_
 refine xe ?_
 refine r_seq ?_
 refine r_draw #[[], [], [], [], [], [], [4, 5], [4, 5, 6], [], [], [8, 9], [8, 9, 10], [0, 1, 4, 5, 6, 7, 8, 9, 10, 11], [0, 1, 4, 5, 6, 7, 8, 9, 10, 11, 12], [0, 1, 2, 3, 4, 5, 6, 7, 8, 9, 10, 11, 12, 13], [0, 1, 2, 3, 4, 5, 6, 7, 8, 9, 10, 11, 12, 13, 14]] 16 rfl rfl ?_
 refine am 0 (Sl.v data0) rfl rfl rfl ?_
 refine am 1 (I a1) rfl rfl rfl ?_
 refine am 2 (Sl.v data0) rfl rfl rfl ?_
 refine am 3 (I pivot3) rfl rfl rfl ?_
 refine am 4 (Sl.v data0) rfl rfl rfl ?_
 refine am 5 (I pivot3) rfl rfl rfl ?_
 obtain ⟨p_1, hap_1, hlp_1, hup_1, H⟩ := H
 refine ap 6 _ rfl rfl (p_indexAddr (s := data0) (ad := p_1) (size := 1) rfl u184 Try.ti3 rfl rfl hap_1 hlp_1 hup_1) ?_
 obtain ⟨adv_2, v_2, hev_2, hcv_2, H⟩ := H
 refine ar 7 (I v_2) rfl rfl (wo rfl) rfl u3 rfl rfl hev_2 hcv_2 ?_
 refine am 8 (Sl.v data0) rfl rfl rfl ?_
 refine am 9 (I a1) rfl rfl rfl ?_
 obtain ⟨p_3, hap_3, hlp_3, hup_3, H⟩ := H
 refine ap 10 _ rfl rfl (p_indexAddr (s := data0) (ad := p_3) (size := 1) rfl u184 Try.ti3 rfl rfl hap_3 hlp_3 hup_3) ?_
 obtain ⟨adv_4, v_4, hev_4, hcv_4, H⟩ := H
 refine ar 11 (I v_4) rfl rfl (wo rfl) rfl u3 rfl rfl hev_4 hcv_4 ?_
 obtain ⟨p_5, hap_5, hlp_5, hup_5, H⟩ := H
 refine ap 12 _ rfl rfl (p_indexAddr (s := data0) (ad := p_5) (size := 1) rfl u184 Try.ti3 rfl rfl hap_5 hlp_5 hup_5) ?_
 refine an 13 rfl rfl rfl (wo rfl) (e_store rfl Try.ti3 rfl rfl rfl H) fun _ w_2 H => ?_
 obtain ⟨p_6, hap_6, hlp_6, hup_6, H⟩ := H
 refine ap 14 _ rfl rfl (p_indexAddr (s := data0) (ad := p_6) (size := 1) rfl u184 Try.ti3 rfl rfl hap_6 hlp_6 hup_6) ?_
 refine an 15 rfl rfl rfl (wo rfl) (e_store rfl Try.ti3 rfl rfl rfl H) fun _ w_3 H => ?_
 refine ax ?_
 refine sr ?_
 refine xm (I a1) rfl rfl ?_
 refine xp _ rfl (p_add rfl rfl rfl) ?_
 refine xm (I b2) rfl rfl ?_
 refine xp _ rfl (p_sub rfl rfl rfl) ?_
 refine xs (I (W (a1 + 1))) rfl rfl ?_
 refine xs (I (W (b2 - 1))) rfl rfl ?_
 refine xe ?_
 refine sb ?_
 refine ru4 0 (Sl.v data0) 1 (I a1) 10 (I (W (a1 + 1))) 11 (I (W (b2 - 1))) rfl rfl rfl rfl ?_
 refine r_loopJ (fun (s : Sl × Int × Int × Int) σ => upd 11 (I s.2.2.2) (upd 10 (I s.2.2.1) (upd 1 (I s.2.1) (upd 0 (Sl.v s.1) (σ))))) (s := (data0, a1, (W (a1 + 1)), (W (b2 - 1)))) H ?_
 clear H
 rintro ag1 ⟨data0, a1, i10, j11⟩ σ w H hag1
 replace H : f227_b0 R ag1 data0 a1 i10 j11 w := H
 try dsimp only
 unfold f227_b0 at H
 refine r_seq ?_
 refine r_seq ?_
 refine r_topJ (fun (s : Sl × Int × Int × Int × Bool) σ => upd 43 (.bool s.2.2.2.2) (upd 11 (I s.2.2.2.1) (upd 10 (I s.2.2.1) (upd 1 (I s.2.1) (upd 0 (Sl.v s.1) (σ)))))) (fun (s : Sl × Int × Int × Int × Bool) w => f227_k1 R ag1 s.1 s.2.1 s.2.2.1 s.2.2.2.1 s.2.2.2.2 w) ?_ ?_
 ·rintro ⟨data0, a1, i10, j11, t43⟩ σ w H
  replace H : f227_k1 R ag1 data0 a1 i10 j11 t43 w := H
  try dsimp only
  unfold f227_k1 at H
  refine r_condB (b := t43) rfl H ?_ ?_
  ·clear H; intro hb3 H
   refine r_skip ?_
   refine r_block ?_
   refine r_region ?_
   refine xm (I i10) rfl rfl ?_
   refine xp _ rfl (p_add rfl rfl rfl) ?_
   refine xs (I (W (i10 + 1))) rfl rfl ?_
   refine xe ?_
   refine r_inBlock ?_
   refine ru4 0 (Sl.v data0) 1 (I a1) 10 (I (W (i10 + 1))) 11 (I j11) rfl rfl rfl rfl ?_
   exact hag1 (data0, a1, (W (i10 + 1)), j11) _ _ H
  ·clear H; intro hb3 H
   refine r_exit rfl ?_
   refine sb ?_
   refine ru4 0 (Sl.v data0) 1 (I a1) 10 (I i10) 11 (I j11) rfl rfl rfl rfl ?_
   refine r_loopJ (fun (s : Sl × Int × Int × Int) σ => upd 11 (I s.2.2.2) (upd 10 (I s.2.2.1) (upd 1 (I s.2.1) (upd 0 (Sl.v s.1) (σ))))) (s := (data0, a1, i10, j11)) H ?_
   clear H
   rintro ag4 ⟨data0, a1, i10, j11⟩ σ w H hag4
   replace H : f227_b2 R ag1 ag4 data0 a1 i10 j11 w := H
   try dsimp only
   unfold f227_b2 at H
   refine r_seq ?_
   refine r_seq ?_
   refine r_topJ (fun (s : Sl × Int × Int × Int × Bool) σ => upd 60 (.bool s.2.2.2.2) (upd 11 (I s.2.2.2.1) (upd 10 (I s.2.2.1) (upd 1 (I s.2.1) (upd 0 (Sl.v s.1) (σ)))))) (fun (s : Sl × Int × Int × Int × Bool) w => f227_k3 R ag1 ag4 s.1 s.2.1 s.2.2.1 s.2.2.2.1 s.2.2.2.2 w) ?_ ?_
   ·rintro ⟨data0, a1, i10, j11, t60⟩ σ w H
    replace H : f227_k3 R ag1 ag4 data0 a1 i10 j11 t60 w := H
    try dsimp only
    unfold f227_k3 at H
    refine r_condB (b := t60) rfl H ?_ ?_
    ·clear H; intro hb6 H
     refine r_skip ?_
     refine r_block ?_
     refine r_region ?_
     refine xm (I j11) rfl rfl ?_
     refine xp _ rfl (p_sub rfl rfl rfl) ?_
     refine xs (I (W (j11 - 1))) rfl rfl ?_
     refine xe ?_
     refine r_inBlock ?_
     refine ru4 0 (Sl.v data0) 1 (I a1) 10 (I i10) 11 (I (W (j11 - 1))) rfl rfl rfl rfl ?_
     exact hag4 (data0, a1, i10, (W (j11 - 1))) _ _ H
    ·clear H; intro hb6 H
     refine r_exit rfl ?_
     refine r_seq ?_
     refine sr ?_
     refine xm (I i10) rfl rfl ?_
     refine xm (I j11) rfl rfl ?_
     refine xp _ rfl (p_gt rfl rfl rfl) ?_
     refine xe ?_
     refine r_condB (b := (decide (j11 < i10))) rfl H ?_ ?_
     ·clear H; intro hb7 H
      refine r_seq ?_
      refine r_draw #[[], [], [], [], [], [], [4, 5], [4, 5, 6], [], [], [8, 9], [8, 9, 10], [0, 1, 4, 5, 6, 7, 8, 9, 10, 11], [0, 1, 4, 5, 6, 7, 8, 9, 10, 11, 12], [0, 1, 2, 3, 4, 5, 6, 7, 8, 9, 10, 11, 12, 13], [0, 1, 2, 3, 4, 5, 6, 7, 8, 9, 10, 11, 12, 13, 14]] 16 rfl rfl ?_
      refine am 0 (Sl.v data0) rfl rfl rfl ?_
      refine am 1 (I j11) rfl rfl rfl ?_
      refine am 2 (Sl.v data0) rfl rfl rfl ?_
      refine am 3 (I a1) rfl rfl rfl ?_
      refine am 4 (Sl.v data0) rfl rfl rfl ?_
      refine am 5 (I a1) rfl rfl rfl ?_
      obtain ⟨p_7, hap_7, hlp_7, hup_7, H⟩ := H
      refine ap 6 _ rfl rfl (p_indexAddr (s := data0) (ad := p_7) (size := 1) rfl u184 Try.ti3 rfl rfl hap_7 hlp_7 hup_7) ?_
      obtain ⟨adv_8, v_8, hev_8, hcv_8, H⟩ := H
      refine ar 7 (I v_8) rfl rfl (wo rfl) rfl u3 rfl rfl hev_8 hcv_8 ?_
      refine am 8 (Sl.v data0) rfl rfl rfl ?_
      refine am 9 (I j11) rfl rfl rfl ?_
      obtain ⟨p_9, hap_9, hlp_9, hup_9, H⟩ := H
      refine ap 10 _ rfl rfl (p_indexAddr (s := data0) (ad := p_9) (size := 1) rfl u184 Try.ti3 rfl rfl hap_9 hlp_9 hup_9) ?_
      obtain ⟨adv_10, v_10, hev_10, hcv_10, H⟩ := H
      refine ar 11 (I v_10) rfl rfl (wo rfl) rfl u3 rfl rfl hev_10 hcv_10 ?_
      obtain ⟨p_11, hap_11, hlp_11, hup_11, H⟩ := H
      refine ap 12 _ rfl rfl (p_indexAddr (s := data0) (ad := p_11) (size := 1) rfl u184 Try.ti3 rfl rfl hap_11 hlp_11 hup_11) ?_
      refine an 13 rfl rfl rfl (wo rfl) (e_store rfl Try.ti3 rfl rfl rfl H) fun _ w_5 H => ?_
      obtain ⟨p_12, hap_12, hlp_12, hup_12, H⟩ := H
      refine ap 14 _ rfl rfl (p_indexAddr (s := data0) (ad := p_12) (size := 1) rfl u184 Try.ti3 rfl rfl hap_12 hlp_12 hup_12) ?_
      refine an 15 rfl rfl rfl (wo rfl) (e_store rfl Try.ti3 rfl rfl rfl H) fun _ w_6 H => ?_
      refine ax ?_
      refine sr ?_
      refine xm (I j11) rfl rfl ?_
      refine xs (I j11) rfl rfl ?_
      refine xs (.bool true) rfl rfl ?_
      refine xe ?_
      exact r_ret (fn := Try.f227) Try.func227 (res_2 rfl ⟨by decide, rfl⟩ ⟨by decide, rfl⟩) H
     ·clear H; intro hb7 H
      refine r_skip ?_
      refine r_seq ?_
      refine r_draw #[[], [], [], [], [], [], [4, 5], [4, 5, 6], [], [], [8, 9], [8, 9, 10], [0, 1, 4, 5, 6, 7, 8, 9, 10, 11], [0, 1, 4, 5, 6, 7, 8, 9, 10, 11, 12], [0, 1, 2, 3, 4, 5, 6, 7, 8, 9, 10, 11, 12, 13], [0, 1, 2, 3, 4, 5, 6, 7, 8, 9, 10, 11, 12, 13, 14]] 16 rfl rfl ?_
      refine am 0 (Sl.v data0) rfl rfl rfl ?_
      refine am 1 (I i10) rfl rfl rfl ?_
      refine am 2 (Sl.v data0) rfl rfl rfl ?_
      refine am 3 (I j11) rfl rfl rfl ?_
      refine am 4 (Sl.v data0) rfl rfl rfl ?_
      refine am 5 (I j11) rfl rfl rfl ?_
      obtain ⟨p_13, hap_13, hlp_13, hup_13, H⟩ := H
      refine ap 6 _ rfl rfl (p_indexAddr (s := data0) (ad := p_13) (size := 1) rfl u184 Try.ti3 rfl rfl hap_13 hlp_13 hup_13) ?_
      obtain ⟨adv_14, v_14, hev_14, hcv_14, H⟩ := H
      refine ar 7 (I v_14) rfl rfl (wo rfl) rfl u3 rfl rfl hev_14 hcv_14 ?_
      refine am 8 (Sl.v data0) rfl rfl rfl ?_
      refine am 9 (I i10) rfl rfl rfl ?_
      obtain ⟨p_15, hap_15, hlp_15, hup_15, H⟩ := H
      refine ap 10 _ rfl rfl (p_indexAddr (s := data0) (ad := p_15) (size := 1) rfl u184 Try.ti3 rfl rfl hap_15 hlp_15 hup_15) ?_
      obtain ⟨adv_16, v_16, hev_16, hcv_16, H⟩ := H
      refine ar 11 (I v_16) rfl rfl (wo rfl) rfl u3 rfl rfl hev_16 hcv_16 ?_
      obtain ⟨p_17, hap_17, hlp_17, hup_17, H⟩ := H
      refine ap 12 _ rfl rfl (p_indexAddr (s := data0) (ad := p_17) (size := 1) rfl u184 Try.ti3 rfl rfl hap_17 hlp_17 hup_17) ?_
      refine an 13 rfl rfl rfl (wo rfl) (e_store rfl Try.ti3 rfl rfl rfl H) fun _ w_8 H => ?_
      obtain ⟨p_18, hap_18, hlp_18, hup_18, H⟩ := H
      refine ap 14 _ rfl rfl (p_indexAddr (s := data0) (ad := p_18) (size := 1) rfl u184 Try.ti3 rfl rfl hap_18 hlp_18 hup_18) ?_
      refine an 15 rfl rfl rfl (wo rfl) (e_store rfl Try.ti3 rfl rfl rfl H) fun _ w_9 H => ?_
      refine ax ?_
      refine sr ?_
      refine xm (I i10) rfl rfl ?_
      refine xp _ rfl (p_add rfl rfl rfl) ?_
      refine xs (I (W (i10 + 1))) rfl rfl ?_
      refine xe ?_
      refine sr ?_
      refine xm (I j11) rfl rfl ?_
      refine xp _ rfl (p_sub rfl rfl rfl) ?_
      refine xs (I (W (j11 - 1))) rfl rfl ?_
      refine xe ?_
      refine sb ?_
      refine ru4 0 (Sl.v data0) 1 (I a1) 10 (I (W (i10 + 1))) 11 (I (W (j11 - 1))) rfl rfl rfl rfl ?_
      refine r_loopJ (fun (s : Sl × Int × Int × Int) σ => upd 11 (I s.2.2.2) (upd 10 (I s.2.2.1) (upd 1 (I s.2.1) (upd 0 (Sl.v s.1) (σ))))) (s := (data0, a1, (W (i10 + 1)), (W (j11 - 1)))) H ?_
      clear H
      rintro ag8 ⟨data0, a1, i10, j11⟩ σ w H hag8
      replace H : f227_b4 R ag1 ag4 ag8 data0 a1 i10 j11 w := H
      try dsimp only
      unfold f227_b4 at H
      refine r_block ?_
      refine sb ?_
      refine ru4 0 (Sl.v data0) 1 (I a1) 10 (I i10) 11 (I j11) rfl rfl rfl rfl ?_
      refine r_loopJ (fun (s : Sl × Int × Int × Int) σ => upd 11 (I s.2.2.2) (upd 10 (I s.2.2.1) (upd 1 (I s.2.1) (upd 0 (Sl.v s.1) (σ))))) (s := (data0, a1, i10, j11)) H ?_
      clear H
      rintro ag9 ⟨data0, a1, i10, j11⟩ σ w H hag9
      replace H : f227_b5 R ag1 ag4 ag8 ag9 data0 a1 i10 j11 w := H
      try dsimp only
      unfold f227_b5 at H
      refine r_seq ?_
      refine r_seq ?_
      refine r_topJ (fun (s : Sl × Int × Int × Int × Bool) σ => upd 112 (.bool s.2.2.2.2) (upd 11 (I s.2.2.2.1) (upd 10 (I s.2.2.1) (upd 1 (I s.2.1) (upd 0 (Sl.v s.1) (σ)))))) (fun (s : Sl × Int × Int × Int × Bool) w => f227_k6 R ag1 ag4 ag8 ag9 s.1 s.2.1 s.2.2.1 s.2.2.2.1 s.2.2.2.2 w) ?_ ?_
      ·rintro ⟨data0, a1, i10, j11, t112⟩ σ w H
       replace H : f227_k6 R ag1 ag4 ag8 ag9 data0 a1 i10 j11 t112 w := H
       try dsimp only
       unfold f227_k6 at H
       refine r_condB (b := t112) rfl H ?_ ?_
       ·clear H; intro hb11 H
        refine r_skip ?_
        refine r_block ?_
        refine r_region ?_
        refine xm (I i10) rfl rfl ?_
        refine xp _ rfl (p_add rfl rfl rfl) ?_
        refine xs (I (W (i10 + 1))) rfl rfl ?_
        refine xe ?_
        refine r_inBlock ?_
        refine ru4 0 (Sl.v data0) 1 (I a1) 10 (I (W (i10 + 1))) 11 (I j11) rfl rfl rfl rfl ?_
        exact hag9 (data0, a1, (W (i10 + 1)), j11) _ _ H
       ·clear H; intro hb11 H
        refine r_exit rfl ?_
        refine sb ?_
        refine ru4 0 (Sl.v data0) 1 (I a1) 10 (I i10) 11 (I j11) rfl rfl rfl rfl ?_
        refine r_loopJ (fun (s : Sl × Int × Int × Int) σ => upd 11 (I s.2.2.2) (upd 10 (I s.2.2.1) (upd 1 (I s.2.1) (upd 0 (Sl.v s.1) (σ))))) (s := (data0, a1, i10, j11)) H ?_
        clear H
        rintro ag12 ⟨data0, a1, i10, j11⟩ σ w H hag12
        replace H : f227_b7 R ag1 ag4 ag8 ag9 ag12 data0 a1 i10 j11 w := H
        try dsimp only
        unfold f227_b7 at H
        refine r_seq ?_
        refine r_seq ?_
        refine r_topJ (fun (s : Sl × Int × Int × Int × Bool) σ => upd 129 (.bool s.2.2.2.2) (upd 11 (I s.2.2.2.1) (upd 10 (I s.2.2.1) (upd 1 (I s.2.1) (upd 0 (Sl.v s.1) (σ)))))) (fun (s : Sl × Int × Int × Int × Bool) w => f227_k8 R ag1 ag4 ag8 ag9 ag12 s.1 s.2.1 s.2.2.1 s.2.2.2.1 s.2.2.2.2 w) ?_ ?_
        ·rintro ⟨data0, a1, i10, j11, t129⟩ σ w H
         replace H : f227_k8 R ag1 ag4 ag8 ag9 ag12 data0 a1 i10 j11 t129 w := H
         try dsimp only
         unfold f227_k8 at H
         refine r_condB (b := t129) rfl H ?_ ?_
         ·clear H; intro hb14 H
          refine r_skip ?_
          refine r_block ?_
          refine r_region ?_
          refine xm (I j11) rfl rfl ?_
          refine xp _ rfl (p_sub rfl rfl rfl) ?_
          refine xs (I (W (j11 - 1))) rfl rfl ?_
          refine xe ?_
          refine r_inBlock ?_
          refine ru4 0 (Sl.v data0) 1 (I a1) 10 (I i10) 11 (I (W (j11 - 1))) rfl rfl rfl rfl ?_
          exact hag12 (data0, a1, i10, (W (j11 - 1))) _ _ H
         ·clear H; intro hb14 H
          refine r_exit rfl ?_
          refine r_seq ?_
          refine sr ?_
          refine xm (I i10) rfl rfl ?_
          refine xm (I j11) rfl rfl ?_
          refine xp _ rfl (p_gt rfl rfl rfl) ?_
          refine xe ?_
          refine r_condB (b := (decide (j11 < i10))) rfl H ?_ ?_
          ·clear H; intro hb15 H
           refine r_exit rfl ?_
           refine r_seq ?_
           refine r_draw #[[], [], [], [], [], [], [4, 5], [4, 5, 6], [], [], [8, 9], [8, 9, 10], [0, 1, 4, 5, 6, 7, 8, 9, 10, 11], [0, 1, 4, 5, 6, 7, 8, 9, 10, 11, 12], [0, 1, 2, 3, 4, 5, 6, 7, 8, 9, 10, 11, 12, 13], [0, 1, 2, 3, 4, 5, 6, 7, 8, 9, 10, 11, 12, 13, 14]] 16 rfl rfl ?_
           refine am 0 (Sl.v data0) rfl rfl rfl ?_
           refine am 1 (I j11) rfl rfl rfl ?_
           refine am 2 (Sl.v data0) rfl rfl rfl ?_
           refine am 3 (I a1) rfl rfl rfl ?_
           refine am 4 (Sl.v data0) rfl rfl rfl ?_
           refine am 5 (I a1) rfl rfl rfl ?_
           obtain ⟨p_19, hap_19, hlp_19, hup_19, H⟩ := H
           refine ap 6 _ rfl rfl (p_indexAddr (s := data0) (ad := p_19) (size := 1) rfl u184 Try.ti3 rfl rfl hap_19 hlp_19 hup_19) ?_
           obtain ⟨adv_20, v_20, hev_20, hcv_20, H⟩ := H
           refine ar 7 (I v_20) rfl rfl (wo rfl) rfl u3 rfl rfl hev_20 hcv_20 ?_
           refine am 8 (Sl.v data0) rfl rfl rfl ?_
           refine am 9 (I j11) rfl rfl rfl ?_
           obtain ⟨p_21, hap_21, hlp_21, hup_21, H⟩ := H
           refine ap 10 _ rfl rfl (p_indexAddr (s := data0) (ad := p_21) (size := 1) rfl u184 Try.ti3 rfl rfl hap_21 hlp_21 hup_21) ?_
           obtain ⟨adv_22, v_22, hev_22, hcv_22, H⟩ := H
           refine ar 11 (I v_22) rfl rfl (wo rfl) rfl u3 rfl rfl hev_22 hcv_22 ?_
           obtain ⟨p_23, hap_23, hlp_23, hup_23, H⟩ := H
           refine ap 12 _ rfl rfl (p_indexAddr (s := data0) (ad := p_23) (size := 1) rfl u184 Try.ti3 rfl rfl hap_23 hlp_23 hup_23) ?_
           refine an 13 rfl rfl rfl (wo rfl) (e_store rfl Try.ti3 rfl rfl rfl H) fun _ w_11 H => ?_
           obtain ⟨p_24, hap_24, hlp_24, hup_24, H⟩ := H
           refine ap 14 _ rfl rfl (p_indexAddr (s := data0) (ad := p_24) (size := 1) rfl u184 Try.ti3 rfl rfl hap_24 hlp_24 hup_24) ?_
           refine an 15 rfl rfl rfl (wo rfl) (e_store rfl Try.ti3 rfl rfl rfl H) fun _ w_12 H => ?_
           refine ax ?_
           refine sr ?_
           refine xm (I j11) rfl rfl ?_
           refine xs (I j11) rfl rfl ?_
           refine xs (.bool false) rfl rfl ?_
           refine xe ?_
           exact r_ret (fn := Try.f227) Try.func227 (res_2 rfl ⟨by decide, rfl⟩ ⟨by decide, rfl⟩) H
          ·clear H; intro hb15 H
           refine r_skip ?_
           refine r_seq ?_
           refine r_draw #[[], [], [], [], [], [], [4, 5], [4, 5, 6], [], [], [8, 9], [8, 9, 10], [0, 1, 4, 5, 6, 7, 8, 9, 10, 11], [0, 1, 4, 5, 6, 7, 8, 9, 10, 11, 12], [0, 1, 2, 3, 4, 5, 6, 7, 8, 9, 10, 11, 12, 13], [0, 1, 2, 3, 4, 5, 6, 7, 8, 9, 10, 11, 12, 13, 14]] 16 rfl rfl ?_
           refine am 0 (Sl.v data0) rfl rfl rfl ?_
           refine am 1 (I i10) rfl rfl rfl ?_
           refine am 2 (Sl.v data0) rfl rfl rfl ?_
           refine am 3 (I j11) rfl rfl rfl ?_
           refine am 4 (Sl.v data0) rfl rfl rfl ?_
           refine am 5 (I j11) rfl rfl rfl ?_
           obtain ⟨p_25, hap_25, hlp_25, hup_25, H⟩ := H
           refine ap 6 _ rfl rfl (p_indexAddr (s := data0) (ad := p_25) (size := 1) rfl u184 Try.ti3 rfl rfl hap_25 hlp_25 hup_25) ?_
           obtain ⟨adv_26, v_26, hev_26, hcv_26, H⟩ := H
           refine ar 7 (I v_26) rfl rfl (wo rfl) rfl u3 rfl rfl hev_26 hcv_26 ?_
           refine am 8 (Sl.v data0) rfl rfl rfl ?_
           refine am 9 (I i10) rfl rfl rfl ?_
           obtain ⟨p_27, hap_27, hlp_27, hup_27, H⟩ := H
           refine ap 10 _ rfl rfl (p_indexAddr (s := data0) (ad := p_27) (size := 1) rfl u184 Try.ti3 rfl rfl hap_27 hlp_27 hup_27) ?_
           obtain ⟨adv_28, v_28, hev_28, hcv_28, H⟩ := H
           refine ar 11 (I v_28) rfl rfl (wo rfl) rfl u3 rfl rfl hev_28 hcv_28 ?_
           obtain ⟨p_29, hap_29, hlp_29, hup_29, H⟩ := H
           refine ap 12 _ rfl rfl (p_indexAddr (s := data0) (ad := p_29) (size := 1) rfl u184 Try.ti3 rfl rfl hap_29 hlp_29 hup_29) ?_
           refine an 13 rfl rfl rfl (wo rfl) (e_store rfl Try.ti3 rfl rfl rfl H) fun _ w_14 H => ?_
           obtain ⟨p_30, hap_30, hlp_30, hup_30, H⟩ := H
           refine ap 14 _ rfl rfl (p_indexAddr (s := data0) (ad := p_30) (size := 1) rfl u184 Try.ti3 rfl rfl hap_30 hlp_30 hup_30) ?_
           refine an 15 rfl rfl rfl (wo rfl) (e_store rfl Try.ti3 rfl rfl rfl H) fun _ w_15 H => ?_
           refine ax ?_
           refine sr ?_
           refine xm (I i10) rfl rfl ?_
           refine xp _ rfl (p_add rfl rfl rfl) ?_
           refine xs (I (W (i10 + 1))) rfl rfl ?_
           refine xe ?_
           refine r_region ?_
           refine xm (I j11) rfl rfl ?_
           refine xp _ rfl (p_sub rfl rfl rfl) ?_
           refine xs (I (W (j11 - 1))) rfl rfl ?_
           refine xe ?_
           refine r_inBlock ?_
           refine ru4 0 (Sl.v data0) 1 (I a1) 10 (I (W (i10 + 1))) 11 (I (W (j11 - 1))) rfl rfl rfl rfl ?_
           exact hag8 (data0, a1, (W (i10 + 1)), (W (j11 - 1))) _ _ H
        ·intro J13
         refine r_draw #[[], [], [0, 1], [0, 1, 2], [0, 1, 2, 3], [0, 1, 2, 3], [0, 1, 2, 3, 4, 5], [0, 1, 2, 3, 4, 5, 6], [0, 1, 2, 3], [0, 1, 2, 3], [0, 1, 2, 3, 8, 9], [0, 1, 2, 3, 8, 9, 10], [0, 1, 2, 3, 4, 5, 6, 7, 8, 9, 10, 11], [0, 1, 2, 3, 4, 5, 6, 7, 8, 9, 10, 11, 12], [0, 1, 2, 3, 4, 5, 6, 7, 8, 9, 10, 11, 12, 13]] 15 rfl rfl ?_
         refine am 0 (I i10) rfl rfl rfl ?_
         refine am 1 (I j11) rfl rfl rfl ?_
         refine ap 2 _ rfl rfl (p_le rfl rfl rfl) ?_
         refine am 3 (.bool (decide (i10 ≤ j11))) rfl rfl rfl ?_
         refine ifB_cases H ?_ ?_
         ·clear H; intro hb16 H
          refine ay 4 (Sl.v data0) rfl rfl (wy 118 rfl rfl rfl hb16) (p_move rfl rfl) ?_
          refine ay 5 (I j11) rfl rfl (wy 118 rfl rfl rfl hb16) (p_move rfl rfl) ?_
          obtain ⟨p_31, hap_31, hlp_31, hup_31, H⟩ := H
          refine ay 6 (.pointer (some (p_31.add (j11.toNat * 1)))) rfl rfl (wy 118 rfl rfl rfl hb16) (p_indexAddr (s := data0) (ad := p_31) (size := 1) rfl u184 Try.ti3 rfl rfl hap_31 hlp_31 hup_31) ?_
          obtain ⟨adv_32, v_32, hev_32, hcv_32, H⟩ := H
          refine ar 7 (I v_32) rfl rfl (wy 118 rfl rfl rfl hb16) rfl u3 rfl rfl hev_32 hcv_32 ?_
          refine ay 8 (Sl.v data0) rfl rfl (wy 118 rfl rfl rfl hb16) (p_move rfl rfl) ?_
          refine ay 9 (I a1) rfl rfl (wy 118 rfl rfl rfl hb16) (p_move rfl rfl) ?_
          obtain ⟨p_33, hap_33, hlp_33, hup_33, H⟩ := H
          refine ay 10 (.pointer (some (p_33.add (a1.toNat * 1)))) rfl rfl (wy 118 rfl rfl rfl hb16) (p_indexAddr (s := data0) (ad := p_33) (size := 1) rfl u184 Try.ti3 rfl rfl hap_33 hlp_33 hup_33) ?_
          obtain ⟨adv_34, v_34, hev_34, hcv_34, H⟩ := H
          refine ar 11 (I v_34) rfl rfl (wy 118 rfl rfl rfl hb16) rfl u3 rfl rfl hev_34 hcv_34 ?_
          refine ae 12 [] rfl rfl rfl (wy 118 rfl rfl rfl hb16) (e_call (fn := Try.f225) H rfl rfl Try.func225 rfl rfl rfl) ?_
          rintro _ w_17 ⟨v_36, rfl, H⟩
          refine ⟨AllHeld.nil, ?_⟩
          refine ay 13 (.bool (!v_36)) rfl rfl (wy 118 rfl rfl rfl hb16) (p_not rfl rfl) ?_
          refine ap 14 (.bool (!v_36)) rfl rfl (p_pickT rfl rfl hb16 rfl) ?_
          refine ax ?_
          refine ru4 0 (Sl.v data0) 1 (I a1) 10 (I i10) 11 (I j11) rfl rfl rfl rfl ?_
          refine ru 129 (.bool (!v_36)) rfl ?_
          exact J13 (data0, a1, i10, j11, (!v_36)) _ _ H
         ·clear H; intro hb16 H
          refine ak 4 rfl rfl (wn 118 rfl rfl rfl hb16) ?_
          refine ak 5 rfl rfl (wn 118 rfl rfl rfl hb16) ?_
          refine ak 6 rfl rfl (wn 118 rfl rfl rfl hb16) ?_
          refine ak 7 rfl rfl (wn 118 rfl rfl rfl hb16) ?_
          refine ak 8 rfl rfl (wn 118 rfl rfl rfl hb16) ?_
          refine ak 9 rfl rfl (wn 118 rfl rfl rfl hb16) ?_
          refine ak 10 rfl rfl (wn 118 rfl rfl rfl hb16) ?_
          refine ak 11 rfl rfl (wn 118 rfl rfl rfl hb16) ?_
          refine ak 12 rfl rfl (wn 118 rfl rfl rfl hb16) ?_
          refine ak 13 rfl rfl (wn 118 rfl rfl rfl hb16) ?_
          refine ap 14 (.bool false) rfl rfl (p_pickF rfl rfl hb16 rfl) ?_
          refine ax ?_
          refine ru4 0 (Sl.v data0) 1 (I a1) 10 (I i10) 11 (I j11) rfl rfl rfl rfl ?_
          refine ru 129 (.bool false) rfl ?_
          exact J13 (data0, a1, i10, j11, false) _ _ H
      ·intro J10
       refine r_draw #[[], [], [0, 1], [0, 1, 2], [0, 1, 2, 3], [0, 1, 2, 3], [0, 1, 2, 3, 4, 5], [0, 1, 2, 3, 4, 5, 6], [0, 1, 2, 3], [0, 1, 2, 3], [0, 1, 2, 3, 8, 9], [0, 1, 2, 3, 8, 9, 10], [0, 1, 2, 3, 4, 5, 6, 7, 8, 9, 10, 11], [0, 1, 2, 3, 4, 5, 6, 7, 8, 9, 10, 11, 12]] 14 rfl rfl ?_
       refine am 0 (I i10) rfl rfl rfl ?_
       refine am 1 (I j11) rfl rfl rfl ?_
       refine ap 2 _ rfl rfl (p_le rfl rfl rfl) ?_
       refine am 3 (.bool (decide (i10 ≤ j11))) rfl rfl rfl ?_
       refine ifB_cases H ?_ ?_
       ·clear H; intro hb17 H
        refine ay 4 (Sl.v data0) rfl rfl (wy 102 rfl rfl rfl hb17) (p_move rfl rfl) ?_
        refine ay 5 (I i10) rfl rfl (wy 102 rfl rfl rfl hb17) (p_move rfl rfl) ?_
        obtain ⟨p_37, hap_37, hlp_37, hup_37, H⟩ := H
        refine ay 6 (.pointer (some (p_37.add (i10.toNat * 1)))) rfl rfl (wy 102 rfl rfl rfl hb17) (p_indexAddr (s := data0) (ad := p_37) (size := 1) rfl u184 Try.ti3 rfl rfl hap_37 hlp_37 hup_37) ?_
        obtain ⟨adv_38, v_38, hev_38, hcv_38, H⟩ := H
        refine ar 7 (I v_38) rfl rfl (wy 102 rfl rfl rfl hb17) rfl u3 rfl rfl hev_38 hcv_38 ?_
        refine ay 8 (Sl.v data0) rfl rfl (wy 102 rfl rfl rfl hb17) (p_move rfl rfl) ?_
        refine ay 9 (I a1) rfl rfl (wy 102 rfl rfl rfl hb17) (p_move rfl rfl) ?_
        obtain ⟨p_39, hap_39, hlp_39, hup_39, H⟩ := H
        refine ay 10 (.pointer (some (p_39.add (a1.toNat * 1)))) rfl rfl (wy 102 rfl rfl rfl hb17) (p_indexAddr (s := data0) (ad := p_39) (size := 1) rfl u184 Try.ti3 rfl rfl hap_39 hlp_39 hup_39) ?_
        obtain ⟨adv_40, v_40, hev_40, hcv_40, H⟩ := H
        refine ar 11 (I v_40) rfl rfl (wy 102 rfl rfl rfl hb17) rfl u3 rfl rfl hev_40 hcv_40 ?_
        refine ae 12 [] rfl rfl rfl (wy 102 rfl rfl rfl hb17) (e_call (fn := Try.f225) H rfl rfl Try.func225 rfl rfl rfl) ?_
        rintro _ w_19 ⟨v_42, rfl, H⟩
        refine ⟨AllHeld.nil, ?_⟩
        refine ap 13 (.bool v_42) rfl rfl (p_pickT rfl rfl hb17 rfl) ?_
        refine ax ?_
        refine ru4 0 (Sl.v data0) 1 (I a1) 10 (I i10) 11 (I j11) rfl rfl rfl rfl ?_
        refine ru 112 (.bool v_42) rfl ?_
        exact J10 (data0, a1, i10, j11, v_42) _ _ H
       ·clear H; intro hb17 H
        refine ak 4 rfl rfl (wn 102 rfl rfl rfl hb17) ?_
        refine ak 5 rfl rfl (wn 102 rfl rfl rfl hb17) ?_
        refine ak 6 rfl rfl (wn 102 rfl rfl rfl hb17) ?_
        refine ak 7 rfl rfl (wn 102 rfl rfl rfl hb17) ?_
        refine ak 8 rfl rfl (wn 102 rfl rfl rfl hb17) ?_
        refine ak 9 rfl rfl (wn 102 rfl rfl rfl hb17) ?_
        refine ak 10 rfl rfl (wn 102 rfl rfl rfl hb17) ?_
        refine ak 11 rfl rfl (wn 102 rfl rfl rfl hb17) ?_
        refine ak 12 rfl rfl (wn 102 rfl rfl rfl hb17) ?_
        refine ap 13 (.bool false) rfl rfl (p_pickF rfl rfl hb17 rfl) ?_
        refine ax ?_
        refine ru4 0 (Sl.v data0) 1 (I a1) 10 (I i10) 11 (I j11) rfl rfl rfl rfl ?_
        refine ru 112 (.bool false) rfl ?_
        exact J10 (data0, a1, i10, j11, false) _ _ H
   ·intro J5
    refine r_draw #[[], [], [0, 1], [0, 1, 2], [0, 1, 2, 3], [0, 1, 2, 3], [0, 1, 2, 3, 4, 5], [0, 1, 2, 3, 4, 5, 6], [0, 1, 2, 3], [0, 1, 2, 3], [0, 1, 2, 3, 8, 9], [0, 1, 2, 3, 8, 9, 10], [0, 1, 2, 3, 4, 5, 6, 7, 8, 9, 10, 11], [0, 1, 2, 3, 4, 5, 6, 7, 8, 9, 10, 11, 12], [0, 1, 2, 3, 4, 5, 6, 7, 8, 9, 10, 11, 12, 13]] 15 rfl rfl ?_
    refine am 0 (I i10) rfl rfl rfl ?_
    refine am 1 (I j11) rfl rfl rfl ?_
    refine ap 2 _ rfl rfl (p_le rfl rfl rfl) ?_
    refine am 3 (.bool (decide (i10 ≤ j11))) rfl rfl rfl ?_
    refine ifB_cases H ?_ ?_
    ·clear H; intro hb18 H
     refine ay 4 (Sl.v data0) rfl rfl (wy 49 rfl rfl rfl hb18) (p_move rfl rfl) ?_
     refine ay 5 (I j11) rfl rfl (wy 49 rfl rfl rfl hb18) (p_move rfl rfl) ?_
     obtain ⟨p_43, hap_43, hlp_43, hup_43, H⟩ := H
     refine ay 6 (.pointer (some (p_43.add (j11.toNat * 1)))) rfl rfl (wy 49 rfl rfl rfl hb18) (p_indexAddr (s := data0) (ad := p_43) (size := 1) rfl u184 Try.ti3 rfl rfl hap_43 hlp_43 hup_43) ?_
     obtain ⟨adv_44, v_44, hev_44, hcv_44, H⟩ := H
     refine ar 7 (I v_44) rfl rfl (wy 49 rfl rfl rfl hb18) rfl u3 rfl rfl hev_44 hcv_44 ?_
     refine ay 8 (Sl.v data0) rfl rfl (wy 49 rfl rfl rfl hb18) (p_move rfl rfl) ?_
     refine ay 9 (I a1) rfl rfl (wy 49 rfl rfl rfl hb18) (p_move rfl rfl) ?_
     obtain ⟨p_45, hap_45, hlp_45, hup_45, H⟩ := H
     refine ay 10 (.pointer (some (p_45.add (a1.toNat * 1)))) rfl rfl (wy 49 rfl rfl rfl hb18) (p_indexAddr (s := data0) (ad := p_45) (size := 1) rfl u184 Try.ti3 rfl rfl hap_45 hlp_45 hup_45) ?_
     obtain ⟨adv_46, v_46, hev_46, hcv_46, H⟩ := H
     refine ar 11 (I v_46) rfl rfl (wy 49 rfl rfl rfl hb18) rfl u3 rfl rfl hev_46 hcv_46 ?_
     refine ae 12 [] rfl rfl rfl (wy 49 rfl rfl rfl hb18) (e_call (fn := Try.f225) H rfl rfl Try.func225 rfl rfl rfl) ?_
     rintro _ w_21 ⟨v_48, rfl, H⟩
     refine ⟨AllHeld.nil, ?_⟩
     refine ay 13 (.bool (!v_48)) rfl rfl (wy 49 rfl rfl rfl hb18) (p_not rfl rfl) ?_
     refine ap 14 (.bool (!v_48)) rfl rfl (p_pickT rfl rfl hb18 rfl) ?_
     refine ax ?_
     refine ru4 0 (Sl.v data0) 1 (I a1) 10 (I i10) 11 (I j11) rfl rfl rfl rfl ?_
     refine ru 60 (.bool (!v_48)) rfl ?_
     exact J5 (data0, a1, i10, j11, (!v_48)) _ _ H
    ·clear H; intro hb18 H
     refine ak 4 rfl rfl (wn 49 rfl rfl rfl hb18) ?_
     refine ak 5 rfl rfl (wn 49 rfl rfl rfl hb18) ?_
     refine ak 6 rfl rfl (wn 49 rfl rfl rfl hb18) ?_
     refine ak 7 rfl rfl (wn 49 rfl rfl rfl hb18) ?_
     refine ak 8 rfl rfl (wn 49 rfl rfl rfl hb18) ?_
     refine ak 9 rfl rfl (wn 49 rfl rfl rfl hb18) ?_
     refine ak 10 rfl rfl (wn 49 rfl rfl rfl hb18) ?_
     refine ak 11 rfl rfl (wn 49 rfl rfl rfl hb18) ?_
     refine ak 12 rfl rfl (wn 49 rfl rfl rfl hb18) ?_
     refine ak 13 rfl rfl (wn 49 rfl rfl rfl hb18) ?_
     refine ap 14 (.bool false) rfl rfl (p_pickF rfl rfl hb18 rfl) ?_
     refine ax ?_
     refine ru4 0 (Sl.v data0) 1 (I a1) 10 (I i10) 11 (I j11) rfl rfl rfl rfl ?_
     refine ru 60 (.bool false) rfl ?_
     exact J5 (data0, a1, i10, j11, false) _ _ H
 ·intro J2
  refine r_draw #[[], [], [0, 1], [0, 1, 2], [0, 1, 2, 3], [0, 1, 2, 3], [0, 1, 2, 3, 4, 5], [0, 1, 2, 3, 4, 5, 6], [0, 1, 2, 3], [0, 1, 2, 3], [0, 1, 2, 3, 8, 9], [0, 1, 2, 3, 8, 9, 10], [0, 1, 2, 3, 4, 5, 6, 7, 8, 9, 10, 11], [0, 1, 2, 3, 4, 5, 6, 7, 8, 9, 10, 11, 12]] 14 rfl rfl ?_
  refine am 0 (I i10) rfl rfl rfl ?_
  refine am 1 (I j11) rfl rfl rfl ?_
  refine ap 2 _ rfl rfl (p_le rfl rfl rfl) ?_
  refine am 3 (.bool (decide (i10 ≤ j11))) rfl rfl rfl ?_
  refine ifB_cases H ?_ ?_
  ·clear H; intro hb19 H
   refine ay 4 (Sl.v data0) rfl rfl (wy 33 rfl rfl rfl hb19) (p_move rfl rfl) ?_
   refine ay 5 (I i10) rfl rfl (wy 33 rfl rfl rfl hb19) (p_move rfl rfl) ?_
   obtain ⟨p_49, hap_49, hlp_49, hup_49, H⟩ := H
   refine ay 6 (.pointer (some (p_49.add (i10.toNat * 1)))) rfl rfl (wy 33 rfl rfl rfl hb19) (p_indexAddr (s := data0) (ad := p_49) (size := 1) rfl u184 Try.ti3 rfl rfl hap_49 hlp_49 hup_49) ?_
   obtain ⟨adv_50, v_50, hev_50, hcv_50, H⟩ := H
   refine ar 7 (I v_50) rfl rfl (wy 33 rfl rfl rfl hb19) rfl u3 rfl rfl hev_50 hcv_50 ?_
   refine ay 8 (Sl.v data0) rfl rfl (wy 33 rfl rfl rfl hb19) (p_move rfl rfl) ?_
   refine ay 9 (I a1) rfl rfl (wy 33 rfl rfl rfl hb19) (p_move rfl rfl) ?_
   obtain ⟨p_51, hap_51, hlp_51, hup_51, H⟩ := H
   refine ay 10 (.pointer (some (p_51.add (a1.toNat * 1)))) rfl rfl (wy 33 rfl rfl rfl hb19) (p_indexAddr (s := data0) (ad := p_51) (size := 1) rfl u184 Try.ti3 rfl rfl hap_51 hlp_51 hup_51) ?_
   obtain ⟨adv_52, v_52, hev_52, hcv_52, H⟩ := H
   refine ar 11 (I v_52) rfl rfl (wy 33 rfl rfl rfl hb19) rfl u3 rfl rfl hev_52 hcv_52 ?_
   refine ae 12 [] rfl rfl rfl (wy 33 rfl rfl rfl hb19) (e_call (fn := Try.f225) H rfl rfl Try.func225 rfl rfl rfl) ?_
   rintro _ w_23 ⟨v_54, rfl, H⟩
   refine ⟨AllHeld.nil, ?_⟩
   refine ap 13 (.bool v_54) rfl rfl (p_pickT rfl rfl hb19 rfl) ?_
   refine ax ?_
   refine ru4 0 (Sl.v data0) 1 (I a1) 10 (I i10) 11 (I j11) rfl rfl rfl rfl ?_
   refine ru 43 (.bool v_54) rfl ?_
   exact J2 (data0, a1, i10, j11, v_54) _ _ H
  ·clear H; intro hb19 H
   refine ak 4 rfl rfl (wn 33 rfl rfl rfl hb19) ?_
   refine ak 5 rfl rfl (wn 33 rfl rfl rfl hb19) ?_
   refine ak 6 rfl rfl (wn 33 rfl rfl rfl hb19) ?_
   refine ak 7 rfl rfl (wn 33 rfl rfl rfl hb19) ?_
   refine ak 8 rfl rfl (wn 33 rfl rfl rfl hb19) ?_
   refine ak 9 rfl rfl (wn 33 rfl rfl rfl hb19) ?_
   refine ak 10 rfl rfl (wn 33 rfl rfl rfl hb19) ?_
   refine ak 11 rfl rfl (wn 33 rfl rfl rfl hb19) ?_
   refine ak 12 rfl rfl (wn 33 rfl rfl rfl hb19) ?_
   refine ap 13 (.bool false) rfl rfl (p_pickF rfl rfl hb19 rfl) ?_
   refine ax ?_
   refine ru4 0 (Sl.v data0) 1 (I a1) 10 (I i10) 11 (I j11) rfl rfl rfl rfl ?_
   refine ru 43 (.bool false) rfl ?_
   exact J2 (data0, a1, i10, j11, false) _ _ H

/-! 228 strings.IndexFunc -/
def f228 (R : Value → World → Prop) (s0 : ByteArray) (f1 : Value) (w : World) : Prop :=
 CallF Try.prog 251 #[(.string s0), f1, (.bool true)] w fun u_1 w_1 => As (Value.int .i64) u_1 fun v_2 =>
 R (.int .i64 v_2) w_1
theorem f228_ok (R : Value → World → Prop) (s0 : ByteArray) (f1 : Value) (w : World) (H : f228 R s0 f1 w) : CallF Try.prog 228 #[(.string s0), f1] w R := by
 refine calls_of_runs (fn := Try.f228) Try.func228 rfl (Nat.le_of_ble_eq_true rfl) ?_
 show Runs _ _ 8 _ _ _ _
 unfold f228 at H
 refine ru2 0 (.string s0) 1 f1 rfl rfl ?_
 refine sr ?_
 refine xs (I 0) rfl rfl ?_
 refine xe ?_
 refine sr ?_
 refine xm (.string s0) rfl rfl ?_
 refine xm f1 rfl rfl ?_
 refine xo_eff rfl (wo rfl) (e_call (fn := Try.f251) H rfl rfl Try.func251 rfl rfl rfl) ?_
 rintro _ w_1 ⟨v_2, rfl, H⟩
 refine xs (I v_2) rfl rfl ?_
 refine xe ?_
 exact r_ret (fn := Try.f228) Try.func228 (res_1 rfl ⟨by decide, rfl⟩) H
end Go.Proofs
