/- Laid by program. -/
import Derived.Test.YtnjilbgcflbghaaXFT
set_option linter.all false
set_option linter.unusedVariables false
set_option linter.unusedSimpArgs false
set_option maxRecDepth 20000
set_option maxHeartbeats 4000000
namespace Go.Proofs
open Go Go.X
/-! 196 slices.pdqsortOrdered[int] -/
def slices_pdqsortOrdered_int_k4 (R : Value → World → Prop) (ag1 : (Sl × Int × Int × Int × Bool × Bool) → World → Prop) (data0 : Sl) (a1 : Int) (b2 : Int) (limit3 : Int) (wasBalanced8 : Bool) (wasPartitioned9 : Bool) (length10 : Int) (pivot11 : Int) (t87 : Bool) (w : World) : Prop :=
 IfB t87 (
  CallF Try.prog 226 #[(Sl.v data0), (.int .i64 a1), (.int .i64 b2), (.int .i64 pivot11)] w fun u_6 w_4 => As (Value.int .i64) u_6 fun v_7 =>
  ag1 (data0, v_7, b2, limit3, wasBalanced8, wasPartitioned9) w_4) (
  CallF Try.prog 227 #[(Sl.v data0), (.int .i64 a1), (.int .i64 b2), (.int .i64 pivot11)] w fun u_8 w_5 => AsT2 (Value.int .i64) Value.bool u_8 fun v_9 v_10 =>
  IfB (decide ((IntKind.i64.wrap (v_9 - a1)) < (IntKind.i64.wrap (b2 - v_9)))) (
   CallF Try.prog 196 #[(Sl.v data0), (.int .i64 a1), (.int .i64 v_9), (.int .i64 limit3)] w_5 fun _ w_6 =>
   ag1 (data0, (IntKind.i64.wrap (v_9 + 1)), b2, limit3, (decide ((IntKind.i64.wrap (Int.tdiv length10 8)) ≤ (IntKind.i64.wrap (v_9 - a1)))), v_10) w_6) (
   CallF Try.prog 196 #[(Sl.v data0), (.int .i64 (IntKind.i64.wrap (v_9 + 1))), (.int .i64 b2), (.int .i64 limit3)] w_5 fun _ w_7 =>
   ag1 (data0, a1, v_9, limit3, (decide ((IntKind.i64.wrap (Int.tdiv length10 8)) ≤ (IntKind.i64.wrap (b2 - v_9)))), v_10) w_7))
def slices_pdqsortOrdered_int_k3 (R : Value → World → Prop) (ag1 : (Sl × Int × Int × Int × Bool × Bool) → World → Prop) (data0 : Sl) (a1 : Int) (b2 : Int) (limit3 : Int) (wasBalanced8 : Bool) (wasPartitioned9 : Bool) (length10 : Int) (pivot11 : Int) (w : World) : Prop :=
 IfB (decide (0 < a1)) (
  Ix data0 (IntKind.i64.wrap (a1 - 1)) fun p_13 =>
  Ld (Value.int .i64) (some (p_13.add ((IntKind.i64.wrap (a1 - 1)).toNat * 1))) (World.drew w) fun v_14 =>
  Ix data0 pivot11 fun p_15 =>
  Ld (Value.int .i64) (some (p_15.add (pivot11.toNat * 1))) (World.drew w) fun v_16 =>
  CallF Try.prog 225 #[(.int .i64 v_14), (.int .i64 v_16)] (World.drew w) fun u_17 w_9 => As Value.bool u_17 fun v_18 =>
  slices_pdqsortOrdered_int_k4 R ag1 data0 a1 b2 limit3 wasBalanced8 wasPartitioned9 length10 pivot11 (!v_18) w_9) (
  slices_pdqsortOrdered_int_k4 R ag1 data0 a1 b2 limit3 wasBalanced8 wasPartitioned9 length10 pivot11 false (World.drew w))
def slices_pdqsortOrdered_int_k5 (R : Value → World → Prop) (ag1 : (Sl × Int × Int × Int × Bool × Bool) → World → Prop) (data0 : Sl) (a1 : Int) (b2 : Int) (limit3 : Int) (wasBalanced8 : Bool) (wasPartitioned9 : Bool) (length10 : Int) (pivot11 : Int) (t68 : Bool) (w : World) : Prop :=
 IfB t68 (
  CallF Try.prog 224 #[(Sl.v data0), (.int .i64 a1), (.int .i64 b2)] w fun u_19 w_10 => As Value.bool u_19 fun v_20 =>
  IfB v_20 (
   R (.tuple #[]) w_10) (
   slices_pdqsortOrdered_int_k3 R ag1 data0 a1 b2 limit3 wasBalanced8 wasPartitioned9 length10 pivot11 w_10)) (
  slices_pdqsortOrdered_int_k3 R ag1 data0 a1 b2 limit3 wasBalanced8 wasPartitioned9 length10 pivot11 w)
def slices_pdqsortOrdered_int_k2 (R : Value → World → Prop) (ag1 : (Sl × Int × Int × Int × Bool × Bool) → World → Prop) (data0 : Sl) (a1 : Int) (b2 : Int) (limit3 : Int) (wasBalanced8 : Bool) (wasPartitioned9 : Bool) (length10 : Int) (pivot11 : Int) (hint12 : Int) (w : World) : Prop :=
 IfB wasBalanced8 (
  IfB wasPartitioned9 (
   slices_pdqsortOrdered_int_k5 R ag1 data0 a1 b2 limit3 wasBalanced8 wasPartitioned9 length10 pivot11 (decide (hint12 = 1)) w) (
   slices_pdqsortOrdered_int_k5 R ag1 data0 a1 b2 limit3 wasBalanced8 wasPartitioned9 length10 pivot11 false w)) (
  slices_pdqsortOrdered_int_k5 R ag1 data0 a1 b2 limit3 wasBalanced8 wasPartitioned9 length10 pivot11 false w)
def slices_pdqsortOrdered_int_k1 (R : Value → World → Prop) (ag1 : (Sl × Int × Int × Int × Bool × Bool) → World → Prop) (data0 : Sl) (a1 : Int) (b2 : Int) (limit3 : Int) (wasBalanced8 : Bool) (wasPartitioned9 : Bool) (length10 : Int) (w : World) : Prop :=
 CallF Try.prog 222 #[(Sl.v data0), (.int .i64 a1), (.int .i64 b2)] w fun u_3 w_3 => AsT2 (Value.int .i64) (Value.int .i64) u_3 fun v_4 v_5 =>
 IfB (decide (v_5 = 2)) (
  CallF Try.prog 223 #[(Sl.v data0), (.int .i64 a1), (.int .i64 b2)] w_3 fun _ w_11 =>
  slices_pdqsortOrdered_int_k2 R ag1 data0 a1 b2 limit3 wasBalanced8 wasPartitioned9 length10 (IntKind.i64.wrap ((IntKind.i64.wrap (b2 - 1)) - (IntKind.i64.wrap (v_4 - a1)))) 1 w_11) (
  slices_pdqsortOrdered_int_k2 R ag1 data0 a1 b2 limit3 wasBalanced8 wasPartitioned9 length10 v_4 v_5 w_3)
def slices_pdqsortOrdered_int_b0 (R : Value → World → Prop) (ag1 : (Sl × Int × Int × Int × Bool × Bool) → World → Prop) (data0 : Sl) (a1 : Int) (b2 : Int) (limit3 : Int) (wasBalanced8 : Bool) (wasPartitioned9 : Bool) (w : World) : Prop :=
 IfB (decide ((IntKind.i64.wrap (b2 - a1)) ≤ 12)) (
  CallF Try.prog 219 #[(Sl.v data0), (.int .i64 a1), (.int .i64 b2)] w fun _ w_1 =>
  R (.tuple #[]) w_1) (
  IfB (decide (limit3 = 0)) (
   CallF Try.prog 220 #[(Sl.v data0), (.int .i64 a1), (.int .i64 b2)] w fun _ w_2 =>
   R (.tuple #[]) w_2) (
   IfB (!wasBalanced8) (
    CallF Try.prog 221 #[(Sl.v data0), (.int .i64 a1), (.int .i64 b2)] w fun _ w_12 =>
    slices_pdqsortOrdered_int_k1 R ag1 data0 a1 b2 (IntKind.i64.wrap (limit3 - 1)) wasBalanced8 wasPartitioned9 (IntKind.i64.wrap (b2 - a1)) w_12) (
    slices_pdqsortOrdered_int_k1 R ag1 data0 a1 b2 limit3 wasBalanced8 wasPartitioned9 (IntKind.i64.wrap (b2 - a1)) w)))
def slices_pdqsortOrdered_int (R : Value → World → Prop) (data0 : Sl) (a1 : Int) (b2 : Int) (limit3 : Int) (w : World) : Prop :=
 Lp (fun ag (s : Sl × Int × Int × Int × Bool × Bool) w => slices_pdqsortOrdered_int_b0 R ag s.1 s.2.1 s.2.2.1 s.2.2.2.1 s.2.2.2.2.1 s.2.2.2.2.2 w) (data0, a1, b2, limit3, true, true) w
theorem slices_pdqsortOrdered_int_ok (R : Value → World → Prop) (data0 : Sl) (a1 : Int) (b2 : Int) (limit3 : Int) (w : World) (H : slices_pdqsortOrdered_int R data0 a1 b2 limit3 w) : CallF Try.prog 196 #[(Sl.v data0), (.int .i64 a1), (.int .i64 b2), (.int .i64 limit3)] w R := by
 refine calls_of_runs (fn := Try.f196) Try.func196 rfl (Nat.le_of_ble_eq_true rfl) ?_
 show Runs _ _ 134 _ _ _ _
 unfold slices_pdqsortOrdered_int at H
 refine ru 0 (Sl.v data0) rfl ?_
 refine ru 1 (.int .i64 a1) rfl ?_
 refine ru 2 (.int .i64 b2) rfl ?_
 refine ru 3 (.int .i64 limit3) rfl ?_
 refine r_seq ?_
 refine r_region ?_
 refine xs (.bool true) rfl rfl rfl rfl ?_
 refine xo_end ?_
 refine r_seq ?_
 refine r_region ?_
 refine xs (.bool true) rfl rfl rfl rfl ?_
 refine xo_end ?_
 refine r_block ?_
 refine ru 0 (Sl.v data0) rfl ?_
 refine ru 1 (.int .i64 a1) rfl ?_
 refine ru 2 (.int .i64 b2) rfl ?_
 refine ru 3 (.int .i64 limit3) rfl ?_
 refine ru 8 (.bool true) rfl ?_
 refine ru 9 (.bool true) rfl ?_
 refine r_loopJ (fun (s : Sl × Int × Int × Int × Bool × Bool) σ => upd 9 (.bool s.2.2.2.2.2) (upd 8 (.bool s.2.2.2.2.1) (upd 3 (.int .i64 s.2.2.2.1) (upd 2 (.int .i64 s.2.2.1) (upd 1 (.int .i64 s.2.1) (upd 0 (Sl.v s.1) (σ))))))) (s := (data0, a1, b2, limit3, true, true)) H ?_
 clear H
 rintro ag1 ⟨data0, a1, b2, limit3, wasBalanced8, wasPartitioned9⟩ σ w H hag1
 replace H : slices_pdqsortOrdered_int_b0 R ag1 data0 a1 b2 limit3 wasBalanced8 wasPartitioned9 w := H
 show Runs _ _ _ _ _ (upd 9 (.bool wasPartitioned9) (upd 8 (.bool wasBalanced8) (upd 3 (.int .i64 limit3) (upd 2 (.int .i64 b2) (upd 1 (.int .i64 a1) (upd 0 (Sl.v data0) (σ))))))) _
 unfold slices_pdqsortOrdered_int_b0 at H
 refine r_block ?_
 refine r_seq ?_
 refine r_region ?_
 refine xm (.int .i64 b2) rfl rfl rfl rfl ?_
 refine xm (.int .i64 a1) rfl rfl rfl rfl ?_
 refine xp _ rfl rfl (p_sub rfl rfl rfl) ?_
 refine xs (.int .i64 (IntKind.i64.wrap (b2 - a1))) rfl rfl rfl rfl ?_
 refine xo_end ?_
 refine r_seq ?_
 refine r_seq ?_
 refine r_region ?_
 refine xm (.int .i64 (IntKind.i64.wrap (b2 - a1))) rfl rfl rfl rfl ?_
 refine xp _ rfl rfl (p_le rfl rfl rfl) ?_
 refine xo_end ?_
 refine r_condB (b := (decide ((IntKind.i64.wrap (b2 - a1)) ≤ 12))) rfl H ?_ ?_
 ·clear H; intro hb2 H
  refine r_seq ?_
  refine r_region ?_
  refine xm (Sl.v data0) rfl rfl rfl rfl ?_
  refine xm (.int .i64 a1) rfl rfl rfl rfl ?_
  refine xm (.int .i64 b2) rfl rfl rfl rfl ?_
  refine xo_eff rfl (wo rfl) (e_call (fn := Try.f219) H rfl rfl Try.func219 rfl rfl rfl) ?_
  intro _ w_1 H
  refine xo_end ?_
  exact r_ret (fn := Try.f196) Try.func196 (res_0 rfl ) H
 ·clear H; intro hb2 H
  refine r_skip ?_
  refine r_seq ?_
  refine r_seq ?_
  refine r_region ?_
  refine xm (.int .i64 limit3) rfl rfl rfl rfl ?_
  refine xp _ rfl rfl (p_eq rfl rfl rfl) ?_
  refine xo_end ?_
  refine r_condB (b := (decide (limit3 = 0))) rfl H ?_ ?_
  ·clear H; intro hb3 H
   refine r_seq ?_
   refine r_region ?_
   refine xm (Sl.v data0) rfl rfl rfl rfl ?_
   refine xm (.int .i64 a1) rfl rfl rfl rfl ?_
   refine xm (.int .i64 b2) rfl rfl rfl rfl ?_
   refine xo_eff rfl (wo rfl) (e_call (fn := Try.f220) H rfl rfl Try.func220 rfl rfl rfl) ?_
   intro _ w_2 H
   refine xo_end ?_
   exact r_ret (fn := Try.f196) Try.func196 (res_0 rfl ) H
  ·clear H; intro hb3 H
   refine r_skip ?_
   refine r_seqJ (fun (s : Sl × Int × Int × Int × Bool × Bool × Int) σ => upd 10 (.int .i64 s.2.2.2.2.2.2) (upd 9 (.bool s.2.2.2.2.2.1) (upd 8 (.bool s.2.2.2.2.1) (upd 3 (.int .i64 s.2.2.2.1) (upd 2 (.int .i64 s.2.2.1) (upd 1 (.int .i64 s.2.1) (upd 0 (Sl.v s.1) (σ)))))))) (fun (s : Sl × Int × Int × Int × Bool × Bool × Int) w => slices_pdqsortOrdered_int_k1 R ag1 s.1 s.2.1 s.2.2.1 s.2.2.2.1 s.2.2.2.2.1 s.2.2.2.2.2.1 s.2.2.2.2.2.2 w) ?_ ?_
   ·rintro ⟨data0, a1, b2, limit3, wasBalanced8, wasPartitioned9, length10⟩ σ w H
    replace H : slices_pdqsortOrdered_int_k1 R ag1 data0 a1 b2 limit3 wasBalanced8 wasPartitioned9 length10 w := H
    show Runs _ _ _ _ _ (upd 10 (.int .i64 length10) (upd 9 (.bool wasPartitioned9) (upd 8 (.bool wasBalanced8) (upd 3 (.int .i64 limit3) (upd 2 (.int .i64 b2) (upd 1 (.int .i64 a1) (upd 0 (Sl.v data0) (σ)))))))) _
    unfold slices_pdqsortOrdered_int_k1 at H
    refine r_seq ?_
    refine r_region ?_
    refine xm (Sl.v data0) rfl rfl rfl rfl ?_
    refine xm (.int .i64 a1) rfl rfl rfl rfl ?_
    refine xm (.int .i64 b2) rfl rfl rfl rfl ?_
    refine xo_eff rfl (wo rfl) (e_call (fn := Try.f222) H rfl rfl Try.func222 rfl rfl rfl) ?_
    rintro _ w_3 ⟨v_4, v_5, rfl, H⟩
    refine xm (.tuple #[(.int .i64 v_4), (.int .i64 v_5)]) rfl rfl rfl rfl ?_
    refine xp (.int .i64 v_4) rfl rfl (p_extract (vs := #[(.int .i64 v_4), (.int .i64 v_5)]) rfl rfl rfl) ?_
    refine xp (.int .i64 v_5) rfl rfl (p_extract (vs := #[(.int .i64 v_4), (.int .i64 v_5)]) rfl rfl rfl) ?_
    refine xs (.int .i64 v_4) rfl rfl rfl rfl ?_
    refine xs (.int .i64 v_5) rfl rfl rfl rfl ?_
    refine xo_end ?_
    refine r_seqJ (fun (s : Sl × Int × Int × Int × Bool × Bool × Int × Int × Int) σ => upd 12 (.int .i64 s.2.2.2.2.2.2.2.2) (upd 11 (.int .i64 s.2.2.2.2.2.2.2.1) (upd 10 (.int .i64 s.2.2.2.2.2.2.1) (upd 9 (.bool s.2.2.2.2.2.1) (upd 8 (.bool s.2.2.2.2.1) (upd 3 (.int .i64 s.2.2.2.1) (upd 2 (.int .i64 s.2.2.1) (upd 1 (.int .i64 s.2.1) (upd 0 (Sl.v s.1) (σ)))))))))) (fun (s : Sl × Int × Int × Int × Bool × Bool × Int × Int × Int) w => slices_pdqsortOrdered_int_k2 R ag1 s.1 s.2.1 s.2.2.1 s.2.2.2.1 s.2.2.2.2.1 s.2.2.2.2.2.1 s.2.2.2.2.2.2.1 s.2.2.2.2.2.2.2.1 s.2.2.2.2.2.2.2.2 w) ?_ ?_
    ·rintro ⟨data0, a1, b2, limit3, wasBalanced8, wasPartitioned9, length10, pivot11, hint12⟩ σ w H
     replace H : slices_pdqsortOrdered_int_k2 R ag1 data0 a1 b2 limit3 wasBalanced8 wasPartitioned9 length10 pivot11 hint12 w := H
     show Runs _ _ _ _ _ (upd 12 (.int .i64 hint12) (upd 11 (.int .i64 pivot11) (upd 10 (.int .i64 length10) (upd 9 (.bool wasPartitioned9) (upd 8 (.bool wasBalanced8) (upd 3 (.int .i64 limit3) (upd 2 (.int .i64 b2) (upd 1 (.int .i64 a1) (upd 0 (Sl.v data0) (σ)))))))))) _
     unfold slices_pdqsortOrdered_int_k2 at H
     refine r_seqJ (fun (s : Sl × Int × Int × Int × Bool × Bool × Int × Int) σ => upd 11 (.int .i64 s.2.2.2.2.2.2.2) (upd 10 (.int .i64 s.2.2.2.2.2.2.1) (upd 9 (.bool s.2.2.2.2.2.1) (upd 8 (.bool s.2.2.2.2.1) (upd 3 (.int .i64 s.2.2.2.1) (upd 2 (.int .i64 s.2.2.1) (upd 1 (.int .i64 s.2.1) (upd 0 (Sl.v s.1) (σ))))))))) (fun (s : Sl × Int × Int × Int × Bool × Bool × Int × Int) w => slices_pdqsortOrdered_int_k3 R ag1 s.1 s.2.1 s.2.2.1 s.2.2.2.1 s.2.2.2.2.1 s.2.2.2.2.2.1 s.2.2.2.2.2.2.1 s.2.2.2.2.2.2.2 w) ?_ ?_
     ·rintro ⟨data0, a1, b2, limit3, wasBalanced8, wasPartitioned9, length10, pivot11⟩ σ w H
      replace H : slices_pdqsortOrdered_int_k3 R ag1 data0 a1 b2 limit3 wasBalanced8 wasPartitioned9 length10 pivot11 w := H
      show Runs _ _ _ _ _ (upd 11 (.int .i64 pivot11) (upd 10 (.int .i64 length10) (upd 9 (.bool wasPartitioned9) (upd 8 (.bool wasBalanced8) (upd 3 (.int .i64 limit3) (upd 2 (.int .i64 b2) (upd 1 (.int .i64 a1) (upd 0 (Sl.v data0) (σ))))))))) _
      unfold slices_pdqsortOrdered_int_k3 at H
      refine r_seq ?_
      refine r_seq ?_
      refine r_topJ (fun (s : Sl × Int × Int × Int × Bool × Bool × Int × Int × Bool) σ => upd 87 (.bool s.2.2.2.2.2.2.2.2) (upd 11 (.int .i64 s.2.2.2.2.2.2.2.1) (upd 10 (.int .i64 s.2.2.2.2.2.2.1) (upd 9 (.bool s.2.2.2.2.2.1) (upd 8 (.bool s.2.2.2.2.1) (upd 3 (.int .i64 s.2.2.2.1) (upd 2 (.int .i64 s.2.2.1) (upd 1 (.int .i64 s.2.1) (upd 0 (Sl.v s.1) (σ)))))))))) (fun (s : Sl × Int × Int × Int × Bool × Bool × Int × Int × Bool) w => slices_pdqsortOrdered_int_k4 R ag1 s.1 s.2.1 s.2.2.1 s.2.2.2.1 s.2.2.2.2.1 s.2.2.2.2.2.1 s.2.2.2.2.2.2.1 s.2.2.2.2.2.2.2.1 s.2.2.2.2.2.2.2.2 w) ?_ ?_
      ·rintro ⟨data0, a1, b2, limit3, wasBalanced8, wasPartitioned9, length10, pivot11, t87⟩ σ w H
       replace H : slices_pdqsortOrdered_int_k4 R ag1 data0 a1 b2 limit3 wasBalanced8 wasPartitioned9 length10 pivot11 t87 w := H
       show Runs _ _ _ _ _ (upd 87 (.bool t87) (upd 11 (.int .i64 pivot11) (upd 10 (.int .i64 length10) (upd 9 (.bool wasPartitioned9) (upd 8 (.bool wasBalanced8) (upd 3 (.int .i64 limit3) (upd 2 (.int .i64 b2) (upd 1 (.int .i64 a1) (upd 0 (Sl.v data0) (σ)))))))))) _
       unfold slices_pdqsortOrdered_int_k4 at H
       refine r_condB (b := t87) rfl H ?_ ?_
       ·clear H; intro hb8 H
        refine r_seq ?_
        refine r_region ?_
        refine xm (Sl.v data0) rfl rfl rfl rfl ?_
        refine xm (.int .i64 a1) rfl rfl rfl rfl ?_
        refine xm (.int .i64 b2) rfl rfl rfl rfl ?_
        refine xm (.int .i64 pivot11) rfl rfl rfl rfl ?_
        refine xo_eff rfl (wo rfl) (e_call (fn := Try.f226) H rfl rfl Try.func226 rfl rfl rfl) ?_
        rintro _ w_4 ⟨v_7, rfl, H⟩
        refine xs (.int .i64 v_7) rfl rfl rfl rfl ?_
        refine xo_end ?_
        refine r_seq ?_
        refine r_region ?_
        refine xm (.int .i64 v_7) rfl rfl rfl rfl ?_
        refine xs (.int .i64 v_7) rfl rfl rfl rfl ?_
        refine xo_end ?_
        refine r_exit rfl ?_
        refine ru 0 (Sl.v data0) rfl ?_
        refine ru 1 (.int .i64 v_7) rfl ?_
        refine ru 2 (.int .i64 b2) rfl ?_
        refine ru 3 (.int .i64 limit3) rfl ?_
        refine ru 8 (.bool wasBalanced8) rfl ?_
        refine ru 9 (.bool wasPartitioned9) rfl ?_
        exact hag1 (data0, v_7, b2, limit3, wasBalanced8, wasPartitioned9) _ _ H
       ·clear H; intro hb8 H
        refine r_skip ?_
        refine r_seq ?_
        refine r_region ?_
        refine xm (Sl.v data0) rfl rfl rfl rfl ?_
        refine xm (.int .i64 a1) rfl rfl rfl rfl ?_
        refine xm (.int .i64 b2) rfl rfl rfl rfl ?_
        refine xm (.int .i64 pivot11) rfl rfl rfl rfl ?_
        refine xo_eff rfl (wo rfl) (e_call (fn := Try.f227) H rfl rfl Try.func227 rfl rfl rfl) ?_
        rintro _ w_5 ⟨v_9, v_10, rfl, H⟩
        refine xm (.tuple #[(.int .i64 v_9), (.bool v_10)]) rfl rfl rfl rfl ?_
        refine xp (.int .i64 v_9) rfl rfl (p_extract (vs := #[(.int .i64 v_9), (.bool v_10)]) rfl rfl rfl) ?_
        refine xp (.bool v_10) rfl rfl (p_extract (vs := #[(.int .i64 v_9), (.bool v_10)]) rfl rfl rfl) ?_
        refine xs (.int .i64 v_9) rfl rfl rfl rfl ?_
        refine xs (.bool v_10) rfl rfl rfl rfl ?_
        refine xo_end ?_
        refine r_seq ?_
        refine r_region ?_
        refine xm (.bool v_10) rfl rfl rfl rfl ?_
        refine xs (.bool v_10) rfl rfl rfl rfl ?_
        refine xo_end ?_
        refine r_seq ?_
        refine r_region ?_
        refine xm (.int .i64 v_9) rfl rfl rfl rfl ?_
        refine xm (.int .i64 a1) rfl rfl rfl rfl ?_
        refine xp _ rfl rfl (p_sub rfl rfl rfl) ?_
        refine xm (.int .i64 b2) rfl rfl rfl rfl ?_
        refine xm (.int .i64 v_9) rfl rfl rfl rfl ?_
        refine xp _ rfl rfl (p_sub rfl rfl rfl) ?_
        refine xs (.int .i64 (IntKind.i64.wrap (v_9 - a1))) rfl rfl rfl rfl ?_
        refine xs (.int .i64 (IntKind.i64.wrap (b2 - v_9))) rfl rfl rfl rfl ?_
        refine xo_end ?_
        refine r_seq ?_
        refine r_region ?_
        refine xm (.int .i64 length10) rfl rfl rfl rfl ?_
        refine xp (.int .i64 (IntKind.i64.wrap (Int.tdiv length10 8))) rfl rfl (p_quo rfl rfl rfl (by decide)) ?_
        refine xs (.int .i64 (IntKind.i64.wrap (Int.tdiv length10 8))) rfl rfl rfl rfl ?_
        refine xo_end ?_
        refine r_seq ?_
        refine r_region ?_
        refine xm (.int .i64 (IntKind.i64.wrap (v_9 - a1))) rfl rfl rfl rfl ?_
        refine xm (.int .i64 (IntKind.i64.wrap (b2 - v_9))) rfl rfl rfl rfl ?_
        refine xp _ rfl rfl (p_lt rfl rfl rfl) ?_
        refine xo_end ?_
        refine r_condB (b := (decide ((IntKind.i64.wrap (v_9 - a1)) < (IntKind.i64.wrap (b2 - v_9))))) rfl H ?_ ?_
        ·clear H; intro hb9 H
         refine r_seq ?_
         refine r_region ?_
         refine xm (.int .i64 (IntKind.i64.wrap (v_9 - a1))) rfl rfl rfl rfl ?_
         refine xm (.int .i64 (IntKind.i64.wrap (Int.tdiv length10 8))) rfl rfl rfl rfl ?_
         refine xp _ rfl rfl (p_ge rfl rfl rfl) ?_
         refine xs (.bool (decide ((IntKind.i64.wrap (Int.tdiv length10 8)) ≤ (IntKind.i64.wrap (v_9 - a1))))) rfl rfl rfl rfl ?_
         refine xo_end ?_
         refine r_seq ?_
         refine r_region ?_
         refine xm (Sl.v data0) rfl rfl rfl rfl ?_
         refine xm (.int .i64 a1) rfl rfl rfl rfl ?_
         refine xm (.int .i64 v_9) rfl rfl rfl rfl ?_
         refine xm (.int .i64 limit3) rfl rfl rfl rfl ?_
         refine xo_eff rfl (wo rfl) (e_call (fn := Try.f196) H rfl rfl Try.func196 rfl rfl rfl) ?_
         intro _ w_6 H
         refine xo_end ?_
         refine r_region ?_
         refine xm (.int .i64 v_9) rfl rfl rfl rfl ?_
         refine xp _ rfl rfl (p_add rfl rfl rfl) ?_
         refine xs (.int .i64 (IntKind.i64.wrap (v_9 + 1))) rfl rfl rfl rfl ?_
         refine xo_end ?_
         refine r_inBlock ?_
         refine ru 0 (Sl.v data0) rfl ?_
         refine ru 1 (.int .i64 (IntKind.i64.wrap (v_9 + 1))) rfl ?_
         refine ru 2 (.int .i64 b2) rfl ?_
         refine ru 3 (.int .i64 limit3) rfl ?_
         refine ru 8 (.bool (decide ((IntKind.i64.wrap (Int.tdiv length10 8)) ≤ (IntKind.i64.wrap (v_9 - a1))))) rfl ?_
         refine ru 9 (.bool v_10) rfl ?_
         exact hag1 (data0, (IntKind.i64.wrap (v_9 + 1)), b2, limit3, (decide ((IntKind.i64.wrap (Int.tdiv length10 8)) ≤ (IntKind.i64.wrap (v_9 - a1)))), v_10) _ _ H
        ·clear H; intro hb9 H
         refine r_seq ?_
         refine r_region ?_
         refine xm (.int .i64 (IntKind.i64.wrap (b2 - v_9))) rfl rfl rfl rfl ?_
         refine xm (.int .i64 (IntKind.i64.wrap (Int.tdiv length10 8))) rfl rfl rfl rfl ?_
         refine xp _ rfl rfl (p_ge rfl rfl rfl) ?_
         refine xs (.bool (decide ((IntKind.i64.wrap (Int.tdiv length10 8)) ≤ (IntKind.i64.wrap (b2 - v_9))))) rfl rfl rfl rfl ?_
         refine xo_end ?_
         refine r_seq ?_
         refine r_region ?_
         refine xm (Sl.v data0) rfl rfl rfl rfl ?_
         refine xm (.int .i64 v_9) rfl rfl rfl rfl ?_
         refine xp _ rfl rfl (p_add rfl rfl rfl) ?_
         refine xm (.int .i64 b2) rfl rfl rfl rfl ?_
         refine xm (.int .i64 limit3) rfl rfl rfl rfl ?_
         refine xo_eff rfl (wo rfl) (e_call (fn := Try.f196) H rfl rfl Try.func196 rfl rfl rfl) ?_
         intro _ w_7 H
         refine xo_end ?_
         refine r_region ?_
         refine xm (.int .i64 v_9) rfl rfl rfl rfl ?_
         refine xs (.int .i64 v_9) rfl rfl rfl rfl ?_
         refine xo_end ?_
         refine r_inBlock ?_
         refine ru 0 (Sl.v data0) rfl ?_
         refine ru 1 (.int .i64 a1) rfl ?_
         refine ru 2 (.int .i64 v_9) rfl ?_
         refine ru 3 (.int .i64 limit3) rfl ?_
         refine ru 8 (.bool (decide ((IntKind.i64.wrap (Int.tdiv length10 8)) ≤ (IntKind.i64.wrap (b2 - v_9))))) rfl ?_
         refine ru 9 (.bool v_10) rfl ?_
         exact hag1 (data0, a1, v_9, limit3, (decide ((IntKind.i64.wrap (Int.tdiv length10 8)) ≤ (IntKind.i64.wrap (b2 - v_9)))), v_10) _ _ H
      ·intro J7
       refine r_draw #[[], [0], [0, 1], [0, 1, 2], [0, 1, 2], [0, 1, 2, 4], [0, 1, 2, 3, 4, 5], [0, 1, 2, 3, 4, 5, 6], [0, 1, 2], [0, 1, 2], [0, 1, 2, 8, 9], [0, 1, 2, 8, 9, 10], [0, 1, 2, 3, 4, 5, 6, 7, 8, 9, 10, 11], [0, 1, 2, 3, 4, 5, 6, 7, 8, 9, 10, 11, 12], [0, 1, 2, 3, 4, 5, 6, 7, 8, 9, 10, 11, 12, 13]] 15 rfl rfl ?_
       refine am 0 (.int .i64 a1) rfl rfl rfl rfl rfl ?_
       refine ap 1 _ rfl rfl rfl (p_gt rfl rfl rfl) ?_
       refine am 2 (.bool (decide (0 < a1))) rfl rfl rfl rfl rfl ?_
       refine ifB_cases H ?_ ?_
       ·clear H; intro hb10 H
        refine xa_pure (v := (Sl.v data0)) 3 (by decide +kernel) rfl rfl (wy 75 rfl rfl rfl hb10) (p_move rfl rfl) ?_
        refine xa_pure (v := (.int .i64 a1)) 4 (by decide +kernel) rfl rfl (wy 75 rfl rfl rfl hb10) (p_move rfl rfl) ?_
        refine xa_pure (v := (.int .i64 (IntKind.i64.wrap (a1 - 1)))) 5 (by decide +kernel) rfl rfl (wy 75 rfl rfl rfl hb10) (p_sub rfl rfl rfl) ?_
        obtain ⟨p_13, hap_13, hlp_13, hup_13, H⟩ := H
        refine xa_pure (v := (.pointer (some (p_13.add ((IntKind.i64.wrap (a1 - 1)).toNat * 1))))) 6 (by decide +kernel) rfl rfl (wy 75 rfl rfl rfl hb10) (p_indexAddr (s := data0) (ad := p_13) (size := 1) rfl Try.underlying184 Try.ti3 rfl rfl hap_13 hlp_13 hup_13) ?_
        obtain ⟨adv_14, v_14, hev_14, hcv_14, H⟩ := H
        refine ar 7 (.int .i64 v_14) rfl rfl (wy 75 rfl rfl rfl hb10) rfl Try.underlying3 rfl rfl hev_14 hcv_14 ?_
        refine xa_pure (v := (Sl.v data0)) 8 (by decide +kernel) rfl rfl (wy 75 rfl rfl rfl hb10) (p_move rfl rfl) ?_
        refine xa_pure (v := (.int .i64 pivot11)) 9 (by decide +kernel) rfl rfl (wy 75 rfl rfl rfl hb10) (p_move rfl rfl) ?_
        obtain ⟨p_15, hap_15, hlp_15, hup_15, H⟩ := H
        refine xa_pure (v := (.pointer (some (p_15.add (pivot11.toNat * 1))))) 10 (by decide +kernel) rfl rfl (wy 75 rfl rfl rfl hb10) (p_indexAddr (s := data0) (ad := p_15) (size := 1) rfl Try.underlying184 Try.ti3 rfl rfl hap_15 hlp_15 hup_15) ?_
        obtain ⟨adv_16, v_16, hev_16, hcv_16, H⟩ := H
        refine ar 11 (.int .i64 v_16) rfl rfl (wy 75 rfl rfl rfl hb10) rfl Try.underlying3 rfl rfl hev_16 hcv_16 ?_
        refine xa_eff 12 [] (by decide +kernel) rfl rfl rfl (wy 75 rfl rfl rfl hb10) (e_call (fn := Try.f225) H rfl rfl Try.func225 rfl rfl rfl) ?_
        rintro _ w_9 ⟨v_18, rfl, H⟩
        refine ⟨AllHeld.nil, ?_⟩
        refine xa_pure (v := (.bool (!v_18))) 13 (by decide +kernel) rfl rfl (wy 75 rfl rfl rfl hb10) (p_not rfl rfl) ?_
        refine ap 14 (.bool (!v_18)) rfl rfl rfl (p_pickT rfl rfl hb10 rfl) ?_
        refine ax ?_
        refine ru 0 (Sl.v data0) rfl ?_
        refine ru 1 (.int .i64 a1) rfl ?_
        refine ru 2 (.int .i64 b2) rfl ?_
        refine ru 3 (.int .i64 limit3) rfl ?_
        refine ru 8 (.bool wasBalanced8) rfl ?_
        refine ru 9 (.bool wasPartitioned9) rfl ?_
        refine ru 10 (.int .i64 length10) rfl ?_
        refine ru 11 (.int .i64 pivot11) rfl ?_
        refine ru 87 (.bool (!v_18)) rfl ?_
        exact J7 (data0, a1, b2, limit3, wasBalanced8, wasPartitioned9, length10, pivot11, (!v_18)) _ _ H
       ·clear H; intro hb10 H
        refine ak 3 rfl rfl (wn 75 rfl rfl rfl hb10) ?_
        refine ak 4 rfl rfl (wn 75 rfl rfl rfl hb10) ?_
        refine ak 5 rfl rfl (wn 75 rfl rfl rfl hb10) ?_
        refine ak 6 rfl rfl (wn 75 rfl rfl rfl hb10) ?_
        refine ak 7 rfl rfl (wn 75 rfl rfl rfl hb10) ?_
        refine ak 8 rfl rfl (wn 75 rfl rfl rfl hb10) ?_
        refine ak 9 rfl rfl (wn 75 rfl rfl rfl hb10) ?_
        refine ak 10 rfl rfl (wn 75 rfl rfl rfl hb10) ?_
        refine ak 11 rfl rfl (wn 75 rfl rfl rfl hb10) ?_
        refine ak 12 rfl rfl (wn 75 rfl rfl rfl hb10) ?_
        refine ak 13 rfl rfl (wn 75 rfl rfl rfl hb10) ?_
        refine ap 14 (.bool false) rfl rfl rfl (p_pickF rfl rfl hb10 rfl) ?_
        refine ax ?_
        refine ru 0 (Sl.v data0) rfl ?_
        refine ru 1 (.int .i64 a1) rfl ?_
        refine ru 2 (.int .i64 b2) rfl ?_
        refine ru 3 (.int .i64 limit3) rfl ?_
        refine ru 8 (.bool wasBalanced8) rfl ?_
        refine ru 9 (.bool wasPartitioned9) rfl ?_
        refine ru 10 (.int .i64 length10) rfl ?_
        refine ru 11 (.int .i64 pivot11) rfl ?_
        refine ru 87 (.bool false) rfl ?_
        exact J7 (data0, a1, b2, limit3, wasBalanced8, wasPartitioned9, length10, pivot11, false) _ _ H
     ·intro J6
      refine r_seq ?_
      refine r_topJ (fun (s : Sl × Int × Int × Int × Bool × Bool × Int × Int × Bool) σ => upd 68 (.bool s.2.2.2.2.2.2.2.2) (upd 11 (.int .i64 s.2.2.2.2.2.2.2.1) (upd 10 (.int .i64 s.2.2.2.2.2.2.1) (upd 9 (.bool s.2.2.2.2.2.1) (upd 8 (.bool s.2.2.2.2.1) (upd 3 (.int .i64 s.2.2.2.1) (upd 2 (.int .i64 s.2.2.1) (upd 1 (.int .i64 s.2.1) (upd 0 (Sl.v s.1) (σ)))))))))) (fun (s : Sl × Int × Int × Int × Bool × Bool × Int × Int × Bool) w => slices_pdqsortOrdered_int_k5 R ag1 s.1 s.2.1 s.2.2.1 s.2.2.2.1 s.2.2.2.2.1 s.2.2.2.2.2.1 s.2.2.2.2.2.2.1 s.2.2.2.2.2.2.2.1 s.2.2.2.2.2.2.2.2 w) ?_ ?_
      ·rintro ⟨data0, a1, b2, limit3, wasBalanced8, wasPartitioned9, length10, pivot11, t68⟩ σ w H
       replace H : slices_pdqsortOrdered_int_k5 R ag1 data0 a1 b2 limit3 wasBalanced8 wasPartitioned9 length10 pivot11 t68 w := H
       show Runs _ _ _ _ _ (upd 68 (.bool t68) (upd 11 (.int .i64 pivot11) (upd 10 (.int .i64 length10) (upd 9 (.bool wasPartitioned9) (upd 8 (.bool wasBalanced8) (upd 3 (.int .i64 limit3) (upd 2 (.int .i64 b2) (upd 1 (.int .i64 a1) (upd 0 (Sl.v data0) (σ)))))))))) _
       unfold slices_pdqsortOrdered_int_k5 at H
       refine r_condB (b := t68) rfl H ?_ ?_
       ·clear H; intro hb12 H
        refine r_seq ?_
        refine r_region ?_
        refine xm (Sl.v data0) rfl rfl rfl rfl ?_
        refine xm (.int .i64 a1) rfl rfl rfl rfl ?_
        refine xm (.int .i64 b2) rfl rfl rfl rfl ?_
        refine xo_eff rfl (wo rfl) (e_call (fn := Try.f224) H rfl rfl Try.func224 rfl rfl rfl) ?_
        rintro _ w_10 ⟨v_20, rfl, H⟩
        refine xo_end ?_
        refine r_condB (b := v_20) rfl H ?_ ?_
        ·clear H; intro hb13 H
         exact r_ret (fn := Try.f196) Try.func196 (res_0 rfl ) H
        ·clear H; intro hb13 H
         refine r_skip ?_
         refine ru 0 (Sl.v data0) rfl ?_
         refine ru 1 (.int .i64 a1) rfl ?_
         refine ru 2 (.int .i64 b2) rfl ?_
         refine ru 3 (.int .i64 limit3) rfl ?_
         refine ru 8 (.bool wasBalanced8) rfl ?_
         refine ru 9 (.bool wasPartitioned9) rfl ?_
         refine ru 10 (.int .i64 length10) rfl ?_
         refine ru 11 (.int .i64 pivot11) rfl ?_
         exact J6 (data0, a1, b2, limit3, wasBalanced8, wasPartitioned9, length10, pivot11) _ _ H
       ·clear H; intro hb12 H
        refine r_skip ?_
        refine ru 0 (Sl.v data0) rfl ?_
        refine ru 1 (.int .i64 a1) rfl ?_
        refine ru 2 (.int .i64 b2) rfl ?_
        refine ru 3 (.int .i64 limit3) rfl ?_
        refine ru 8 (.bool wasBalanced8) rfl ?_
        refine ru 9 (.bool wasPartitioned9) rfl ?_
        refine ru 10 (.int .i64 length10) rfl ?_
        refine ru 11 (.int .i64 pivot11) rfl ?_
        exact J6 (data0, a1, b2, limit3, wasBalanced8, wasPartitioned9, length10, pivot11) _ _ H
      ·intro J11
       refine r_region ?_
       refine xm (.bool wasBalanced8) rfl rfl rfl rfl ?_
       refine xm (.bool wasBalanced8) rfl rfl rfl rfl ?_
       refine ifB_cases H ?_ ?_
       ·clear H; intro hb14 H
        refine xo_pure (v := (.bool wasPartitioned9)) rfl (wy 62 rfl rfl rfl hb14) (p_move rfl rfl) ?_
        refine xp (.bool wasPartitioned9) rfl rfl (p_pickT rfl rfl hb14 rfl) ?_
        refine xm (.bool wasPartitioned9) rfl rfl rfl rfl ?_
        refine ifB_cases H ?_ ?_
        ·clear H; intro hb15 H
         refine xo_pure (v := (.int .i64 hint12)) rfl (wy 65 rfl rfl rfl hb15) (p_move rfl rfl) ?_
         refine xo_pure (v := (.bool (decide (hint12 = 1)))) rfl (wy 65 rfl rfl rfl hb15) (p_eq rfl rfl rfl) ?_
         refine xp (.bool (decide (hint12 = 1))) rfl rfl (p_pickT rfl rfl hb15 rfl) ?_
         refine xo_end ?_
         refine ru 0 (Sl.v data0) rfl ?_
         refine ru 1 (.int .i64 a1) rfl ?_
         refine ru 2 (.int .i64 b2) rfl ?_
         refine ru 3 (.int .i64 limit3) rfl ?_
         refine ru 8 (.bool wasBalanced8) rfl ?_
         refine ru 9 (.bool wasPartitioned9) rfl ?_
         refine ru 10 (.int .i64 length10) rfl ?_
         refine ru 11 (.int .i64 pivot11) rfl ?_
         refine ru 68 (.bool (decide (hint12 = 1))) rfl ?_
         exact J11 (data0, a1, b2, limit3, wasBalanced8, wasPartitioned9, length10, pivot11, (decide (hint12 = 1))) _ _ H
        ·clear H; intro hb15 H
         refine xo_skip rfl (wn 65 rfl rfl rfl hb15) ?_
         refine xo_skip rfl (wn 65 rfl rfl rfl hb15) ?_
         refine xp (.bool false) rfl rfl (p_pickF rfl rfl hb15 rfl) ?_
         refine xo_end ?_
         refine ru 0 (Sl.v data0) rfl ?_
         refine ru 1 (.int .i64 a1) rfl ?_
         refine ru 2 (.int .i64 b2) rfl ?_
         refine ru 3 (.int .i64 limit3) rfl ?_
         refine ru 8 (.bool wasBalanced8) rfl ?_
         refine ru 9 (.bool wasPartitioned9) rfl ?_
         refine ru 10 (.int .i64 length10) rfl ?_
         refine ru 11 (.int .i64 pivot11) rfl ?_
         refine ru 68 (.bool false) rfl ?_
         exact J11 (data0, a1, b2, limit3, wasBalanced8, wasPartitioned9, length10, pivot11, false) _ _ H
       ·clear H; intro hb14 H
        refine xo_skip rfl (wn 62 rfl rfl rfl hb14) ?_
        refine xp (.bool false) rfl rfl (p_pickF rfl rfl hb14 rfl) ?_
        refine xm (.bool false) rfl rfl rfl rfl ?_
        refine xo_skip rfl (wn 65 rfl rfl rfl rfl) ?_
        refine xo_skip rfl (wn 65 rfl rfl rfl rfl) ?_
        refine xp (.bool false) rfl rfl (p_pickF rfl rfl rfl rfl) ?_
        refine xo_end ?_
        refine ru 0 (Sl.v data0) rfl ?_
        refine ru 1 (.int .i64 a1) rfl ?_
        refine ru 2 (.int .i64 b2) rfl ?_
        refine ru 3 (.int .i64 limit3) rfl ?_
        refine ru 8 (.bool wasBalanced8) rfl ?_
        refine ru 9 (.bool wasPartitioned9) rfl ?_
        refine ru 10 (.int .i64 length10) rfl ?_
        refine ru 11 (.int .i64 pivot11) rfl ?_
        refine ru 68 (.bool false) rfl ?_
        exact J11 (data0, a1, b2, limit3, wasBalanced8, wasPartitioned9, length10, pivot11, false) _ _ H
    ·intro J5
     refine r_seq ?_
     refine r_region ?_
     refine xm (.int .i64 v_5) rfl rfl rfl rfl ?_
     refine xp _ rfl rfl (p_eq rfl rfl rfl) ?_
     refine xo_end ?_
     refine r_condB (b := (decide (v_5 = 2))) rfl H ?_ ?_
     ·clear H; intro hb16 H
      refine r_seq ?_
      refine r_region ?_
      refine xm (Sl.v data0) rfl rfl rfl rfl ?_
      refine xm (.int .i64 a1) rfl rfl rfl rfl ?_
      refine xm (.int .i64 b2) rfl rfl rfl rfl ?_
      refine xo_eff rfl (wo rfl) (e_call (fn := Try.f223) H rfl rfl Try.func223 rfl rfl rfl) ?_
      intro _ w_11 H
      refine xo_end ?_
      refine r_seq ?_
      refine r_region ?_
      refine xm (.int .i64 b2) rfl rfl rfl rfl ?_
      refine xp _ rfl rfl (p_sub rfl rfl rfl) ?_
      refine xm (.int .i64 v_4) rfl rfl rfl rfl ?_
      refine xm (.int .i64 a1) rfl rfl rfl rfl ?_
      refine xp _ rfl rfl (p_sub rfl rfl rfl) ?_
      refine xp _ rfl rfl (p_sub rfl rfl rfl) ?_
      refine xs (.int .i64 (IntKind.i64.wrap ((IntKind.i64.wrap (b2 - 1)) - (IntKind.i64.wrap (v_4 - a1))))) rfl rfl rfl rfl ?_
      refine xo_end ?_
      refine r_region ?_
      refine xs (.int .i64 1) rfl rfl rfl rfl ?_
      refine xo_end ?_
      refine ru 0 (Sl.v data0) rfl ?_
      refine ru 1 (.int .i64 a1) rfl ?_
      refine ru 2 (.int .i64 b2) rfl ?_
      refine ru 3 (.int .i64 limit3) rfl ?_
      refine ru 8 (.bool wasBalanced8) rfl ?_
      refine ru 9 (.bool wasPartitioned9) rfl ?_
      refine ru 10 (.int .i64 length10) rfl ?_
      refine ru 11 (.int .i64 (IntKind.i64.wrap ((IntKind.i64.wrap (b2 - 1)) - (IntKind.i64.wrap (v_4 - a1))))) rfl ?_
      refine ru 12 (.int .i64 1) rfl ?_
      exact J5 (data0, a1, b2, limit3, wasBalanced8, wasPartitioned9, length10, (IntKind.i64.wrap ((IntKind.i64.wrap (b2 - 1)) - (IntKind.i64.wrap (v_4 - a1)))), 1) _ _ H
     ·clear H; intro hb16 H
      refine r_skip ?_
      refine ru 0 (Sl.v data0) rfl ?_
      refine ru 1 (.int .i64 a1) rfl ?_
      refine ru 2 (.int .i64 b2) rfl ?_
      refine ru 3 (.int .i64 limit3) rfl ?_
      refine ru 8 (.bool wasBalanced8) rfl ?_
      refine ru 9 (.bool wasPartitioned9) rfl ?_
      refine ru 10 (.int .i64 length10) rfl ?_
      refine ru 11 (.int .i64 v_4) rfl ?_
      refine ru 12 (.int .i64 v_5) rfl ?_
      exact J5 (data0, a1, b2, limit3, wasBalanced8, wasPartitioned9, length10, v_4, v_5) _ _ H
   ·intro J4
    refine r_seq ?_
    refine r_region ?_
    refine xm (.bool wasBalanced8) rfl rfl rfl rfl ?_
    refine xp (.bool (!wasBalanced8)) rfl rfl (p_not rfl rfl) ?_
    refine xo_end ?_
    refine r_condB (b := (!wasBalanced8)) rfl H ?_ ?_
    ·clear H; intro hb17 H
     refine r_seq ?_
     refine r_region ?_
     refine xm (Sl.v data0) rfl rfl rfl rfl ?_
     refine xm (.int .i64 a1) rfl rfl rfl rfl ?_
     refine xm (.int .i64 b2) rfl rfl rfl rfl ?_
     refine xo_eff rfl (wo rfl) (e_call (fn := Try.f221) H rfl rfl Try.func221 rfl rfl rfl) ?_
     intro _ w_12 H
     refine xo_end ?_
     refine r_region ?_
     refine xm (.int .i64 limit3) rfl rfl rfl rfl ?_
     refine xp _ rfl rfl (p_sub rfl rfl rfl) ?_
     refine xs (.int .i64 (IntKind.i64.wrap (limit3 - 1))) rfl rfl rfl rfl ?_
     refine xo_end ?_
     refine ru 0 (Sl.v data0) rfl ?_
     refine ru 1 (.int .i64 a1) rfl ?_
     refine ru 2 (.int .i64 b2) rfl ?_
     refine ru 3 (.int .i64 (IntKind.i64.wrap (limit3 - 1))) rfl ?_
     refine ru 8 (.bool wasBalanced8) rfl ?_
     refine ru 9 (.bool wasPartitioned9) rfl ?_
     refine ru 10 (.int .i64 (IntKind.i64.wrap (b2 - a1))) rfl ?_
     exact J4 (data0, a1, b2, (IntKind.i64.wrap (limit3 - 1)), wasBalanced8, wasPartitioned9, (IntKind.i64.wrap (b2 - a1))) _ _ H
    ·clear H; intro hb17 H
     refine r_skip ?_
     refine ru 0 (Sl.v data0) rfl ?_
     refine ru 1 (.int .i64 a1) rfl ?_
     refine ru 2 (.int .i64 b2) rfl ?_
     refine ru 3 (.int .i64 limit3) rfl ?_
     refine ru 8 (.bool wasBalanced8) rfl ?_
     refine ru 9 (.bool wasPartitioned9) rfl ?_
     refine ru 10 (.int .i64 (IntKind.i64.wrap (b2 - a1))) rfl ?_
     exact J4 (data0, a1, b2, limit3, wasBalanced8, wasPartitioned9, (IntKind.i64.wrap (b2 - a1))) _ _ H

/-! 208 slices.insertionSortOrdered[string] -/
def slices_insertionSortOrdered_string_k2 (R : Value → World → Prop) (ag1 : (Sl × Int × Int × Int) → World → Prop) (ag3 : (Sl × Int × Int × Int × Int) → World → Prop) (data0 : Sl) (a1 : Int) (b2 : Int) (i6 : Int) (j7 : Int) (t30 : Bool) (w : World) : Prop :=
 IfB t30 (
  Ix data0 (IntKind.i64.wrap (j7 - 1)) fun p_1 =>
  Ld Value.string (some (p_1.add ((IntKind.i64.wrap (j7 - 1)).toNat * 1))) (World.drew w) fun v_2 =>
  Ix data0 j7 fun p_3 =>
  Ld Value.string (some (p_3.add (j7.toNat * 1))) (World.drew w) fun v_4 =>
  Ix data0 j7 fun p_5 =>
  St (some (p_5.add (j7.toNat * 1))) (.string v_2) (World.drew w) fun w_2 =>
  Ix data0 (IntKind.i64.wrap (j7 - 1)) fun p_6 =>
  St (some (p_6.add ((IntKind.i64.wrap (j7 - 1)).toNat * 1))) (.string v_4) w_2 fun w_3 =>
  ag3 (data0, a1, b2, i6, (IntKind.i64.wrap (j7 - 1))) w_3) (
  ag1 (data0, a1, b2, (IntKind.i64.wrap (i6 + 1))) w)
def slices_insertionSortOrdered_string_b1 (R : Value → World → Prop) (ag1 : (Sl × Int × Int × Int) → World → Prop) (ag3 : (Sl × Int × Int × Int × Int) → World → Prop) (data0 : Sl) (a1 : Int) (b2 : Int) (i6 : Int) (j7 : Int) (w : World) : Prop :=
 IfB (decide (a1 < j7)) (
  Ix data0 j7 fun p_7 =>
  Ld Value.string (some (p_7.add (j7.toNat * 1))) (World.drew w) fun v_8 =>
  Ix data0 (IntKind.i64.wrap (j7 - 1)) fun p_9 =>
  Ld Value.string (some (p_9.add ((IntKind.i64.wrap (j7 - 1)).toNat * 1))) (World.drew w) fun v_10 =>
  CallF Try.prog 214 #[(.string v_8), (.string v_10)] (World.drew w) fun u_11 w_5 => As Value.bool u_11 fun v_12 =>
  slices_insertionSortOrdered_string_k2 R ag1 ag3 data0 a1 b2 i6 j7 v_12 w_5) (
  slices_insertionSortOrdered_string_k2 R ag1 ag3 data0 a1 b2 i6 j7 false (World.drew w))
def slices_insertionSortOrdered_string_b0 (R : Value → World → Prop) (ag1 : (Sl × Int × Int × Int) → World → Prop) (data0 : Sl) (a1 : Int) (b2 : Int) (i6 : Int) (w : World) : Prop :=
 IfB (decide (i6 < b2)) (
  Lp (fun ag (s : Sl × Int × Int × Int × Int) w => slices_insertionSortOrdered_string_b1 R ag1 ag s.1 s.2.1 s.2.2.1 s.2.2.2.1 s.2.2.2.2 w) (data0, a1, b2, i6, i6) w) (
  R (.tuple #[]) w)
def slices_insertionSortOrdered_string (R : Value → World → Prop) (data0 : Sl) (a1 : Int) (b2 : Int) (w : World) : Prop :=
 Lp (fun ag (s : Sl × Int × Int × Int) w => slices_insertionSortOrdered_string_b0 R ag s.1 s.2.1 s.2.2.1 s.2.2.2 w) (data0, a1, b2, (IntKind.i64.wrap (a1 + 1))) w
theorem slices_insertionSortOrdered_string_ok (R : Value → World → Prop) (data0 : Sl) (a1 : Int) (b2 : Int) (w : World) (H : slices_insertionSortOrdered_string R data0 a1 b2 w) : CallF Try.prog 208 #[(Sl.v data0), (.int .i64 a1), (.int .i64 b2)] w R := by
 refine calls_of_runs (fn := Try.f208) Try.func208 rfl (Nat.le_of_ble_eq_true rfl) ?_
 show Runs _ _ 49 _ _ _ _
 unfold slices_insertionSortOrdered_string at H
 refine ru 0 (Sl.v data0) rfl ?_
 refine ru 1 (.int .i64 a1) rfl ?_
 refine ru 2 (.int .i64 b2) rfl ?_
 refine r_seq ?_
 refine r_region ?_
 refine xm (.int .i64 a1) rfl rfl rfl rfl ?_
 refine xp _ rfl rfl (p_add rfl rfl rfl) ?_
 refine xs (.int .i64 (IntKind.i64.wrap (a1 + 1))) rfl rfl rfl rfl ?_
 refine xo_end ?_
 refine r_block ?_
 refine ru 0 (Sl.v data0) rfl ?_
 refine ru 1 (.int .i64 a1) rfl ?_
 refine ru 2 (.int .i64 b2) rfl ?_
 refine ru 6 (.int .i64 (IntKind.i64.wrap (a1 + 1))) rfl ?_
 refine r_loopJ (fun (s : Sl × Int × Int × Int) σ => upd 6 (.int .i64 s.2.2.2) (upd 2 (.int .i64 s.2.2.1) (upd 1 (.int .i64 s.2.1) (upd 0 (Sl.v s.1) (σ))))) (s := (data0, a1, b2, (IntKind.i64.wrap (a1 + 1)))) H ?_
 clear H
 rintro ag1 ⟨data0, a1, b2, i6⟩ σ w H hag1
 replace H : slices_insertionSortOrdered_string_b0 R ag1 data0 a1 b2 i6 w := H
 show Runs _ _ _ _ _ (upd 6 (.int .i64 i6) (upd 2 (.int .i64 b2) (upd 1 (.int .i64 a1) (upd 0 (Sl.v data0) (σ))))) _
 unfold slices_insertionSortOrdered_string_b0 at H
 refine r_seq ?_
 refine r_seq ?_
 refine r_region ?_
 refine xm (.int .i64 i6) rfl rfl rfl rfl ?_
 refine xm (.int .i64 b2) rfl rfl rfl rfl ?_
 refine xp _ rfl rfl (p_lt rfl rfl rfl) ?_
 refine xo_end ?_
 refine r_condB (b := (decide (i6 < b2))) rfl H ?_ ?_
 ·clear H; intro hb2 H
  refine r_skip ?_
  refine r_seq ?_
  refine r_block ?_
  refine r_seq ?_
  refine r_region ?_
  refine xm (.int .i64 i6) rfl rfl rfl rfl ?_
  refine xs (.int .i64 i6) rfl rfl rfl rfl ?_
  refine xo_end ?_
  refine r_block ?_
  refine ru 0 (Sl.v data0) rfl ?_
  refine ru 1 (.int .i64 a1) rfl ?_
  refine ru 2 (.int .i64 b2) rfl ?_
  refine ru 6 (.int .i64 i6) rfl ?_
  refine ru 7 (.int .i64 i6) rfl ?_
  refine r_loopJ (fun (s : Sl × Int × Int × Int × Int) σ => upd 7 (.int .i64 s.2.2.2.2) (upd 6 (.int .i64 s.2.2.2.1) (upd 2 (.int .i64 s.2.2.1) (upd 1 (.int .i64 s.2.1) (upd 0 (Sl.v s.1) (σ)))))) (s := (data0, a1, b2, i6, i6)) H ?_
  clear H
  rintro ag3 ⟨data0, a1, b2, i6, j7⟩ σ w H hag3
  replace H : slices_insertionSortOrdered_string_b1 R ag1 ag3 data0 a1 b2 i6 j7 w := H
  show Runs _ _ _ _ _ (upd 7 (.int .i64 j7) (upd 6 (.int .i64 i6) (upd 2 (.int .i64 b2) (upd 1 (.int .i64 a1) (upd 0 (Sl.v data0) (σ)))))) _
  unfold slices_insertionSortOrdered_string_b1 at H
  refine r_seq ?_
  refine r_seq ?_
  refine r_topJ (fun (s : Sl × Int × Int × Int × Int × Bool) σ => upd 30 (.bool s.2.2.2.2.2) (upd 7 (.int .i64 s.2.2.2.2.1) (upd 6 (.int .i64 s.2.2.2.1) (upd 2 (.int .i64 s.2.2.1) (upd 1 (.int .i64 s.2.1) (upd 0 (Sl.v s.1) (σ))))))) (fun (s : Sl × Int × Int × Int × Int × Bool) w => slices_insertionSortOrdered_string_k2 R ag1 ag3 s.1 s.2.1 s.2.2.1 s.2.2.2.1 s.2.2.2.2.1 s.2.2.2.2.2 w) ?_ ?_
  ·rintro ⟨data0, a1, b2, i6, j7, t30⟩ σ w H
   replace H : slices_insertionSortOrdered_string_k2 R ag1 ag3 data0 a1 b2 i6 j7 t30 w := H
   show Runs _ _ _ _ _ (upd 30 (.bool t30) (upd 7 (.int .i64 j7) (upd 6 (.int .i64 i6) (upd 2 (.int .i64 b2) (upd 1 (.int .i64 a1) (upd 0 (Sl.v data0) (σ))))))) _
   unfold slices_insertionSortOrdered_string_k2 at H
   refine r_condB (b := t30) rfl H ?_ ?_
   ·clear H; intro hb5 H
    refine r_skip ?_
    refine r_seq ?_
    refine r_block ?_
    refine r_draw #[[], [], [], [], [3], [], [], [6], [5, 6, 7], [5, 6, 7, 8], [], [], [10, 11], [10, 11, 12], [0, 1, 5, 6, 7, 8, 9, 10, 11, 12, 13], [0, 1, 5, 6, 7, 8, 9, 10, 11, 12, 13, 14], [0, 1, 2, 3, 4, 5, 6, 7, 8, 9, 10, 11, 12, 13, 14, 15], [0, 1, 2, 3, 4, 5, 6, 7, 8, 9, 10, 11, 12, 13, 14, 15, 16]] 18 rfl rfl ?_
    refine am 0 (Sl.v data0) rfl rfl rfl rfl rfl ?_
    refine am 1 (.int .i64 j7) rfl rfl rfl rfl rfl ?_
    refine am 2 (Sl.v data0) rfl rfl rfl rfl rfl ?_
    refine am 3 (.int .i64 j7) rfl rfl rfl rfl rfl ?_
    refine ap 4 _ rfl rfl rfl (p_sub rfl rfl rfl) ?_
    refine am 5 (Sl.v data0) rfl rfl rfl rfl rfl ?_
    refine am 6 (.int .i64 j7) rfl rfl rfl rfl rfl ?_
    refine ap 7 _ rfl rfl rfl (p_sub rfl rfl rfl) ?_
    obtain ⟨p_1, hap_1, hlp_1, hup_1, H⟩ := H
    refine ap 8 _ rfl rfl rfl (p_indexAddr (s := data0) (ad := p_1) (size := 1) rfl Try.underlying71 Try.ti9 rfl rfl hap_1 hlp_1 hup_1) ?_
    obtain ⟨adv_2, v_2, hev_2, hcv_2, H⟩ := H
    refine ar 9 (.string v_2) rfl rfl (wo rfl) rfl Try.underlying9 rfl rfl hev_2 hcv_2 ?_
    refine am 10 (Sl.v data0) rfl rfl rfl rfl rfl ?_
    refine am 11 (.int .i64 j7) rfl rfl rfl rfl rfl ?_
    obtain ⟨p_3, hap_3, hlp_3, hup_3, H⟩ := H
    refine ap 12 _ rfl rfl rfl (p_indexAddr (s := data0) (ad := p_3) (size := 1) rfl Try.underlying71 Try.ti9 rfl rfl hap_3 hlp_3 hup_3) ?_
    obtain ⟨adv_4, v_4, hev_4, hcv_4, H⟩ := H
    refine ar 13 (.string v_4) rfl rfl (wo rfl) rfl Try.underlying9 rfl rfl hev_4 hcv_4 ?_
    obtain ⟨p_5, hap_5, hlp_5, hup_5, H⟩ := H
    refine ap 14 _ rfl rfl rfl (p_indexAddr (s := data0) (ad := p_5) (size := 1) rfl Try.underlying71 Try.ti9 rfl rfl hap_5 hlp_5 hup_5) ?_
    refine an 15 rfl rfl rfl (wo rfl) (e_store rfl Try.ti9 rfl rfl rfl H) fun _ w_2 H => ?_
    obtain ⟨p_6, hap_6, hlp_6, hup_6, H⟩ := H
    refine ap 16 _ rfl rfl rfl (p_indexAddr (s := data0) (ad := p_6) (size := 1) rfl Try.underlying71 Try.ti9 rfl rfl hap_6 hlp_6 hup_6) ?_
    refine an 17 rfl rfl rfl (wo rfl) (e_store rfl Try.ti9 rfl rfl rfl H) fun _ w_3 H => ?_
    refine ax ?_
    refine r_inBlock ?_
    refine r_region ?_
    refine xm (.int .i64 j7) rfl rfl rfl rfl ?_
    refine xp _ rfl rfl (p_sub rfl rfl rfl) ?_
    refine xs (.int .i64 (IntKind.i64.wrap (j7 - 1))) rfl rfl rfl rfl ?_
    refine xo_end ?_
    refine ru 0 (Sl.v data0) rfl ?_
    refine ru 1 (.int .i64 a1) rfl ?_
    refine ru 2 (.int .i64 b2) rfl ?_
    refine ru 6 (.int .i64 i6) rfl ?_
    refine ru 7 (.int .i64 (IntKind.i64.wrap (j7 - 1))) rfl ?_
    exact hag3 (data0, a1, b2, i6, (IntKind.i64.wrap (j7 - 1))) _ _ H
   ·clear H; intro hb5 H
    refine r_exit rfl ?_
    refine r_inBlock ?_
    refine r_region ?_
    refine xm (.int .i64 i6) rfl rfl rfl rfl ?_
    refine xp _ rfl rfl (p_add rfl rfl rfl) ?_
    refine xs (.int .i64 (IntKind.i64.wrap (i6 + 1))) rfl rfl rfl rfl ?_
    refine xo_end ?_
    refine ru 0 (Sl.v data0) rfl ?_
    refine ru 1 (.int .i64 a1) rfl ?_
    refine ru 2 (.int .i64 b2) rfl ?_
    refine ru 6 (.int .i64 (IntKind.i64.wrap (i6 + 1))) rfl ?_
    exact hag1 (data0, a1, b2, (IntKind.i64.wrap (i6 + 1))) _ _ H
  ·intro J4
   refine r_draw #[[], [], [0, 1], [0, 1, 2], [0, 1, 2, 3], [0, 1, 2, 3], [0, 1, 2, 3, 4, 5], [0, 1, 2, 3, 4, 5, 6], [0, 1, 2, 3], [0, 1, 2, 3], [0, 1, 2, 3, 9], [0, 1, 2, 3, 8, 9, 10], [0, 1, 2, 3, 8, 9, 10, 11], [0, 1, 2, 3, 4, 5, 6, 7, 8, 9, 10, 11, 12], [0, 1, 2, 3, 4, 5, 6, 7, 8, 9, 10, 11, 12, 13]] 15 rfl rfl ?_
   refine am 0 (.int .i64 j7) rfl rfl rfl rfl rfl ?_
   refine am 1 (.int .i64 a1) rfl rfl rfl rfl rfl ?_
   refine ap 2 _ rfl rfl rfl (p_gt rfl rfl rfl) ?_
   refine am 3 (.bool (decide (a1 < j7))) rfl rfl rfl rfl rfl ?_
   refine ifB_cases H ?_ ?_
   ·clear H; intro hb6 H
    refine xa_pure (v := (Sl.v data0)) 4 (by decide +kernel) rfl rfl (wy 19 rfl rfl rfl hb6) (p_move rfl rfl) ?_
    refine xa_pure (v := (.int .i64 j7)) 5 (by decide +kernel) rfl rfl (wy 19 rfl rfl rfl hb6) (p_move rfl rfl) ?_
    obtain ⟨p_7, hap_7, hlp_7, hup_7, H⟩ := H
    refine xa_pure (v := (.pointer (some (p_7.add (j7.toNat * 1))))) 6 (by decide +kernel) rfl rfl (wy 19 rfl rfl rfl hb6) (p_indexAddr (s := data0) (ad := p_7) (size := 1) rfl Try.underlying71 Try.ti9 rfl rfl hap_7 hlp_7 hup_7) ?_
    obtain ⟨adv_8, v_8, hev_8, hcv_8, H⟩ := H
    refine ar 7 (.string v_8) rfl rfl (wy 19 rfl rfl rfl hb6) rfl Try.underlying9 rfl rfl hev_8 hcv_8 ?_
    refine xa_pure (v := (Sl.v data0)) 8 (by decide +kernel) rfl rfl (wy 19 rfl rfl rfl hb6) (p_move rfl rfl) ?_
    refine xa_pure (v := (.int .i64 j7)) 9 (by decide +kernel) rfl rfl (wy 19 rfl rfl rfl hb6) (p_move rfl rfl) ?_
    refine xa_pure (v := (.int .i64 (IntKind.i64.wrap (j7 - 1)))) 10 (by decide +kernel) rfl rfl (wy 19 rfl rfl rfl hb6) (p_sub rfl rfl rfl) ?_
    obtain ⟨p_9, hap_9, hlp_9, hup_9, H⟩ := H
    refine xa_pure (v := (.pointer (some (p_9.add ((IntKind.i64.wrap (j7 - 1)).toNat * 1))))) 11 (by decide +kernel) rfl rfl (wy 19 rfl rfl rfl hb6) (p_indexAddr (s := data0) (ad := p_9) (size := 1) rfl Try.underlying71 Try.ti9 rfl rfl hap_9 hlp_9 hup_9) ?_
    obtain ⟨adv_10, v_10, hev_10, hcv_10, H⟩ := H
    refine ar 12 (.string v_10) rfl rfl (wy 19 rfl rfl rfl hb6) rfl Try.underlying9 rfl rfl hev_10 hcv_10 ?_
    refine xa_eff 13 [] (by decide +kernel) rfl rfl rfl (wy 19 rfl rfl rfl hb6) (e_call (fn := Try.f214) H rfl rfl Try.func214 rfl rfl rfl) ?_
    rintro _ w_5 ⟨v_12, rfl, H⟩
    refine ⟨AllHeld.nil, ?_⟩
    refine ap 14 (.bool v_12) rfl rfl rfl (p_pickT rfl rfl hb6 rfl) ?_
    refine ax ?_
    refine ru 0 (Sl.v data0) rfl ?_
    refine ru 1 (.int .i64 a1) rfl ?_
    refine ru 2 (.int .i64 b2) rfl ?_
    refine ru 6 (.int .i64 i6) rfl ?_
    refine ru 7 (.int .i64 j7) rfl ?_
    refine ru 30 (.bool v_12) rfl ?_
    exact J4 (data0, a1, b2, i6, j7, v_12) _ _ H
   ·clear H; intro hb6 H
    refine ak 4 rfl rfl (wn 19 rfl rfl rfl hb6) ?_
    refine ak 5 rfl rfl (wn 19 rfl rfl rfl hb6) ?_
    refine ak 6 rfl rfl (wn 19 rfl rfl rfl hb6) ?_
    refine ak 7 rfl rfl (wn 19 rfl rfl rfl hb6) ?_
    refine ak 8 rfl rfl (wn 19 rfl rfl rfl hb6) ?_
    refine ak 9 rfl rfl (wn 19 rfl rfl rfl hb6) ?_
    refine ak 10 rfl rfl (wn 19 rfl rfl rfl hb6) ?_
    refine ak 11 rfl rfl (wn 19 rfl rfl rfl hb6) ?_
    refine ak 12 rfl rfl (wn 19 rfl rfl rfl hb6) ?_
    refine ak 13 rfl rfl (wn 19 rfl rfl rfl hb6) ?_
    refine ap 14 (.bool false) rfl rfl rfl (p_pickF rfl rfl hb6 rfl) ?_
    refine ax ?_
    refine ru 0 (Sl.v data0) rfl ?_
    refine ru 1 (.int .i64 a1) rfl ?_
    refine ru 2 (.int .i64 b2) rfl ?_
    refine ru 6 (.int .i64 i6) rfl ?_
    refine ru 7 (.int .i64 j7) rfl ?_
    refine ru 30 (.bool false) rfl ?_
    exact J4 (data0, a1, b2, i6, j7, false) _ _ H
 ·clear H; intro hb2 H
  refine r_exit rfl ?_
  exact r_end (fn := Try.f208) Try.func208 (res_0 rfl ) H

/-! 209 slices.heapSortOrdered[string] -/
def slices_heapSortOrdered_string_b1 (R : Value → World → Prop) (ag1 : (Sl × Int × Int × Int × Int) → World → Prop) (ag3 : (Sl × Int × Int × Int) → World → Prop) (data0 : Sl) (first6 : Int) (lo7 : Int) (i10 : Int) (w : World) : Prop :=
 IfB (decide (0 ≤ i10)) (
  Ix data0 (IntKind.i64.wrap (first6 + i10)) fun p_2 =>
  Ld Value.string (some (p_2.add ((IntKind.i64.wrap (first6 + i10)).toNat * 1))) (World.drew w) fun v_3 =>
  Ix data0 first6 fun p_4 =>
  Ld Value.string (some (p_4.add (first6.toNat * 1))) (World.drew w) fun v_5 =>
  Ix data0 first6 fun p_6 =>
  St (some (p_6.add (first6.toNat * 1))) (.string v_3) (World.drew w) fun w_3 =>
  Ix data0 (IntKind.i64.wrap (first6 + i10)) fun p_7 =>
  St (some (p_7.add ((IntKind.i64.wrap (first6 + i10)).toNat * 1))) (.string v_5) w_3 fun w_4 =>
  CallF Try.prog 241 #[(Sl.v data0), (.int .i64 lo7), (.int .i64 i10), (.int .i64 first6)] w_4 fun _ w_5 =>
  ag3 (data0, first6, lo7, (IntKind.i64.wrap (i10 - 1))) w_5) (
  R (.tuple #[]) w)
def slices_heapSortOrdered_string_b0 (R : Value → World → Prop) (ag1 : (Sl × Int × Int × Int × Int) → World → Prop) (data0 : Sl) (first6 : Int) (lo7 : Int) (hi8 : Int) (i9 : Int) (w : World) : Prop :=
 IfB (decide (0 ≤ i9)) (
  CallF Try.prog 241 #[(Sl.v data0), (.int .i64 i9), (.int .i64 hi8), (.int .i64 first6)] w fun _ w_1 =>
  ag1 (data0, first6, lo7, hi8, (IntKind.i64.wrap (i9 - 1))) w_1) (
  Lp (fun ag (s : Sl × Int × Int × Int) w => slices_heapSortOrdered_string_b1 R ag1 ag s.1 s.2.1 s.2.2.1 s.2.2.2 w) (data0, first6, lo7, (IntKind.i64.wrap (hi8 - 1))) w)
def slices_heapSortOrdered_string (R : Value → World → Prop) (data0 : Sl) (a1 : Int) (b2 : Int) (w : World) : Prop :=
 Lp (fun ag (s : Sl × Int × Int × Int × Int) w => slices_heapSortOrdered_string_b0 R ag s.1 s.2.1 s.2.2.1 s.2.2.2.1 s.2.2.2.2 w) (data0, a1, 0, (IntKind.i64.wrap (b2 - a1)), (IntKind.i64.wrap (Int.tdiv (IntKind.i64.wrap ((IntKind.i64.wrap (b2 - a1)) - 1)) 2))) w
theorem slices_heapSortOrdered_string_ok (R : Value → World → Prop) (data0 : Sl) (a1 : Int) (b2 : Int) (w : World) (H : slices_heapSortOrdered_string R data0 a1 b2 w) : CallF Try.prog 209 #[(Sl.v data0), (.int .i64 a1), (.int .i64 b2)] w R := by
 refine calls_of_runs (fn := Try.f209) Try.func209 rfl (Nat.le_of_ble_eq_true rfl) ?_
 show Runs _ _ 56 _ _ _ _
 unfold slices_heapSortOrdered_string at H
 refine ru 0 (Sl.v data0) rfl ?_
 refine ru 1 (.int .i64 a1) rfl ?_
 refine ru 2 (.int .i64 b2) rfl ?_
 refine r_seq ?_
 refine r_region ?_
 refine xm (.int .i64 a1) rfl rfl rfl rfl ?_
 refine xs (.int .i64 a1) rfl rfl rfl rfl ?_
 refine xo_end ?_
 refine r_seq ?_
 refine r_region ?_
 refine xs (.int .i64 0) rfl rfl rfl rfl ?_
 refine xo_end ?_
 refine r_seq ?_
 refine r_region ?_
 refine xm (.int .i64 b2) rfl rfl rfl rfl ?_
 refine xm (.int .i64 a1) rfl rfl rfl rfl ?_
 refine xp _ rfl rfl (p_sub rfl rfl rfl) ?_
 refine xs (.int .i64 (IntKind.i64.wrap (b2 - a1))) rfl rfl rfl rfl ?_
 refine xo_end ?_
 refine r_seq ?_
 refine r_seq ?_
 refine r_region ?_
 refine xm (.int .i64 (IntKind.i64.wrap (b2 - a1))) rfl rfl rfl rfl ?_
 refine xp _ rfl rfl (p_sub rfl rfl rfl) ?_
 refine xp (.int .i64 (IntKind.i64.wrap (Int.tdiv (IntKind.i64.wrap ((IntKind.i64.wrap (b2 - a1)) - 1)) 2))) rfl rfl (p_quo rfl rfl rfl (by decide)) ?_
 refine xs (.int .i64 (IntKind.i64.wrap (Int.tdiv (IntKind.i64.wrap ((IntKind.i64.wrap (b2 - a1)) - 1)) 2))) rfl rfl rfl rfl ?_
 refine xo_end ?_
 refine r_block ?_
 refine ru 0 (Sl.v data0) rfl ?_
 refine ru 6 (.int .i64 a1) rfl ?_
 refine ru 7 (.int .i64 0) rfl ?_
 refine ru 8 (.int .i64 (IntKind.i64.wrap (b2 - a1))) rfl ?_
 refine ru 9 (.int .i64 (IntKind.i64.wrap (Int.tdiv (IntKind.i64.wrap ((IntKind.i64.wrap (b2 - a1)) - 1)) 2))) rfl ?_
 refine r_loopJ (fun (s : Sl × Int × Int × Int × Int) σ => upd 9 (.int .i64 s.2.2.2.2) (upd 8 (.int .i64 s.2.2.2.1) (upd 7 (.int .i64 s.2.2.1) (upd 6 (.int .i64 s.2.1) (upd 0 (Sl.v s.1) (σ)))))) (s := (data0, a1, 0, (IntKind.i64.wrap (b2 - a1)), (IntKind.i64.wrap (Int.tdiv (IntKind.i64.wrap ((IntKind.i64.wrap (b2 - a1)) - 1)) 2)))) H ?_
 clear H
 rintro ag1 ⟨data0, first6, lo7, hi8, i9⟩ σ w H hag1
 replace H : slices_heapSortOrdered_string_b0 R ag1 data0 first6 lo7 hi8 i9 w := H
 show Runs _ _ _ _ _ (upd 9 (.int .i64 i9) (upd 8 (.int .i64 hi8) (upd 7 (.int .i64 lo7) (upd 6 (.int .i64 first6) (upd 0 (Sl.v data0) (σ)))))) _
 unfold slices_heapSortOrdered_string_b0 at H
 refine r_seq ?_
 refine r_seq ?_
 refine r_region ?_
 refine xm (.int .i64 i9) rfl rfl rfl rfl ?_
 refine xp _ rfl rfl (p_ge rfl rfl rfl) ?_
 refine xo_end ?_
 refine r_condB (b := (decide (0 ≤ i9))) rfl H ?_ ?_
 ·clear H; intro hb2 H
  refine r_skip ?_
  refine r_seq ?_
  refine r_block ?_
  refine r_region ?_
  refine xm (Sl.v data0) rfl rfl rfl rfl ?_
  refine xm (.int .i64 i9) rfl rfl rfl rfl ?_
  refine xm (.int .i64 hi8) rfl rfl rfl rfl ?_
  refine xm (.int .i64 first6) rfl rfl rfl rfl ?_
  refine xo_eff rfl (wo rfl) (e_call (fn := Try.f241) H rfl rfl Try.func241 rfl rfl rfl) ?_
  intro _ w_1 H
  refine xo_end ?_
  refine r_inBlock ?_
  refine r_region ?_
  refine xm (.int .i64 i9) rfl rfl rfl rfl ?_
  refine xp _ rfl rfl (p_sub rfl rfl rfl) ?_
  refine xs (.int .i64 (IntKind.i64.wrap (i9 - 1))) rfl rfl rfl rfl ?_
  refine xo_end ?_
  refine ru 0 (Sl.v data0) rfl ?_
  refine ru 6 (.int .i64 first6) rfl ?_
  refine ru 7 (.int .i64 lo7) rfl ?_
  refine ru 8 (.int .i64 hi8) rfl ?_
  refine ru 9 (.int .i64 (IntKind.i64.wrap (i9 - 1))) rfl ?_
  exact hag1 (data0, first6, lo7, hi8, (IntKind.i64.wrap (i9 - 1))) _ _ H
 ·clear H; intro hb2 H
  refine r_exit rfl ?_
  refine r_seq ?_
  refine r_region ?_
  refine xm (.int .i64 hi8) rfl rfl rfl rfl ?_
  refine xp _ rfl rfl (p_sub rfl rfl rfl) ?_
  refine xs (.int .i64 (IntKind.i64.wrap (hi8 - 1))) rfl rfl rfl rfl ?_
  refine xo_end ?_
  refine r_block ?_
  refine ru 0 (Sl.v data0) rfl ?_
  refine ru 6 (.int .i64 first6) rfl ?_
  refine ru 7 (.int .i64 lo7) rfl ?_
  refine ru 10 (.int .i64 (IntKind.i64.wrap (hi8 - 1))) rfl ?_
  refine r_loopJ (fun (s : Sl × Int × Int × Int) σ => upd 10 (.int .i64 s.2.2.2) (upd 7 (.int .i64 s.2.2.1) (upd 6 (.int .i64 s.2.1) (upd 0 (Sl.v s.1) (σ))))) (s := (data0, first6, lo7, (IntKind.i64.wrap (hi8 - 1)))) H ?_
  clear H
  rintro ag3 ⟨data0, first6, lo7, i10⟩ σ w H hag3
  replace H : slices_heapSortOrdered_string_b1 R ag1 ag3 data0 first6 lo7 i10 w := H
  show Runs _ _ _ _ _ (upd 10 (.int .i64 i10) (upd 7 (.int .i64 lo7) (upd 6 (.int .i64 first6) (upd 0 (Sl.v data0) (σ))))) _
  unfold slices_heapSortOrdered_string_b1 at H
  refine r_seq ?_
  refine r_seq ?_
  refine r_region ?_
  refine xm (.int .i64 i10) rfl rfl rfl rfl ?_
  refine xp _ rfl rfl (p_ge rfl rfl rfl) ?_
  refine xo_end ?_
  refine r_condB (b := (decide (0 ≤ i10))) rfl H ?_ ?_
  ·clear H; intro hb4 H
   refine r_skip ?_
   refine r_seq ?_
   refine r_block ?_
   refine r_seq ?_
   refine r_draw #[[], [], [], [], [], [3, 4], [], [], [], [7, 8], [6, 7, 8, 9], [6, 7, 8, 9, 10], [], [], [12, 13], [12, 13, 14], [0, 1, 6, 7, 8, 9, 10, 11, 12, 13, 14, 15], [0, 1, 6, 7, 8, 9, 10, 11, 12, 13, 14, 15, 16], [0, 1, 2, 3, 4, 5, 6, 7, 8, 9, 10, 11, 12, 13, 14, 15, 16, 17], [0, 1, 2, 3, 4, 5, 6, 7, 8, 9, 10, 11, 12, 13, 14, 15, 16, 17, 18]] 20 rfl rfl ?_
   refine am 0 (Sl.v data0) rfl rfl rfl rfl rfl ?_
   refine am 1 (.int .i64 first6) rfl rfl rfl rfl rfl ?_
   refine am 2 (Sl.v data0) rfl rfl rfl rfl rfl ?_
   refine am 3 (.int .i64 first6) rfl rfl rfl rfl rfl ?_
   refine am 4 (.int .i64 i10) rfl rfl rfl rfl rfl ?_
   refine ap 5 _ rfl rfl rfl (p_add rfl rfl rfl) ?_
   refine am 6 (Sl.v data0) rfl rfl rfl rfl rfl ?_
   refine am 7 (.int .i64 first6) rfl rfl rfl rfl rfl ?_
   refine am 8 (.int .i64 i10) rfl rfl rfl rfl rfl ?_
   refine ap 9 _ rfl rfl rfl (p_add rfl rfl rfl) ?_
   obtain ⟨p_2, hap_2, hlp_2, hup_2, H⟩ := H
   refine ap 10 _ rfl rfl rfl (p_indexAddr (s := data0) (ad := p_2) (size := 1) rfl Try.underlying71 Try.ti9 rfl rfl hap_2 hlp_2 hup_2) ?_
   obtain ⟨adv_3, v_3, hev_3, hcv_3, H⟩ := H
   refine ar 11 (.string v_3) rfl rfl (wo rfl) rfl Try.underlying9 rfl rfl hev_3 hcv_3 ?_
   refine am 12 (Sl.v data0) rfl rfl rfl rfl rfl ?_
   refine am 13 (.int .i64 first6) rfl rfl rfl rfl rfl ?_
   obtain ⟨p_4, hap_4, hlp_4, hup_4, H⟩ := H
   refine ap 14 _ rfl rfl rfl (p_indexAddr (s := data0) (ad := p_4) (size := 1) rfl Try.underlying71 Try.ti9 rfl rfl hap_4 hlp_4 hup_4) ?_
   obtain ⟨adv_5, v_5, hev_5, hcv_5, H⟩ := H
   refine ar 15 (.string v_5) rfl rfl (wo rfl) rfl Try.underlying9 rfl rfl hev_5 hcv_5 ?_
   obtain ⟨p_6, hap_6, hlp_6, hup_6, H⟩ := H
   refine ap 16 _ rfl rfl rfl (p_indexAddr (s := data0) (ad := p_6) (size := 1) rfl Try.underlying71 Try.ti9 rfl rfl hap_6 hlp_6 hup_6) ?_
   refine an 17 rfl rfl rfl (wo rfl) (e_store rfl Try.ti9 rfl rfl rfl H) fun _ w_3 H => ?_
   obtain ⟨p_7, hap_7, hlp_7, hup_7, H⟩ := H
   refine ap 18 _ rfl rfl rfl (p_indexAddr (s := data0) (ad := p_7) (size := 1) rfl Try.underlying71 Try.ti9 rfl rfl hap_7 hlp_7 hup_7) ?_
   refine an 19 rfl rfl rfl (wo rfl) (e_store rfl Try.ti9 rfl rfl rfl H) fun _ w_4 H => ?_
   refine ax ?_
   refine r_region ?_
   refine xm (Sl.v data0) rfl rfl rfl rfl ?_
   refine xm (.int .i64 lo7) rfl rfl rfl rfl ?_
   refine xm (.int .i64 i10) rfl rfl rfl rfl ?_
   refine xm (.int .i64 first6) rfl rfl rfl rfl ?_
   refine xo_eff rfl (wo rfl) (e_call (fn := Try.f241) H rfl rfl Try.func241 rfl rfl rfl) ?_
   intro _ w_5 H
   refine xo_end ?_
   refine r_inBlock ?_
   refine r_region ?_
   refine xm (.int .i64 i10) rfl rfl rfl rfl ?_
   refine xp _ rfl rfl (p_sub rfl rfl rfl) ?_
   refine xs (.int .i64 (IntKind.i64.wrap (i10 - 1))) rfl rfl rfl rfl ?_
   refine xo_end ?_
   refine ru 0 (Sl.v data0) rfl ?_
   refine ru 6 (.int .i64 first6) rfl ?_
   refine ru 7 (.int .i64 lo7) rfl ?_
   refine ru 10 (.int .i64 (IntKind.i64.wrap (i10 - 1))) rfl ?_
   exact hag3 (data0, first6, lo7, (IntKind.i64.wrap (i10 - 1))) _ _ H
  ·clear H; intro hb4 H
   refine r_exit rfl ?_
   exact r_end (fn := Try.f209) Try.func209 (res_0 rfl ) H

/-! 210 slices.breakPatternsOrdered[string] -/
def slices_breakPatternsOrdered_string_k1 (R : Value → World → Prop) (ag2 : (Sl × Int × Int × Option Addr × Int × Int) → World → Prop) (data0 : Sl) (a1 : Int) (length6 : Int) (random7 : Option Addr) (modulus8 : Int) (idx9 : Int) (other10 : Int) (w : World) : Prop :=
 Ix data0 (IntKind.i64.wrap (a1 + other10)) fun p_6 =>
 Ld Value.string (some (p_6.add ((IntKind.i64.wrap (a1 + other10)).toNat * 1))) (World.drew w) fun v_7 =>
 Ix data0 idx9 fun p_8 =>
 Ld Value.string (some (p_8.add (idx9.toNat * 1))) (World.drew w) fun v_9 =>
 Ix data0 idx9 fun p_10 =>
 St (some (p_10.add (idx9.toNat * 1))) (.string v_7) (World.drew w) fun w_6 =>
 Ix data0 (IntKind.i64.wrap (a1 + other10)) fun p_11 =>
 St (some (p_11.add ((IntKind.i64.wrap (a1 + other10)).toNat * 1))) (.string v_9) w_6 fun w_7 =>
 ag2 (data0, a1, length6, random7, modulus8, (IntKind.i64.wrap (idx9 + 1))) w_7
def slices_breakPatternsOrdered_string_b0 (R : Value → World → Prop) (ag2 : (Sl × Int × Int × Option Addr × Int × Int) → World → Prop) (data0 : Sl) (a1 : Int) (length6 : Int) (random7 : Option Addr) (modulus8 : Int) (idx9 : Int) (w : World) : Prop :=
 IfB (decide (idx9 ≤ (IntKind.i64.wrap ((IntKind.i64.wrap (a1 + (IntKind.i64.wrap ((IntKind.i64.wrap (Int.tdiv length6 4)) * 2)))) + 1)))) (
  CallF Try.prog 243 #[(.pointer random7)] w fun u_4 w_4 => As (Value.int .u64) u_4 fun v_5 =>
  IfB (decide (length6 ≤ (IntKind.i64.wrap (andK .u64 v_5 (IntKind.u64.wrap (modulus8 - 1)))))) (
   slices_breakPatternsOrdered_string_k1 R ag2 data0 a1 length6 random7 modulus8 idx9 (IntKind.i64.wrap ((IntKind.i64.wrap (andK .u64 v_5 (IntKind.u64.wrap (modulus8 - 1)))) - length6)) w_4) (
   slices_breakPatternsOrdered_string_k1 R ag2 data0 a1 length6 random7 modulus8 idx9 (IntKind.i64.wrap (andK .u64 v_5 (IntKind.u64.wrap (modulus8 - 1)))) w_4)) (
  R (.tuple #[]) w)
def slices_breakPatternsOrdered_string (R : Value → World → Prop) (data0 : Sl) (a1 : Int) (b2 : Int) (w : World) : Prop :=
 IfB (decide (8 ≤ (IntKind.i64.wrap (b2 - a1)))) (
  New #[(.int .u64 0)] 336 w fun a_1 w_1 =>
  St (some a_1) (.int .u64 (IntKind.u64.wrap (IntKind.i64.wrap (b2 - a1)))) w_1 fun w_2 =>
  CallF Try.prog 242 #[(.int .i64 (IntKind.i64.wrap (b2 - a1)))] w_2 fun u_2 w_3 => As (Value.int .u64) u_2 fun v_3 =>
  Lp (fun ag (s : Sl × Int × Int × Option Addr × Int × Int) w => slices_breakPatternsOrdered_string_b0 R ag s.1 s.2.1 s.2.2.1 s.2.2.2.1 s.2.2.2.2.1 s.2.2.2.2.2 w) (data0, a1, (IntKind.i64.wrap (b2 - a1)), (some a_1), v_3, (IntKind.i64.wrap ((IntKind.i64.wrap (a1 + (IntKind.i64.wrap ((IntKind.i64.wrap (Int.tdiv (IntKind.i64.wrap (b2 - a1)) 4)) * 2)))) - 1))) w_3) (
  R (.tuple #[]) w)
theorem slices_breakPatternsOrdered_string_ok (R : Value → World → Prop) (data0 : Sl) (a1 : Int) (b2 : Int) (w : World) (H : slices_breakPatternsOrdered_string R data0 a1 b2 w) : CallF Try.prog 210 #[(Sl.v data0), (.int .i64 a1), (.int .i64 b2)] w R := by
 refine calls_of_runs (fn := Try.f210) Try.func210 rfl (Nat.le_of_ble_eq_true rfl) ?_
 show Runs _ _ 65 _ _ _ _
 unfold slices_breakPatternsOrdered_string at H
 refine ru 0 (Sl.v data0) rfl ?_
 refine ru 1 (.int .i64 a1) rfl ?_
 refine ru 2 (.int .i64 b2) rfl ?_
 refine r_seq ?_
 refine r_region ?_
 refine xm (.int .i64 b2) rfl rfl rfl rfl ?_
 refine xm (.int .i64 a1) rfl rfl rfl rfl ?_
 refine xp _ rfl rfl (p_sub rfl rfl rfl) ?_
 refine xs (.int .i64 (IntKind.i64.wrap (b2 - a1))) rfl rfl rfl rfl ?_
 refine xo_end ?_
 refine r_seq ?_
 refine r_region ?_
 refine xm (.int .i64 (IntKind.i64.wrap (b2 - a1))) rfl rfl rfl rfl ?_
 refine xp _ rfl rfl (p_ge rfl rfl rfl) ?_
 refine xo_end ?_
 refine r_condB (b := (decide (8 ≤ (IntKind.i64.wrap (b2 - a1))))) rfl H ?_ ?_
 ·clear H; intro hb1 H
  refine r_seq ?_
  refine r_region ?_
  refine xm (.int .i64 (IntKind.i64.wrap (b2 - a1))) rfl rfl rfl rfl ?_
  refine xp (.int .u64 (IntKind.u64.wrap (IntKind.i64.wrap (b2 - a1)))) rfl rfl (p_conv rfl Try.underlying3 Try.underlying336 rfl) ?_
  refine xo_eff rfl (wo rfl) (e_alloc rfl Try.ti336 H) ?_
  rintro _ w_1 ⟨a_1, rfl, H⟩
  refine xo_effN rfl (wo rfl) (e_store rfl Try.ti336 rfl rfl rfl H) ?_
  intro _ w_2 H
  refine xo_end ?_
  refine r_seq ?_
  refine r_region ?_
  refine xm (.int .i64 (IntKind.i64.wrap (b2 - a1))) rfl rfl rfl rfl ?_
  refine xo_eff rfl (wo rfl) (e_call (fn := Try.f242) H rfl rfl Try.func242 rfl rfl rfl) ?_
  rintro _ w_3 ⟨v_3, rfl, H⟩
  refine xs (.int .u64 v_3) rfl rfl rfl rfl ?_
  refine xo_end ?_
  refine r_seq ?_
  refine r_region ?_
  refine xm (.int .i64 a1) rfl rfl rfl rfl ?_
  refine xm (.int .i64 (IntKind.i64.wrap (b2 - a1))) rfl rfl rfl rfl ?_
  refine xp (.int .i64 (IntKind.i64.wrap (Int.tdiv (IntKind.i64.wrap (b2 - a1)) 4))) rfl rfl (p_quo rfl rfl rfl (by decide)) ?_
  refine xp _ rfl rfl (p_mul rfl rfl rfl) ?_
  refine xp _ rfl rfl (p_add rfl rfl rfl) ?_
  refine xp _ rfl rfl (p_sub rfl rfl rfl) ?_
  refine xs (.int .i64 (IntKind.i64.wrap ((IntKind.i64.wrap (a1 + (IntKind.i64.wrap ((IntKind.i64.wrap (Int.tdiv (IntKind.i64.wrap (b2 - a1)) 4)) * 2)))) - 1))) rfl rfl rfl rfl ?_
  refine xo_end ?_
  refine r_block ?_
  refine ru 0 (Sl.v data0) rfl ?_
  refine ru 1 (.int .i64 a1) rfl ?_
  refine ru 6 (.int .i64 (IntKind.i64.wrap (b2 - a1))) rfl ?_
  refine ru 7 (.pointer (some a_1)) rfl ?_
  refine ru 8 (.int .u64 v_3) rfl ?_
  refine ru 9 (.int .i64 (IntKind.i64.wrap ((IntKind.i64.wrap (a1 + (IntKind.i64.wrap ((IntKind.i64.wrap (Int.tdiv (IntKind.i64.wrap (b2 - a1)) 4)) * 2)))) - 1))) rfl ?_
  refine r_loopJ (fun (s : Sl × Int × Int × Option Addr × Int × Int) σ => upd 9 (.int .i64 s.2.2.2.2.2) (upd 8 (.int .u64 s.2.2.2.2.1) (upd 7 (.pointer s.2.2.2.1) (upd 6 (.int .i64 s.2.2.1) (upd 1 (.int .i64 s.2.1) (upd 0 (Sl.v s.1) (σ))))))) (s := (data0, a1, (IntKind.i64.wrap (b2 - a1)), (some a_1), v_3, (IntKind.i64.wrap ((IntKind.i64.wrap (a1 + (IntKind.i64.wrap ((IntKind.i64.wrap (Int.tdiv (IntKind.i64.wrap (b2 - a1)) 4)) * 2)))) - 1)))) H ?_
  clear H
  rintro ag2 ⟨data0, a1, length6, random7, modulus8, idx9⟩ σ w H hag2
  replace H : slices_breakPatternsOrdered_string_b0 R ag2 data0 a1 length6 random7 modulus8 idx9 w := H
  show Runs _ _ _ _ _ (upd 9 (.int .i64 idx9) (upd 8 (.int .u64 modulus8) (upd 7 (.pointer random7) (upd 6 (.int .i64 length6) (upd 1 (.int .i64 a1) (upd 0 (Sl.v data0) (σ))))))) _
  unfold slices_breakPatternsOrdered_string_b0 at H
  refine r_seq ?_
  refine r_seq ?_
  refine r_region ?_
  refine xm (.int .i64 idx9) rfl rfl rfl rfl ?_
  refine xm (.int .i64 a1) rfl rfl rfl rfl ?_
  refine xm (.int .i64 length6) rfl rfl rfl rfl ?_
  refine xp (.int .i64 (IntKind.i64.wrap (Int.tdiv length6 4))) rfl rfl (p_quo rfl rfl rfl (by decide)) ?_
  refine xp _ rfl rfl (p_mul rfl rfl rfl) ?_
  refine xp _ rfl rfl (p_add rfl rfl rfl) ?_
  refine xp _ rfl rfl (p_add rfl rfl rfl) ?_
  refine xp _ rfl rfl (p_le rfl rfl rfl) ?_
  refine xo_end ?_
  refine r_condB (b := (decide (idx9 ≤ (IntKind.i64.wrap ((IntKind.i64.wrap (a1 + (IntKind.i64.wrap ((IntKind.i64.wrap (Int.tdiv length6 4)) * 2)))) + 1))))) rfl H ?_ ?_
  ·clear H; intro hb3 H
   refine r_skip ?_
   refine r_seq ?_
   refine r_block ?_
   refine r_seq ?_
   refine r_region ?_
   refine xo_eff rfl (wo rfl) (e_call (fn := Try.f243) H rfl rfl Try.func243 rfl rfl rfl) ?_
   rintro _ w_4 ⟨v_5, rfl, H⟩
   refine xm (.int .u64 modulus8) rfl rfl rfl rfl ?_
   refine xp _ rfl rfl (p_sub rfl rfl rfl) ?_
   refine xp (.int .u64 (andK .u64 v_5 (IntKind.u64.wrap (modulus8 - 1)))) rfl rfl (p_and rfl rfl rfl) ?_
   refine xp (.int .i64 (IntKind.i64.wrap (andK .u64 v_5 (IntKind.u64.wrap (modulus8 - 1))))) rfl rfl (p_conv rfl Try.underlying234 Try.underlying3 rfl) ?_
   refine xs (.int .i64 (IntKind.i64.wrap (andK .u64 v_5 (IntKind.u64.wrap (modulus8 - 1))))) rfl rfl rfl rfl ?_
   refine xo_end ?_
   refine r_seqJ (fun (s : Sl × Int × Int × Option Addr × Int × Int × Int) σ => upd 10 (.int .i64 s.2.2.2.2.2.2) (upd 9 (.int .i64 s.2.2.2.2.2.1) (upd 8 (.int .u64 s.2.2.2.2.1) (upd 7 (.pointer s.2.2.2.1) (upd 6 (.int .i64 s.2.2.1) (upd 1 (.int .i64 s.2.1) (upd 0 (Sl.v s.1) (σ)))))))) (fun (s : Sl × Int × Int × Option Addr × Int × Int × Int) w => slices_breakPatternsOrdered_string_k1 R ag2 s.1 s.2.1 s.2.2.1 s.2.2.2.1 s.2.2.2.2.1 s.2.2.2.2.2.1 s.2.2.2.2.2.2 w) ?_ ?_
   ·rintro ⟨data0, a1, length6, random7, modulus8, idx9, other10⟩ σ w H
    replace H : slices_breakPatternsOrdered_string_k1 R ag2 data0 a1 length6 random7 modulus8 idx9 other10 w := H
    show Runs _ _ _ _ _ (upd 10 (.int .i64 other10) (upd 9 (.int .i64 idx9) (upd 8 (.int .u64 modulus8) (upd 7 (.pointer random7) (upd 6 (.int .i64 length6) (upd 1 (.int .i64 a1) (upd 0 (Sl.v data0) (σ)))))))) _
    unfold slices_breakPatternsOrdered_string_k1 at H
    refine r_draw #[[], [], [], [], [], [3, 4], [], [], [], [7, 8], [6, 7, 8, 9], [6, 7, 8, 9, 10], [], [], [12, 13], [12, 13, 14], [0, 1, 6, 7, 8, 9, 10, 11, 12, 13, 14, 15], [0, 1, 6, 7, 8, 9, 10, 11, 12, 13, 14, 15, 16], [0, 1, 2, 3, 4, 5, 6, 7, 8, 9, 10, 11, 12, 13, 14, 15, 16, 17], [0, 1, 2, 3, 4, 5, 6, 7, 8, 9, 10, 11, 12, 13, 14, 15, 16, 17, 18]] 20 rfl rfl ?_
    refine am 0 (Sl.v data0) rfl rfl rfl rfl rfl ?_
    refine am 1 (.int .i64 idx9) rfl rfl rfl rfl rfl ?_
    refine am 2 (Sl.v data0) rfl rfl rfl rfl rfl ?_
    refine am 3 (.int .i64 a1) rfl rfl rfl rfl rfl ?_
    refine am 4 (.int .i64 other10) rfl rfl rfl rfl rfl ?_
    refine ap 5 _ rfl rfl rfl (p_add rfl rfl rfl) ?_
    refine am 6 (Sl.v data0) rfl rfl rfl rfl rfl ?_
    refine am 7 (.int .i64 a1) rfl rfl rfl rfl rfl ?_
    refine am 8 (.int .i64 other10) rfl rfl rfl rfl rfl ?_
    refine ap 9 _ rfl rfl rfl (p_add rfl rfl rfl) ?_
    obtain ⟨p_6, hap_6, hlp_6, hup_6, H⟩ := H
    refine ap 10 _ rfl rfl rfl (p_indexAddr (s := data0) (ad := p_6) (size := 1) rfl Try.underlying71 Try.ti9 rfl rfl hap_6 hlp_6 hup_6) ?_
    obtain ⟨adv_7, v_7, hev_7, hcv_7, H⟩ := H
    refine ar 11 (.string v_7) rfl rfl (wo rfl) rfl Try.underlying9 rfl rfl hev_7 hcv_7 ?_
    refine am 12 (Sl.v data0) rfl rfl rfl rfl rfl ?_
    refine am 13 (.int .i64 idx9) rfl rfl rfl rfl rfl ?_
    obtain ⟨p_8, hap_8, hlp_8, hup_8, H⟩ := H
    refine ap 14 _ rfl rfl rfl (p_indexAddr (s := data0) (ad := p_8) (size := 1) rfl Try.underlying71 Try.ti9 rfl rfl hap_8 hlp_8 hup_8) ?_
    obtain ⟨adv_9, v_9, hev_9, hcv_9, H⟩ := H
    refine ar 15 (.string v_9) rfl rfl (wo rfl) rfl Try.underlying9 rfl rfl hev_9 hcv_9 ?_
    obtain ⟨p_10, hap_10, hlp_10, hup_10, H⟩ := H
    refine ap 16 _ rfl rfl rfl (p_indexAddr (s := data0) (ad := p_10) (size := 1) rfl Try.underlying71 Try.ti9 rfl rfl hap_10 hlp_10 hup_10) ?_
    refine an 17 rfl rfl rfl (wo rfl) (e_store rfl Try.ti9 rfl rfl rfl H) fun _ w_6 H => ?_
    obtain ⟨p_11, hap_11, hlp_11, hup_11, H⟩ := H
    refine ap 18 _ rfl rfl rfl (p_indexAddr (s := data0) (ad := p_11) (size := 1) rfl Try.underlying71 Try.ti9 rfl rfl hap_11 hlp_11 hup_11) ?_
    refine an 19 rfl rfl rfl (wo rfl) (e_store rfl Try.ti9 rfl rfl rfl H) fun _ w_7 H => ?_
    refine ax ?_
    refine r_inBlock ?_
    refine r_region ?_
    refine xm (.int .i64 idx9) rfl rfl rfl rfl ?_
    refine xp _ rfl rfl (p_add rfl rfl rfl) ?_
    refine xs (.int .i64 (IntKind.i64.wrap (idx9 + 1))) rfl rfl rfl rfl ?_
    refine xo_end ?_
    refine ru 0 (Sl.v data0) rfl ?_
    refine ru 1 (.int .i64 a1) rfl ?_
    refine ru 6 (.int .i64 length6) rfl ?_
    refine ru 7 (.pointer random7) rfl ?_
    refine ru 8 (.int .u64 modulus8) rfl ?_
    refine ru 9 (.int .i64 (IntKind.i64.wrap (idx9 + 1))) rfl ?_
    exact hag2 (data0, a1, length6, random7, modulus8, (IntKind.i64.wrap (idx9 + 1))) _ _ H
   ·intro J4
    refine r_seq ?_
    refine r_region ?_
    refine xm (.int .i64 (IntKind.i64.wrap (andK .u64 v_5 (IntKind.u64.wrap (modulus8 - 1))))) rfl rfl rfl rfl ?_
    refine xm (.int .i64 length6) rfl rfl rfl rfl ?_
    refine xp _ rfl rfl (p_ge rfl rfl rfl) ?_
    refine xo_end ?_
    refine r_condB (b := (decide (length6 ≤ (IntKind.i64.wrap (andK .u64 v_5 (IntKind.u64.wrap (modulus8 - 1))))))) rfl H ?_ ?_
    ·clear H; intro hb5 H
     refine r_region ?_
     refine xm (.int .i64 (IntKind.i64.wrap (andK .u64 v_5 (IntKind.u64.wrap (modulus8 - 1))))) rfl rfl rfl rfl ?_
     refine xm (.int .i64 length6) rfl rfl rfl rfl ?_
     refine xp _ rfl rfl (p_sub rfl rfl rfl) ?_
     refine xs (.int .i64 (IntKind.i64.wrap ((IntKind.i64.wrap (andK .u64 v_5 (IntKind.u64.wrap (modulus8 - 1)))) - length6))) rfl rfl rfl rfl ?_
     refine xo_end ?_
     refine ru 0 (Sl.v data0) rfl ?_
     refine ru 1 (.int .i64 a1) rfl ?_
     refine ru 6 (.int .i64 length6) rfl ?_
     refine ru 7 (.pointer random7) rfl ?_
     refine ru 8 (.int .u64 modulus8) rfl ?_
     refine ru 9 (.int .i64 idx9) rfl ?_
     refine ru 10 (.int .i64 (IntKind.i64.wrap ((IntKind.i64.wrap (andK .u64 v_5 (IntKind.u64.wrap (modulus8 - 1)))) - length6))) rfl ?_
     exact J4 (data0, a1, length6, random7, modulus8, idx9, (IntKind.i64.wrap ((IntKind.i64.wrap (andK .u64 v_5 (IntKind.u64.wrap (modulus8 - 1)))) - length6))) _ _ H
    ·clear H; intro hb5 H
     refine r_skip ?_
     refine ru 0 (Sl.v data0) rfl ?_
     refine ru 1 (.int .i64 a1) rfl ?_
     refine ru 6 (.int .i64 length6) rfl ?_
     refine ru 7 (.pointer random7) rfl ?_
     refine ru 8 (.int .u64 modulus8) rfl ?_
     refine ru 9 (.int .i64 idx9) rfl ?_
     refine ru 10 (.int .i64 (IntKind.i64.wrap (andK .u64 v_5 (IntKind.u64.wrap (modulus8 - 1))))) rfl ?_
     exact J4 (data0, a1, length6, random7, modulus8, idx9, (IntKind.i64.wrap (andK .u64 v_5 (IntKind.u64.wrap (modulus8 - 1))))) _ _ H
  ·clear H; intro hb3 H
   refine r_exit rfl ?_
   exact r_end (fn := Try.f210) Try.func210 (res_0 rfl ) H
 ·clear H; intro hb1 H
  refine r_skip ?_
  exact r_end (fn := Try.f210) Try.func210 (res_0 rfl ) H

/-! 211 slices.choosePivotOrdered[string] -/
def slices_choosePivotOrdered_string_k0 (R : Value → World → Prop) (swaps9 : Option Addr) (j11 : Int) (w : World) : Prop :=
 Ld (Value.int .i64) swaps9 w fun v_2 =>
 IfB (decide (v_2 = 0)) (
  R (.tuple #[(.int .i64 j11), (.int .i64 1)]) w) (
  IfB (decide (v_2 = 12)) (
   R (.tuple #[(.int .i64 j11), (.int .i64 2)]) w) (
   R (.tuple #[(.int .i64 j11), (.int .i64 0)]) w))
def slices_choosePivotOrdered_string_k1 (R : Value → World → Prop) (data0 : Sl) (swaps9 : Option Addr) (i10 : Int) (j11 : Int) (k12 : Int) (w : World) : Prop :=
 CallF Try.prog 245 #[(Sl.v data0), (.int .i64 i10), (.int .i64 j11), (.int .i64 k12), (.pointer swaps9)] w fun u_3 w_2 => As (Value.int .i64) u_3 fun v_4 =>
 slices_choosePivotOrdered_string_k0 R swaps9 v_4 w_2
def slices_choosePivotOrdered_string (R : Value → World → Prop) (data0 : Sl) (a1 : Int) (b2 : Int) (w : World) : Prop :=
 New #[(.int .i64 0)] 3 w fun a_1 w_1 =>
 IfB (decide (8 ≤ (IntKind.i64.wrap (b2 - a1)))) (
  IfB (decide (50 ≤ (IntKind.i64.wrap (b2 - a1)))) (
   CallF Try.prog 244 #[(Sl.v data0), (.int .i64 (IntKind.i64.wrap (a1 + (IntKind.i64.wrap ((IntKind.i64.wrap (Int.tdiv (IntKind.i64.wrap (b2 - a1)) 4)) * 1))))), (.pointer (some a_1))] w_1 fun u_5 w_3 => As (Value.int .i64) u_5 fun v_6 =>
   CallF Try.prog 244 #[(Sl.v data0), (.int .i64 (IntKind.i64.wrap (a1 + (IntKind.i64.wrap ((IntKind.i64.wrap (Int.tdiv (IntKind.i64.wrap (b2 - a1)) 4)) * 2))))), (.pointer (some a_1))] w_3 fun u_7 w_4 => As (Value.int .i64) u_7 fun v_8 =>
   CallF Try.prog 244 #[(Sl.v data0), (.int .i64 (IntKind.i64.wrap (a1 + (IntKind.i64.wrap ((IntKind.i64.wrap (Int.tdiv (IntKind.i64.wrap (b2 - a1)) 4)) * 3))))), (.pointer (some a_1))] w_4 fun u_9 w_5 => As (Value.int .i64) u_9 fun v_10 =>
   slices_choosePivotOrdered_string_k1 R data0 (some a_1) v_6 v_8 v_10 w_5) (
   slices_choosePivotOrdered_string_k1 R data0 (some a_1) (IntKind.i64.wrap (a1 + (IntKind.i64.wrap ((IntKind.i64.wrap (Int.tdiv (IntKind.i64.wrap (b2 - a1)) 4)) * 1)))) (IntKind.i64.wrap (a1 + (IntKind.i64.wrap ((IntKind.i64.wrap (Int.tdiv (IntKind.i64.wrap (b2 - a1)) 4)) * 2)))) (IntKind.i64.wrap (a1 + (IntKind.i64.wrap ((IntKind.i64.wrap (Int.tdiv (IntKind.i64.wrap (b2 - a1)) 4)) * 3)))) w_1)) (
  slices_choosePivotOrdered_string_k0 R (some a_1) (IntKind.i64.wrap (a1 + (IntKind.i64.wrap ((IntKind.i64.wrap (Int.tdiv (IntKind.i64.wrap (b2 - a1)) 4)) * 2)))) w_1)
theorem slices_choosePivotOrdered_string_ok (R : Value → World → Prop) (data0 : Sl) (a1 : Int) (b2 : Int) (w : World) (H : slices_choosePivotOrdered_string R data0 a1 b2 w) : CallF Try.prog 211 #[(Sl.v data0), (.int .i64 a1), (.int .i64 b2)] w R := by
 refine calls_of_runs (fn := Try.f211) Try.func211 rfl (Nat.le_of_ble_eq_true rfl) ?_
 show Runs _ _ 57 _ _ _ _
 unfold slices_choosePivotOrdered_string at H
 refine ru 0 (Sl.v data0) rfl ?_
 refine ru 1 (.int .i64 a1) rfl ?_
 refine ru 2 (.int .i64 b2) rfl ?_
 refine r_seq ?_
 refine r_region ?_
 refine xs (.int .i64 0) rfl rfl rfl rfl ?_
 refine xs (.int .i64 0) rfl rfl rfl rfl ?_
 refine xo_end ?_
 refine r_seq ?_
 refine r_region ?_
 refine xm (.int .i64 b2) rfl rfl rfl rfl ?_
 refine xm (.int .i64 a1) rfl rfl rfl rfl ?_
 refine xp _ rfl rfl (p_sub rfl rfl rfl) ?_
 refine xs (.int .i64 (IntKind.i64.wrap (b2 - a1))) rfl rfl rfl rfl ?_
 refine xo_end ?_
 refine r_seq ?_
 refine r_region ?_
 refine xo_eff rfl (wo rfl) (e_alloc rfl Try.ti3 H) ?_
 rintro _ w_1 ⟨a_1, rfl, H⟩
 refine xo_end ?_
 refine r_seq ?_
 refine r_region ?_
 refine xm (.int .i64 a1) rfl rfl rfl rfl ?_
 refine xm (.int .i64 (IntKind.i64.wrap (b2 - a1))) rfl rfl rfl rfl ?_
 refine xp (.int .i64 (IntKind.i64.wrap (Int.tdiv (IntKind.i64.wrap (b2 - a1)) 4))) rfl rfl (p_quo rfl rfl rfl (by decide)) ?_
 refine xp _ rfl rfl (p_mul rfl rfl rfl) ?_
 refine xp _ rfl rfl (p_add rfl rfl rfl) ?_
 refine xs (.int .i64 (IntKind.i64.wrap (a1 + (IntKind.i64.wrap ((IntKind.i64.wrap (Int.tdiv (IntKind.i64.wrap (b2 - a1)) 4)) * 1))))) rfl rfl rfl rfl ?_
 refine xo_end ?_
 refine r_seq ?_
 refine r_region ?_
 refine xm (.int .i64 a1) rfl rfl rfl rfl ?_
 refine xm (.int .i64 (IntKind.i64.wrap (b2 - a1))) rfl rfl rfl rfl ?_
 refine xp (.int .i64 (IntKind.i64.wrap (Int.tdiv (IntKind.i64.wrap (b2 - a1)) 4))) rfl rfl (p_quo rfl rfl rfl (by decide)) ?_
 refine xp _ rfl rfl (p_mul rfl rfl rfl) ?_
 refine xp _ rfl rfl (p_add rfl rfl rfl) ?_
 refine xs (.int .i64 (IntKind.i64.wrap (a1 + (IntKind.i64.wrap ((IntKind.i64.wrap (Int.tdiv (IntKind.i64.wrap (b2 - a1)) 4)) * 2))))) rfl rfl rfl rfl ?_
 refine xo_end ?_
 refine r_seq ?_
 refine r_region ?_
 refine xm (.int .i64 a1) rfl rfl rfl rfl ?_
 refine xm (.int .i64 (IntKind.i64.wrap (b2 - a1))) rfl rfl rfl rfl ?_
 refine xp (.int .i64 (IntKind.i64.wrap (Int.tdiv (IntKind.i64.wrap (b2 - a1)) 4))) rfl rfl (p_quo rfl rfl rfl (by decide)) ?_
 refine xp _ rfl rfl (p_mul rfl rfl rfl) ?_
 refine xp _ rfl rfl (p_add rfl rfl rfl) ?_
 refine xs (.int .i64 (IntKind.i64.wrap (a1 + (IntKind.i64.wrap ((IntKind.i64.wrap (Int.tdiv (IntKind.i64.wrap (b2 - a1)) 4)) * 3))))) rfl rfl rfl rfl ?_
 refine xo_end ?_
 refine r_seqJ (fun (s : Option Addr × Int) σ => upd 11 (.int .i64 s.2) (upd 9 (.pointer s.1) (σ))) (fun (s : Option Addr × Int) w => slices_choosePivotOrdered_string_k0 R s.1 s.2 w) ?_ ?_
 ·rintro ⟨swaps9, j11⟩ σ w H
  replace H : slices_choosePivotOrdered_string_k0 R swaps9 j11 w := H
  show Runs _ _ _ _ _ (upd 11 (.int .i64 j11) (upd 9 (.pointer swaps9) (σ))) _
  unfold slices_choosePivotOrdered_string_k0 at H
  refine r_seq ?_
  refine r_region ?_
  obtain ⟨adv_2, v_2, hev_2, hcv_2, H⟩ := H
  refine xr (.int .i64 v_2) rfl (wo rfl) rfl Try.underlying3 rfl rfl hev_2 hcv_2 ?_
  refine xo_end ?_
  refine r_block ?_
  refine r_seq ?_
  refine r_region ?_
  refine xp _ rfl rfl (p_eq rfl rfl rfl) ?_
  refine xs (.bool (decide (v_2 = 0))) rfl rfl rfl rfl ?_
  refine xo_end ?_
  refine r_condB (b := (decide (v_2 = 0))) rfl H ?_ ?_
  ·clear H; intro hb2 H
   refine r_seq ?_
   refine r_region ?_
   refine xm (.int .i64 j11) rfl rfl rfl rfl ?_
   refine xs (.int .i64 j11) rfl rfl rfl rfl ?_
   refine xs (.int .i64 1) rfl rfl rfl rfl ?_
   refine xo_end ?_
   exact r_ret (fn := Try.f211) Try.func211 (res_2 rfl ⟨by decide, rfl⟩ ⟨by decide, rfl⟩) H
  ·clear H; intro hb2 H
   refine r_seq ?_
   refine r_region ?_
   refine xp _ rfl rfl (p_eq rfl rfl rfl) ?_
   refine xs (.bool (decide (v_2 = 12))) rfl rfl rfl rfl ?_
   refine xo_end ?_
   refine r_condB (b := (decide (v_2 = 12))) rfl H ?_ ?_
   ·clear H; intro hb3 H
    refine r_seq ?_
    refine r_region ?_
    refine xm (.int .i64 j11) rfl rfl rfl rfl ?_
    refine xs (.int .i64 j11) rfl rfl rfl rfl ?_
    refine xs (.int .i64 2) rfl rfl rfl rfl ?_
    refine xo_end ?_
    exact r_ret (fn := Try.f211) Try.func211 (res_2 rfl ⟨by decide, rfl⟩ ⟨by decide, rfl⟩) H
   ·clear H; intro hb3 H
    refine r_seq ?_
    refine r_region ?_
    refine xm (.int .i64 j11) rfl rfl rfl rfl ?_
    refine xs (.int .i64 j11) rfl rfl rfl rfl ?_
    refine xs (.int .i64 0) rfl rfl rfl rfl ?_
    refine xo_end ?_
    exact r_ret (fn := Try.f211) Try.func211 (res_2 rfl ⟨by decide, rfl⟩ ⟨by decide, rfl⟩) H
 ·intro J1
  refine r_seq ?_
  refine r_region ?_
  refine xm (.int .i64 (IntKind.i64.wrap (b2 - a1))) rfl rfl rfl rfl ?_
  refine xp _ rfl rfl (p_ge rfl rfl rfl) ?_
  refine xo_end ?_
  refine r_condB (b := (decide (8 ≤ (IntKind.i64.wrap (b2 - a1))))) rfl H ?_ ?_
  ·clear H; intro hb4 H
   refine r_seqJ (fun (s : Sl × Option Addr × Int × Int × Int) σ => upd 12 (.int .i64 s.2.2.2.2) (upd 11 (.int .i64 s.2.2.2.1) (upd 10 (.int .i64 s.2.2.1) (upd 9 (.pointer s.2.1) (upd 0 (Sl.v s.1) (σ)))))) (fun (s : Sl × Option Addr × Int × Int × Int) w => slices_choosePivotOrdered_string_k1 R s.1 s.2.1 s.2.2.1 s.2.2.2.1 s.2.2.2.2 w) ?_ ?_
   ·rintro ⟨data0, swaps9, i10, j11, k12⟩ σ w H
    replace H : slices_choosePivotOrdered_string_k1 R data0 swaps9 i10 j11 k12 w := H
    show Runs _ _ _ _ _ (upd 12 (.int .i64 k12) (upd 11 (.int .i64 j11) (upd 10 (.int .i64 i10) (upd 9 (.pointer swaps9) (upd 0 (Sl.v data0) (σ)))))) _
    unfold slices_choosePivotOrdered_string_k1 at H
    refine r_region ?_
    refine xm (Sl.v data0) rfl rfl rfl rfl ?_
    refine xm (.int .i64 i10) rfl rfl rfl rfl ?_
    refine xm (.int .i64 j11) rfl rfl rfl rfl ?_
    refine xm (.int .i64 k12) rfl rfl rfl rfl ?_
    refine xo_eff rfl (wo rfl) (e_call (fn := Try.f245) H rfl rfl Try.func245 rfl rfl rfl) ?_
    rintro _ w_2 ⟨v_4, rfl, H⟩
    refine xs (.int .i64 v_4) rfl rfl rfl rfl ?_
    refine xo_end ?_
    refine ru 9 (.pointer swaps9) rfl ?_
    refine ru 11 (.int .i64 v_4) rfl ?_
    exact J1 (swaps9, v_4) _ _ H
   ·intro J5
    refine r_seq ?_
    refine r_region ?_
    refine xm (.int .i64 (IntKind.i64.wrap (b2 - a1))) rfl rfl rfl rfl ?_
    refine xp _ rfl rfl (p_ge rfl rfl rfl) ?_
    refine xo_end ?_
    refine r_condB (b := (decide (50 ≤ (IntKind.i64.wrap (b2 - a1))))) rfl H ?_ ?_
    ·clear H; intro hb6 H
     refine r_seq ?_
     refine r_region ?_
     refine xm (Sl.v data0) rfl rfl rfl rfl ?_
     refine xm (.int .i64 (IntKind.i64.wrap (a1 + (IntKind.i64.wrap ((IntKind.i64.wrap (Int.tdiv (IntKind.i64.wrap (b2 - a1)) 4)) * 1))))) rfl rfl rfl rfl ?_
     refine xo_eff rfl (wo rfl) (e_call (fn := Try.f244) H rfl rfl Try.func244 rfl rfl rfl) ?_
     rintro _ w_3 ⟨v_6, rfl, H⟩
     refine xs (.int .i64 v_6) rfl rfl rfl rfl ?_
     refine xo_end ?_
     refine r_seq ?_
     refine r_region ?_
     refine xm (Sl.v data0) rfl rfl rfl rfl ?_
     refine xm (.int .i64 (IntKind.i64.wrap (a1 + (IntKind.i64.wrap ((IntKind.i64.wrap (Int.tdiv (IntKind.i64.wrap (b2 - a1)) 4)) * 2))))) rfl rfl rfl rfl ?_
     refine xo_eff rfl (wo rfl) (e_call (fn := Try.f244) H rfl rfl Try.func244 rfl rfl rfl) ?_
     rintro _ w_4 ⟨v_8, rfl, H⟩
     refine xs (.int .i64 v_8) rfl rfl rfl rfl ?_
     refine xo_end ?_
     refine r_region ?_
     refine xm (Sl.v data0) rfl rfl rfl rfl ?_
     refine xm (.int .i64 (IntKind.i64.wrap (a1 + (IntKind.i64.wrap ((IntKind.i64.wrap (Int.tdiv (IntKind.i64.wrap (b2 - a1)) 4)) * 3))))) rfl rfl rfl rfl ?_
     refine xo_eff rfl (wo rfl) (e_call (fn := Try.f244) H rfl rfl Try.func244 rfl rfl rfl) ?_
     rintro _ w_5 ⟨v_10, rfl, H⟩
     refine xs (.int .i64 v_10) rfl rfl rfl rfl ?_
     refine xo_end ?_
     refine ru 0 (Sl.v data0) rfl ?_
     refine ru 9 (.pointer (some a_1)) rfl ?_
     refine ru 10 (.int .i64 v_6) rfl ?_
     refine ru 11 (.int .i64 v_8) rfl ?_
     refine ru 12 (.int .i64 v_10) rfl ?_
     exact J5 (data0, (some a_1), v_6, v_8, v_10) _ _ H
    ·clear H; intro hb6 H
     refine r_skip ?_
     refine ru 0 (Sl.v data0) rfl ?_
     refine ru 9 (.pointer (some a_1)) rfl ?_
     refine ru 10 (.int .i64 (IntKind.i64.wrap (a1 + (IntKind.i64.wrap ((IntKind.i64.wrap (Int.tdiv (IntKind.i64.wrap (b2 - a1)) 4)) * 1))))) rfl ?_
     refine ru 11 (.int .i64 (IntKind.i64.wrap (a1 + (IntKind.i64.wrap ((IntKind.i64.wrap (Int.tdiv (IntKind.i64.wrap (b2 - a1)) 4)) * 2))))) rfl ?_
     refine ru 12 (.int .i64 (IntKind.i64.wrap (a1 + (IntKind.i64.wrap ((IntKind.i64.wrap (Int.tdiv (IntKind.i64.wrap (b2 - a1)) 4)) * 3))))) rfl ?_
     exact J5 (data0, (some a_1), (IntKind.i64.wrap (a1 + (IntKind.i64.wrap ((IntKind.i64.wrap (Int.tdiv (IntKind.i64.wrap (b2 - a1)) 4)) * 1)))), (IntKind.i64.wrap (a1 + (IntKind.i64.wrap ((IntKind.i64.wrap (Int.tdiv (IntKind.i64.wrap (b2 - a1)) 4)) * 2)))), (IntKind.i64.wrap (a1 + (IntKind.i64.wrap ((IntKind.i64.wrap (Int.tdiv (IntKind.i64.wrap (b2 - a1)) 4)) * 3))))) _ _ H
  ·clear H; intro hb4 H
   refine r_skip ?_
   refine ru 9 (.pointer (some a_1)) rfl ?_
   refine ru 11 (.int .i64 (IntKind.i64.wrap (a1 + (IntKind.i64.wrap ((IntKind.i64.wrap (Int.tdiv (IntKind.i64.wrap (b2 - a1)) 4)) * 2))))) rfl ?_
   exact J1 ((some a_1), (IntKind.i64.wrap (a1 + (IntKind.i64.wrap ((IntKind.i64.wrap (Int.tdiv (IntKind.i64.wrap (b2 - a1)) 4)) * 2))))) _ _ H

/-! 212 slices.reverseRangeOrdered[string] -/
def slices_reverseRangeOrdered_string_b0 (R : Value → World → Prop) (ag1 : (Sl × Int × Int) → World → Prop) (data0 : Sl) (i6 : Int) (j7 : Int) (w : World) : Prop :=
 IfB (decide (i6 < j7)) (
  Ix data0 j7 fun p_1 =>
  Ld Value.string (some (p_1.add (j7.toNat * 1))) (World.drew w) fun v_2 =>
  Ix data0 i6 fun p_3 =>
  Ld Value.string (some (p_3.add (i6.toNat * 1))) (World.drew w) fun v_4 =>
  Ix data0 i6 fun p_5 =>
  St (some (p_5.add (i6.toNat * 1))) (.string v_2) (World.drew w) fun w_2 =>
  Ix data0 j7 fun p_6 =>
  St (some (p_6.add (j7.toNat * 1))) (.string v_4) w_2 fun w_3 =>
  ag1 (data0, (IntKind.i64.wrap (i6 + 1)), (IntKind.i64.wrap (j7 - 1))) w_3) (
  R (.tuple #[]) w)
def slices_reverseRangeOrdered_string (R : Value → World → Prop) (data0 : Sl) (a1 : Int) (b2 : Int) (w : World) : Prop :=
 Lp (fun ag (s : Sl × Int × Int) w => slices_reverseRangeOrdered_string_b0 R ag s.1 s.2.1 s.2.2 w) (data0, a1, (IntKind.i64.wrap (b2 - 1))) w
theorem slices_reverseRangeOrdered_string_ok (R : Value → World → Prop) (data0 : Sl) (a1 : Int) (b2 : Int) (w : World) (H : slices_reverseRangeOrdered_string R data0 a1 b2 w) : CallF Try.prog 212 #[(Sl.v data0), (.int .i64 a1), (.int .i64 b2)] w R := by
 refine calls_of_runs (fn := Try.f212) Try.func212 rfl (Nat.le_of_ble_eq_true rfl) ?_
 show Runs _ _ 32 _ _ _ _
 unfold slices_reverseRangeOrdered_string at H
 refine ru 0 (Sl.v data0) rfl ?_
 refine ru 1 (.int .i64 a1) rfl ?_
 refine ru 2 (.int .i64 b2) rfl ?_
 refine r_seq ?_
 refine r_region ?_
 refine xm (.int .i64 a1) rfl rfl rfl rfl ?_
 refine xs (.int .i64 a1) rfl rfl rfl rfl ?_
 refine xo_end ?_
 refine r_seq ?_
 refine r_region ?_
 refine xm (.int .i64 b2) rfl rfl rfl rfl ?_
 refine xp _ rfl rfl (p_sub rfl rfl rfl) ?_
 refine xs (.int .i64 (IntKind.i64.wrap (b2 - 1))) rfl rfl rfl rfl ?_
 refine xo_end ?_
 refine r_block ?_
 refine ru 0 (Sl.v data0) rfl ?_
 refine ru 6 (.int .i64 a1) rfl ?_
 refine ru 7 (.int .i64 (IntKind.i64.wrap (b2 - 1))) rfl ?_
 refine r_loopJ (fun (s : Sl × Int × Int) σ => upd 7 (.int .i64 s.2.2) (upd 6 (.int .i64 s.2.1) (upd 0 (Sl.v s.1) (σ)))) (s := (data0, a1, (IntKind.i64.wrap (b2 - 1)))) H ?_
 clear H
 rintro ag1 ⟨data0, i6, j7⟩ σ w H hag1
 replace H : slices_reverseRangeOrdered_string_b0 R ag1 data0 i6 j7 w := H
 show Runs _ _ _ _ _ (upd 7 (.int .i64 j7) (upd 6 (.int .i64 i6) (upd 0 (Sl.v data0) (σ)))) _
 unfold slices_reverseRangeOrdered_string_b0 at H
 refine r_seq ?_
 refine r_seq ?_
 refine r_region ?_
 refine xm (.int .i64 i6) rfl rfl rfl rfl ?_
 refine xm (.int .i64 j7) rfl rfl rfl rfl ?_
 refine xp _ rfl rfl (p_lt rfl rfl rfl) ?_
 refine xo_end ?_
 refine r_condB (b := (decide (i6 < j7))) rfl H ?_ ?_
 ·clear H; intro hb2 H
  refine r_skip ?_
  refine r_block ?_
  refine r_seq ?_
  refine r_draw #[[], [], [], [], [], [], [4, 5], [4, 5, 6], [], [], [8, 9], [8, 9, 10], [0, 1, 4, 5, 6, 7, 8, 9, 10, 11], [0, 1, 4, 5, 6, 7, 8, 9, 10, 11, 12], [0, 1, 2, 3, 4, 5, 6, 7, 8, 9, 10, 11, 12, 13], [0, 1, 2, 3, 4, 5, 6, 7, 8, 9, 10, 11, 12, 13, 14]] 16 rfl rfl ?_
  refine am 0 (Sl.v data0) rfl rfl rfl rfl rfl ?_
  refine am 1 (.int .i64 i6) rfl rfl rfl rfl rfl ?_
  refine am 2 (Sl.v data0) rfl rfl rfl rfl rfl ?_
  refine am 3 (.int .i64 j7) rfl rfl rfl rfl rfl ?_
  refine am 4 (Sl.v data0) rfl rfl rfl rfl rfl ?_
  refine am 5 (.int .i64 j7) rfl rfl rfl rfl rfl ?_
  obtain ⟨p_1, hap_1, hlp_1, hup_1, H⟩ := H
  refine ap 6 _ rfl rfl rfl (p_indexAddr (s := data0) (ad := p_1) (size := 1) rfl Try.underlying71 Try.ti9 rfl rfl hap_1 hlp_1 hup_1) ?_
  obtain ⟨adv_2, v_2, hev_2, hcv_2, H⟩ := H
  refine ar 7 (.string v_2) rfl rfl (wo rfl) rfl Try.underlying9 rfl rfl hev_2 hcv_2 ?_
  refine am 8 (Sl.v data0) rfl rfl rfl rfl rfl ?_
  refine am 9 (.int .i64 i6) rfl rfl rfl rfl rfl ?_
  obtain ⟨p_3, hap_3, hlp_3, hup_3, H⟩ := H
  refine ap 10 _ rfl rfl rfl (p_indexAddr (s := data0) (ad := p_3) (size := 1) rfl Try.underlying71 Try.ti9 rfl rfl hap_3 hlp_3 hup_3) ?_
  obtain ⟨adv_4, v_4, hev_4, hcv_4, H⟩ := H
  refine ar 11 (.string v_4) rfl rfl (wo rfl) rfl Try.underlying9 rfl rfl hev_4 hcv_4 ?_
  obtain ⟨p_5, hap_5, hlp_5, hup_5, H⟩ := H
  refine ap 12 _ rfl rfl rfl (p_indexAddr (s := data0) (ad := p_5) (size := 1) rfl Try.underlying71 Try.ti9 rfl rfl hap_5 hlp_5 hup_5) ?_
  refine an 13 rfl rfl rfl (wo rfl) (e_store rfl Try.ti9 rfl rfl rfl H) fun _ w_2 H => ?_
  obtain ⟨p_6, hap_6, hlp_6, hup_6, H⟩ := H
  refine ap 14 _ rfl rfl rfl (p_indexAddr (s := data0) (ad := p_6) (size := 1) rfl Try.underlying71 Try.ti9 rfl rfl hap_6 hlp_6 hup_6) ?_
  refine an 15 rfl rfl rfl (wo rfl) (e_store rfl Try.ti9 rfl rfl rfl H) fun _ w_3 H => ?_
  refine ax ?_
  refine r_seq ?_
  refine r_region ?_
  refine xm (.int .i64 i6) rfl rfl rfl rfl ?_
  refine xp _ rfl rfl (p_add rfl rfl rfl) ?_
  refine xs (.int .i64 (IntKind.i64.wrap (i6 + 1))) rfl rfl rfl rfl ?_
  refine xo_end ?_
  refine r_region ?_
  refine xm (.int .i64 j7) rfl rfl rfl rfl ?_
  refine xp _ rfl rfl (p_sub rfl rfl rfl) ?_
  refine xs (.int .i64 (IntKind.i64.wrap (j7 - 1))) rfl rfl rfl rfl ?_
  refine xo_end ?_
  refine r_inBlock ?_
  refine ru 0 (Sl.v data0) rfl ?_
  refine ru 6 (.int .i64 (IntKind.i64.wrap (i6 + 1))) rfl ?_
  refine ru 7 (.int .i64 (IntKind.i64.wrap (j7 - 1))) rfl ?_
  exact hag1 (data0, (IntKind.i64.wrap (i6 + 1)), (IntKind.i64.wrap (j7 - 1))) _ _ H
 ·clear H; intro hb2 H
  refine r_exit rfl ?_
  exact r_end (fn := Try.f212) Try.func212 (res_0 rfl ) H

/-! 213 slices.partialInsertionSortOrdered[string] -/
def slices_partialInsertionSortOrdered_string_k1 (R : Value → World → Prop) (ag1 : (Sl × Int × Int × Int × Int) → World → Prop) (data0 : Sl) (a1 : Int) (b2 : Int) (i7 : Int) (j8 : Int) (w : World) : Prop :=
 ag1 (data0, a1, b2, i7, (IntKind.i64.wrap (j8 + 1))) w
def slices_partialInsertionSortOrdered_string_b5 (R : Value → World → Prop) (ag1 : (Sl × Int × Int × Int × Int) → World → Prop) (ag4 : (Sl × Int × Int × Int × Int) → World → Prop) (ag11 : (Sl × Int × Int × Int × Int × Int) → World → Prop) (data0 : Sl) (a1 : Int) (b2 : Int) (i7 : Int) (j8 : Int) (j10 : Int) (w : World) : Prop :=
 IfB (decide (j10 < b2)) (
  Ix data0 j10 fun p_7 =>
  Ld Value.string (some (p_7.add (j10.toNat * 1))) (World.drew w) fun v_8 =>
  Ix data0 (IntKind.i64.wrap (j10 - 1)) fun p_9 =>
  Ld Value.string (some (p_9.add ((IntKind.i64.wrap (j10 - 1)).toNat * 1))) (World.drew w) fun v_10 =>
  CallF Try.prog 214 #[(.string v_8), (.string v_10)] (World.drew w) fun u_11 w_5 => As Value.bool u_11 fun v_12 =>
  IfB (!v_12) (
   slices_partialInsertionSortOrdered_string_k1 R ag1 data0 a1 b2 i7 j8 w_5) (
   Ix data0 (IntKind.i64.wrap (j10 - 1)) fun p_13 =>
   Ld Value.string (some (p_13.add ((IntKind.i64.wrap (j10 - 1)).toNat * 1))) (World.drew w_5) fun v_14 =>
   Ix data0 j10 fun p_15 =>
   Ld Value.string (some (p_15.add (j10.toNat * 1))) (World.drew w_5) fun v_16 =>
   Ix data0 j10 fun p_17 =>
   St (some (p_17.add (j10.toNat * 1))) (.string v_14) (World.drew w_5) fun w_7 =>
   Ix data0 (IntKind.i64.wrap (j10 - 1)) fun p_18 =>
   St (some (p_18.add ((IntKind.i64.wrap (j10 - 1)).toNat * 1))) (.string v_16) w_7 fun w_8 =>
   ag11 (data0, a1, b2, i7, j8, (IntKind.i64.wrap (j10 + 1))) w_8)) (
  slices_partialInsertionSortOrdered_string_k1 R ag1 data0 a1 b2 i7 j8 w)
def slices_partialInsertionSortOrdered_string_k4 (R : Value → World → Prop) (ag1 : (Sl × Int × Int × Int × Int) → World → Prop) (ag4 : (Sl × Int × Int × Int × Int) → World → Prop) (data0 : Sl) (a1 : Int) (b2 : Int) (i7 : Int) (j8 : Int) (w : World) : Prop :=
 IfB (decide (2 ≤ (IntKind.i64.wrap (b2 - i7)))) (
  Lp (fun ag (s : Sl × Int × Int × Int × Int × Int) w => slices_partialInsertionSortOrdered_string_b5 R ag1 ag4 ag s.1 s.2.1 s.2.2.1 s.2.2.2.1 s.2.2.2.2.1 s.2.2.2.2.2 w) (data0, a1, b2, i7, j8, (IntKind.i64.wrap (i7 + 1))) w) (
  slices_partialInsertionSortOrdered_string_k1 R ag1 data0 a1 b2 i7 j8 w)
def slices_partialInsertionSortOrdered_string_b6 (R : Value → World → Prop) (ag1 : (Sl × Int × Int × Int × Int) → World → Prop) (ag4 : (Sl × Int × Int × Int × Int) → World → Prop) (ag15 : (Sl × Int × Int × Int × Int × Int) → World → Prop) (data0 : Sl) (a1 : Int) (b2 : Int) (i7 : Int) (j8 : Int) (j9 : Int) (w : World) : Prop :=
 IfB (decide (1 ≤ j9)) (
  Ix data0 j9 fun p_19 =>
  Ld Value.string (some (p_19.add (j9.toNat * 1))) (World.drew w) fun v_20 =>
  Ix data0 (IntKind.i64.wrap (j9 - 1)) fun p_21 =>
  Ld Value.string (some (p_21.add ((IntKind.i64.wrap (j9 - 1)).toNat * 1))) (World.drew w) fun v_22 =>
  CallF Try.prog 214 #[(.string v_20), (.string v_22)] (World.drew w) fun u_23 w_10 => As Value.bool u_23 fun v_24 =>
  IfB (!v_24) (
   slices_partialInsertionSortOrdered_string_k4 R ag1 ag4 data0 a1 b2 i7 j8 w_10) (
   Ix data0 (IntKind.i64.wrap (j9 - 1)) fun p_25 =>
   Ld Value.string (some (p_25.add ((IntKind.i64.wrap (j9 - 1)).toNat * 1))) (World.drew w_10) fun v_26 =>
   Ix data0 j9 fun p_27 =>
   Ld Value.string (some (p_27.add (j9.toNat * 1))) (World.drew w_10) fun v_28 =>
   Ix data0 j9 fun p_29 =>
   St (some (p_29.add (j9.toNat * 1))) (.string v_26) (World.drew w_10) fun w_12 =>
   Ix data0 (IntKind.i64.wrap (j9 - 1)) fun p_30 =>
   St (some (p_30.add ((IntKind.i64.wrap (j9 - 1)).toNat * 1))) (.string v_28) w_12 fun w_13 =>
   ag15 (data0, a1, b2, i7, j8, (IntKind.i64.wrap (j9 - 1))) w_13)) (
  slices_partialInsertionSortOrdered_string_k4 R ag1 ag4 data0 a1 b2 i7 j8 w)
def slices_partialInsertionSortOrdered_string_k3 (R : Value → World → Prop) (ag1 : (Sl × Int × Int × Int × Int) → World → Prop) (ag4 : (Sl × Int × Int × Int × Int) → World → Prop) (data0 : Sl) (a1 : Int) (b2 : Int) (i7 : Int) (j8 : Int) (t32 : Bool) (w : World) : Prop :=
 IfB t32 (
  ag4 (data0, a1, b2, (IntKind.i64.wrap (i7 + 1)), j8) w) (
  IfB (decide (i7 = b2)) (
   R (.bool true) w) (
   IfB (decide ((IntKind.i64.wrap (b2 - a1)) < 50)) (
    R (.bool false) w) (
    Ix data0 (IntKind.i64.wrap (i7 - 1)) fun p_1 =>
    Ld Value.string (some (p_1.add ((IntKind.i64.wrap (i7 - 1)).toNat * 1))) (World.drew w) fun v_2 =>
    Ix data0 i7 fun p_3 =>
    Ld Value.string (some (p_3.add (i7.toNat * 1))) (World.drew w) fun v_4 =>
    Ix data0 i7 fun p_5 =>
    St (some (p_5.add (i7.toNat * 1))) (.string v_2) (World.drew w) fun w_2 =>
    Ix data0 (IntKind.i64.wrap (i7 - 1)) fun p_6 =>
    St (some (p_6.add ((IntKind.i64.wrap (i7 - 1)).toNat * 1))) (.string v_4) w_2 fun w_3 =>
    IfB (decide (2 ≤ (IntKind.i64.wrap (i7 - a1)))) (
     Lp (fun ag (s : Sl × Int × Int × Int × Int × Int) w => slices_partialInsertionSortOrdered_string_b6 R ag1 ag4 ag s.1 s.2.1 s.2.2.1 s.2.2.2.1 s.2.2.2.2.1 s.2.2.2.2.2 w) (data0, a1, b2, i7, j8, (IntKind.i64.wrap (i7 - 1))) w_3) (
     slices_partialInsertionSortOrdered_string_k4 R ag1 ag4 data0 a1 b2 i7 j8 w_3))))
def slices_partialInsertionSortOrdered_string_b2 (R : Value → World → Prop) (ag1 : (Sl × Int × Int × Int × Int) → World → Prop) (ag4 : (Sl × Int × Int × Int × Int) → World → Prop) (data0 : Sl) (a1 : Int) (b2 : Int) (i7 : Int) (j8 : Int) (w : World) : Prop :=
 IfB (decide (i7 < b2)) (
  Ix data0 i7 fun p_31 =>
  Ld Value.string (some (p_31.add (i7.toNat * 1))) (World.drew w) fun v_32 =>
  Ix data0 (IntKind.i64.wrap (i7 - 1)) fun p_33 =>
  Ld Value.string (some (p_33.add ((IntKind.i64.wrap (i7 - 1)).toNat * 1))) (World.drew w) fun v_34 =>
  CallF Try.prog 214 #[(.string v_32), (.string v_34)] (World.drew w) fun u_35 w_15 => As Value.bool u_35 fun v_36 =>
  slices_partialInsertionSortOrdered_string_k3 R ag1 ag4 data0 a1 b2 i7 j8 (!v_36) w_15) (
  slices_partialInsertionSortOrdered_string_k3 R ag1 ag4 data0 a1 b2 i7 j8 false (World.drew w))
def slices_partialInsertionSortOrdered_string_b0 (R : Value → World → Prop) (ag1 : (Sl × Int × Int × Int × Int) → World → Prop) (data0 : Sl) (a1 : Int) (b2 : Int) (i7 : Int) (j8 : Int) (w : World) : Prop :=
 IfB (decide (j8 < 5)) (
  Lp (fun ag (s : Sl × Int × Int × Int × Int) w => slices_partialInsertionSortOrdered_string_b2 R ag1 ag s.1 s.2.1 s.2.2.1 s.2.2.2.1 s.2.2.2.2 w) (data0, a1, b2, i7, j8) w) (
  R (.bool false) w)
def slices_partialInsertionSortOrdered_string (R : Value → World → Prop) (data0 : Sl) (a1 : Int) (b2 : Int) (w : World) : Prop :=
 Lp (fun ag (s : Sl × Int × Int × Int × Int) w => slices_partialInsertionSortOrdered_string_b0 R ag s.1 s.2.1 s.2.2.1 s.2.2.2.1 s.2.2.2.2 w) (data0, a1, b2, (IntKind.i64.wrap (a1 + 1)), 0) w
theorem slices_partialInsertionSortOrdered_string_ok (R : Value → World → Prop) (data0 : Sl) (a1 : Int) (b2 : Int) (w : World) (H : slices_partialInsertionSortOrdered_string R data0 a1 b2 w) : CallF Try.prog 213 #[(Sl.v data0), (.int .i64 a1), (.int .i64 b2)] w R := by
 refine calls_of_runs (fn := Try.f213) Try.func213 rfl (Nat.le_of_ble_eq_true rfl) ?_
 show Runs _ _ 133 _ _ _ _
 unfold slices_partialInsertionSortOrdered_string at H
 refine ru 0 (Sl.v data0) rfl ?_
 refine ru 1 (.int .i64 a1) rfl ?_
 refine ru 2 (.int .i64 b2) rfl ?_
 refine r_seq ?_
 refine r_region ?_
 refine xs (.bool false) rfl rfl rfl rfl ?_
 refine xo_end ?_
 refine r_seq ?_
 refine r_region ?_
 refine xm (.int .i64 a1) rfl rfl rfl rfl ?_
 refine xp _ rfl rfl (p_add rfl rfl rfl) ?_
 refine xs (.int .i64 (IntKind.i64.wrap (a1 + 1))) rfl rfl rfl rfl ?_
 refine xo_end ?_
 refine r_seq ?_
 refine r_seq ?_
 refine r_region ?_
 refine xs (.int .i64 0) rfl rfl rfl rfl ?_
 refine xo_end ?_
 refine r_block ?_
 refine ru 0 (Sl.v data0) rfl ?_
 refine ru 1 (.int .i64 a1) rfl ?_
 refine ru 2 (.int .i64 b2) rfl ?_
 refine ru 7 (.int .i64 (IntKind.i64.wrap (a1 + 1))) rfl ?_
 refine ru 8 (.int .i64 0) rfl ?_
 refine r_loopJ (fun (s : Sl × Int × Int × Int × Int) σ => upd 8 (.int .i64 s.2.2.2.2) (upd 7 (.int .i64 s.2.2.2.1) (upd 2 (.int .i64 s.2.2.1) (upd 1 (.int .i64 s.2.1) (upd 0 (Sl.v s.1) (σ)))))) (s := (data0, a1, b2, (IntKind.i64.wrap (a1 + 1)), 0)) H ?_
 clear H
 rintro ag1 ⟨data0, a1, b2, i7, j8⟩ σ w H hag1
 replace H : slices_partialInsertionSortOrdered_string_b0 R ag1 data0 a1 b2 i7 j8 w := H
 show Runs _ _ _ _ _ (upd 8 (.int .i64 j8) (upd 7 (.int .i64 i7) (upd 2 (.int .i64 b2) (upd 1 (.int .i64 a1) (upd 0 (Sl.v data0) (σ)))))) _
 unfold slices_partialInsertionSortOrdered_string_b0 at H
 refine r_seq ?_
 refine r_seq ?_
 refine r_region ?_
 refine xm (.int .i64 j8) rfl rfl rfl rfl ?_
 refine xp _ rfl rfl (p_lt rfl rfl rfl) ?_
 refine xo_end ?_
 refine r_condB (b := (decide (j8 < 5))) rfl H ?_ ?_
 ·clear H; intro hb2 H
  refine r_skip ?_
  refine r_seqJ (fun (s : Sl × Int × Int × Int × Int) σ => upd 8 (.int .i64 s.2.2.2.2) (upd 7 (.int .i64 s.2.2.2.1) (upd 2 (.int .i64 s.2.2.1) (upd 1 (.int .i64 s.2.1) (upd 0 (Sl.v s.1) (σ)))))) (fun (s : Sl × Int × Int × Int × Int) w => slices_partialInsertionSortOrdered_string_k1 R ag1 s.1 s.2.1 s.2.2.1 s.2.2.2.1 s.2.2.2.2 w) ?_ ?_
  ·rintro ⟨data0, a1, b2, i7, j8⟩ σ w H
   replace H : slices_partialInsertionSortOrdered_string_k1 R ag1 data0 a1 b2 i7 j8 w := H
   show Runs _ _ _ _ _ (upd 8 (.int .i64 j8) (upd 7 (.int .i64 i7) (upd 2 (.int .i64 b2) (upd 1 (.int .i64 a1) (upd 0 (Sl.v data0) (σ)))))) _
   unfold slices_partialInsertionSortOrdered_string_k1 at H
   refine r_region ?_
   refine xm (.int .i64 j8) rfl rfl rfl rfl ?_
   refine xp _ rfl rfl (p_add rfl rfl rfl) ?_
   refine xs (.int .i64 (IntKind.i64.wrap (j8 + 1))) rfl rfl rfl rfl ?_
   refine xo_end ?_
   refine ru 0 (Sl.v data0) rfl ?_
   refine ru 1 (.int .i64 a1) rfl ?_
   refine ru 2 (.int .i64 b2) rfl ?_
   refine ru 7 (.int .i64 i7) rfl ?_
   refine ru 8 (.int .i64 (IntKind.i64.wrap (j8 + 1))) rfl ?_
   exact hag1 (data0, a1, b2, i7, (IntKind.i64.wrap (j8 + 1))) _ _ H
  ·intro J3
   refine r_block ?_
   refine r_seq ?_
   refine r_block ?_
   refine ru 0 (Sl.v data0) rfl ?_
   refine ru 1 (.int .i64 a1) rfl ?_
   refine ru 2 (.int .i64 b2) rfl ?_
   refine ru 7 (.int .i64 i7) rfl ?_
   refine ru 8 (.int .i64 j8) rfl ?_
   refine r_loopJ (fun (s : Sl × Int × Int × Int × Int) σ => upd 8 (.int .i64 s.2.2.2.2) (upd 7 (.int .i64 s.2.2.2.1) (upd 2 (.int .i64 s.2.2.1) (upd 1 (.int .i64 s.2.1) (upd 0 (Sl.v s.1) (σ)))))) (s := (data0, a1, b2, i7, j8)) H ?_
   clear H
   rintro ag4 ⟨data0, a1, b2, i7, j8⟩ σ w H hag4
   replace H : slices_partialInsertionSortOrdered_string_b2 R ag1 ag4 data0 a1 b2 i7 j8 w := H
   show Runs _ _ _ _ _ (upd 8 (.int .i64 j8) (upd 7 (.int .i64 i7) (upd 2 (.int .i64 b2) (upd 1 (.int .i64 a1) (upd 0 (Sl.v data0) (σ)))))) _
   unfold slices_partialInsertionSortOrdered_string_b2 at H
   refine r_seq ?_
   refine r_seq ?_
   refine r_topJ (fun (s : Sl × Int × Int × Int × Int × Bool) σ => upd 32 (.bool s.2.2.2.2.2) (upd 8 (.int .i64 s.2.2.2.2.1) (upd 7 (.int .i64 s.2.2.2.1) (upd 2 (.int .i64 s.2.2.1) (upd 1 (.int .i64 s.2.1) (upd 0 (Sl.v s.1) (σ))))))) (fun (s : Sl × Int × Int × Int × Int × Bool) w => slices_partialInsertionSortOrdered_string_k3 R ag1 ag4 s.1 s.2.1 s.2.2.1 s.2.2.2.1 s.2.2.2.2.1 s.2.2.2.2.2 w) ?_ ?_
   ·rintro ⟨data0, a1, b2, i7, j8, t32⟩ σ w H
    replace H : slices_partialInsertionSortOrdered_string_k3 R ag1 ag4 data0 a1 b2 i7 j8 t32 w := H
    show Runs _ _ _ _ _ (upd 32 (.bool t32) (upd 8 (.int .i64 j8) (upd 7 (.int .i64 i7) (upd 2 (.int .i64 b2) (upd 1 (.int .i64 a1) (upd 0 (Sl.v data0) (σ))))))) _
    unfold slices_partialInsertionSortOrdered_string_k3 at H
    refine r_condB (b := t32) rfl H ?_ ?_
    ·clear H; intro hb6 H
     refine r_skip ?_
     refine r_block ?_
     refine r_region ?_
     refine xm (.int .i64 i7) rfl rfl rfl rfl ?_
     refine xp _ rfl rfl (p_add rfl rfl rfl) ?_
     refine xs (.int .i64 (IntKind.i64.wrap (i7 + 1))) rfl rfl rfl rfl ?_
     refine xo_end ?_
     refine r_inBlock ?_
     refine ru 0 (Sl.v data0) rfl ?_
     refine ru 1 (.int .i64 a1) rfl ?_
     refine ru 2 (.int .i64 b2) rfl ?_
     refine ru 7 (.int .i64 (IntKind.i64.wrap (i7 + 1))) rfl ?_
     refine ru 8 (.int .i64 j8) rfl ?_
     exact hag4 (data0, a1, b2, (IntKind.i64.wrap (i7 + 1)), j8) _ _ H
    ·clear H; intro hb6 H
     refine r_exit rfl ?_
     refine r_seq ?_
     refine r_seq ?_
     refine r_region ?_
     refine xm (.int .i64 i7) rfl rfl rfl rfl ?_
     refine xm (.int .i64 b2) rfl rfl rfl rfl ?_
     refine xp _ rfl rfl (p_eq rfl rfl rfl) ?_
     refine xo_end ?_
     refine r_condB (b := (decide (i7 = b2))) rfl H ?_ ?_
     ·clear H; intro hb7 H
      refine r_seq ?_
      refine r_region ?_
      refine xs (.bool true) rfl rfl rfl rfl ?_
      refine xo_end ?_
      exact r_ret (fn := Try.f213) Try.func213 (res_1 rfl ⟨by decide, rfl⟩) H
     ·clear H; intro hb7 H
      refine r_skip ?_
      refine r_seq ?_
      refine r_seq ?_
      refine r_region ?_
      refine xm (.int .i64 b2) rfl rfl rfl rfl ?_
      refine xm (.int .i64 a1) rfl rfl rfl rfl ?_
      refine xp _ rfl rfl (p_sub rfl rfl rfl) ?_
      refine xp _ rfl rfl (p_lt rfl rfl rfl) ?_
      refine xo_end ?_
      refine r_condB (b := (decide ((IntKind.i64.wrap (b2 - a1)) < 50))) rfl H ?_ ?_
      ·clear H; intro hb8 H
       refine r_seq ?_
       refine r_region ?_
       refine xs (.bool false) rfl rfl rfl rfl ?_
       refine xo_end ?_
       exact r_ret (fn := Try.f213) Try.func213 (res_1 rfl ⟨by decide, rfl⟩) H
      ·clear H; intro hb8 H
       refine r_skip ?_
       refine r_seq ?_
       refine r_draw #[[], [], [], [], [3], [], [], [6], [5, 6, 7], [5, 6, 7, 8], [], [], [10, 11], [10, 11, 12], [0, 1, 5, 6, 7, 8, 9, 10, 11, 12, 13], [0, 1, 5, 6, 7, 8, 9, 10, 11, 12, 13, 14], [0, 1, 2, 3, 4, 5, 6, 7, 8, 9, 10, 11, 12, 13, 14, 15], [0, 1, 2, 3, 4, 5, 6, 7, 8, 9, 10, 11, 12, 13, 14, 15, 16]] 18 rfl rfl ?_
       refine am 0 (Sl.v data0) rfl rfl rfl rfl rfl ?_
       refine am 1 (.int .i64 i7) rfl rfl rfl rfl rfl ?_
       refine am 2 (Sl.v data0) rfl rfl rfl rfl rfl ?_
       refine am 3 (.int .i64 i7) rfl rfl rfl rfl rfl ?_
       refine ap 4 _ rfl rfl rfl (p_sub rfl rfl rfl) ?_
       refine am 5 (Sl.v data0) rfl rfl rfl rfl rfl ?_
       refine am 6 (.int .i64 i7) rfl rfl rfl rfl rfl ?_
       refine ap 7 _ rfl rfl rfl (p_sub rfl rfl rfl) ?_
       obtain ⟨p_1, hap_1, hlp_1, hup_1, H⟩ := H
       refine ap 8 _ rfl rfl rfl (p_indexAddr (s := data0) (ad := p_1) (size := 1) rfl Try.underlying71 Try.ti9 rfl rfl hap_1 hlp_1 hup_1) ?_
       obtain ⟨adv_2, v_2, hev_2, hcv_2, H⟩ := H
       refine ar 9 (.string v_2) rfl rfl (wo rfl) rfl Try.underlying9 rfl rfl hev_2 hcv_2 ?_
       refine am 10 (Sl.v data0) rfl rfl rfl rfl rfl ?_
       refine am 11 (.int .i64 i7) rfl rfl rfl rfl rfl ?_
       obtain ⟨p_3, hap_3, hlp_3, hup_3, H⟩ := H
       refine ap 12 _ rfl rfl rfl (p_indexAddr (s := data0) (ad := p_3) (size := 1) rfl Try.underlying71 Try.ti9 rfl rfl hap_3 hlp_3 hup_3) ?_
       obtain ⟨adv_4, v_4, hev_4, hcv_4, H⟩ := H
       refine ar 13 (.string v_4) rfl rfl (wo rfl) rfl Try.underlying9 rfl rfl hev_4 hcv_4 ?_
       obtain ⟨p_5, hap_5, hlp_5, hup_5, H⟩ := H
       refine ap 14 _ rfl rfl rfl (p_indexAddr (s := data0) (ad := p_5) (size := 1) rfl Try.underlying71 Try.ti9 rfl rfl hap_5 hlp_5 hup_5) ?_
       refine an 15 rfl rfl rfl (wo rfl) (e_store rfl Try.ti9 rfl rfl rfl H) fun _ w_2 H => ?_
       obtain ⟨p_6, hap_6, hlp_6, hup_6, H⟩ := H
       refine ap 16 _ rfl rfl rfl (p_indexAddr (s := data0) (ad := p_6) (size := 1) rfl Try.underlying71 Try.ti9 rfl rfl hap_6 hlp_6 hup_6) ?_
       refine an 17 rfl rfl rfl (wo rfl) (e_store rfl Try.ti9 rfl rfl rfl H) fun _ w_3 H => ?_
       refine ax ?_
       refine r_seqJ (fun (s : Sl × Int × Int × Int × Int) σ => upd 8 (.int .i64 s.2.2.2.2) (upd 7 (.int .i64 s.2.2.2.1) (upd 2 (.int .i64 s.2.2.1) (upd 1 (.int .i64 s.2.1) (upd 0 (Sl.v s.1) (σ)))))) (fun (s : Sl × Int × Int × Int × Int) w => slices_partialInsertionSortOrdered_string_k4 R ag1 ag4 s.1 s.2.1 s.2.2.1 s.2.2.2.1 s.2.2.2.2 w) ?_ ?_
       ·rintro ⟨data0, a1, b2, i7, j8⟩ σ w H
        replace H : slices_partialInsertionSortOrdered_string_k4 R ag1 ag4 data0 a1 b2 i7 j8 w := H
        show Runs _ _ _ _ _ (upd 8 (.int .i64 j8) (upd 7 (.int .i64 i7) (upd 2 (.int .i64 b2) (upd 1 (.int .i64 a1) (upd 0 (Sl.v data0) (σ)))))) _
        unfold slices_partialInsertionSortOrdered_string_k4 at H
        refine r_seq ?_
        refine r_region ?_
        refine xm (.int .i64 b2) rfl rfl rfl rfl ?_
        refine xm (.int .i64 i7) rfl rfl rfl rfl ?_
        refine xp _ rfl rfl (p_sub rfl rfl rfl) ?_
        refine xp _ rfl rfl (p_ge rfl rfl rfl) ?_
        refine xo_end ?_
        refine r_condB (b := (decide (2 ≤ (IntKind.i64.wrap (b2 - i7))))) rfl H ?_ ?_
        ·clear H; intro hb10 H
         refine r_seq ?_
         refine r_region ?_
         refine xm (.int .i64 i7) rfl rfl rfl rfl ?_
         refine xp _ rfl rfl (p_add rfl rfl rfl) ?_
         refine xs (.int .i64 (IntKind.i64.wrap (i7 + 1))) rfl rfl rfl rfl ?_
         refine xo_end ?_
         refine r_block ?_
         refine ru 0 (Sl.v data0) rfl ?_
         refine ru 1 (.int .i64 a1) rfl ?_
         refine ru 2 (.int .i64 b2) rfl ?_
         refine ru 7 (.int .i64 i7) rfl ?_
         refine ru 8 (.int .i64 j8) rfl ?_
         refine ru 10 (.int .i64 (IntKind.i64.wrap (i7 + 1))) rfl ?_
         refine r_loopJ (fun (s : Sl × Int × Int × Int × Int × Int) σ => upd 10 (.int .i64 s.2.2.2.2.2) (upd 8 (.int .i64 s.2.2.2.2.1) (upd 7 (.int .i64 s.2.2.2.1) (upd 2 (.int .i64 s.2.2.1) (upd 1 (.int .i64 s.2.1) (upd 0 (Sl.v s.1) (σ))))))) (s := (data0, a1, b2, i7, j8, (IntKind.i64.wrap (i7 + 1)))) H ?_
         clear H
         rintro ag11 ⟨data0, a1, b2, i7, j8, j10⟩ σ w H hag11
         replace H : slices_partialInsertionSortOrdered_string_b5 R ag1 ag4 ag11 data0 a1 b2 i7 j8 j10 w := H
         show Runs _ _ _ _ _ (upd 10 (.int .i64 j10) (upd 8 (.int .i64 j8) (upd 7 (.int .i64 i7) (upd 2 (.int .i64 b2) (upd 1 (.int .i64 a1) (upd 0 (Sl.v data0) (σ))))))) _
         unfold slices_partialInsertionSortOrdered_string_b5 at H
         refine r_seq ?_
         refine r_seq ?_
         refine r_region ?_
         refine xm (.int .i64 j10) rfl rfl rfl rfl ?_
         refine xm (.int .i64 b2) rfl rfl rfl rfl ?_
         refine xp _ rfl rfl (p_lt rfl rfl rfl) ?_
         refine xo_end ?_
         refine r_condB (b := (decide (j10 < b2))) rfl H ?_ ?_
         ·clear H; intro hb12 H
          refine r_skip ?_
          refine r_seq ?_
          refine r_block ?_
          refine r_seq ?_
          refine r_seq ?_
          refine r_draw #[[], [], [0, 1], [0, 1, 2], [], [], [5], [4, 5, 6], [4, 5, 6, 7], [0, 1, 2, 3, 4, 5, 6, 7, 8], [0, 1, 2, 3, 4, 5, 6, 7, 8, 9]] 11 rfl rfl ?_
          refine am 0 (Sl.v data0) rfl rfl rfl rfl rfl ?_
          refine am 1 (.int .i64 j10) rfl rfl rfl rfl rfl ?_
          obtain ⟨p_7, hap_7, hlp_7, hup_7, H⟩ := H
          refine ap 2 _ rfl rfl rfl (p_indexAddr (s := data0) (ad := p_7) (size := 1) rfl Try.underlying71 Try.ti9 rfl rfl hap_7 hlp_7 hup_7) ?_
          obtain ⟨adv_8, v_8, hev_8, hcv_8, H⟩ := H
          refine ar 3 (.string v_8) rfl rfl (wo rfl) rfl Try.underlying9 rfl rfl hev_8 hcv_8 ?_
          refine am 4 (Sl.v data0) rfl rfl rfl rfl rfl ?_
          refine am 5 (.int .i64 j10) rfl rfl rfl rfl rfl ?_
          refine ap 6 _ rfl rfl rfl (p_sub rfl rfl rfl) ?_
          obtain ⟨p_9, hap_9, hlp_9, hup_9, H⟩ := H
          refine ap 7 _ rfl rfl rfl (p_indexAddr (s := data0) (ad := p_9) (size := 1) rfl Try.underlying71 Try.ti9 rfl rfl hap_9 hlp_9 hup_9) ?_
          obtain ⟨adv_10, v_10, hev_10, hcv_10, H⟩ := H
          refine ar 8 (.string v_10) rfl rfl (wo rfl) rfl Try.underlying9 rfl rfl hev_10 hcv_10 ?_
          refine xa_eff 9 [] (by decide +kernel) rfl rfl rfl (wo rfl) (e_call (fn := Try.f214) H rfl rfl Try.func214 rfl rfl rfl) ?_
          rintro _ w_5 ⟨v_12, rfl, H⟩
          refine ⟨AllHeld.nil, ?_⟩
          refine ap 10 (.bool (!v_12)) rfl rfl rfl (p_not rfl rfl) ?_
          refine ax ?_
          refine r_condB (b := (!v_12)) rfl H ?_ ?_
          ·clear H; intro hb13 H
           refine r_exit rfl ?_
           refine r_inBlock ?_
           refine ru 0 (Sl.v data0) rfl ?_
           refine ru 1 (.int .i64 a1) rfl ?_
           refine ru 2 (.int .i64 b2) rfl ?_
           refine ru 7 (.int .i64 i7) rfl ?_
           refine ru 8 (.int .i64 j8) rfl ?_
           exact J3 (data0, a1, b2, i7, j8) _ _ H
          ·clear H; intro hb13 H
           refine r_skip ?_
           refine r_draw #[[], [], [], [], [3], [], [], [6], [5, 6, 7], [5, 6, 7, 8], [], [], [10, 11], [10, 11, 12], [0, 1, 5, 6, 7, 8, 9, 10, 11, 12, 13], [0, 1, 5, 6, 7, 8, 9, 10, 11, 12, 13, 14], [0, 1, 2, 3, 4, 5, 6, 7, 8, 9, 10, 11, 12, 13, 14, 15], [0, 1, 2, 3, 4, 5, 6, 7, 8, 9, 10, 11, 12, 13, 14, 15, 16]] 18 rfl rfl ?_
           refine am 0 (Sl.v data0) rfl rfl rfl rfl rfl ?_
           refine am 1 (.int .i64 j10) rfl rfl rfl rfl rfl ?_
           refine am 2 (Sl.v data0) rfl rfl rfl rfl rfl ?_
           refine am 3 (.int .i64 j10) rfl rfl rfl rfl rfl ?_
           refine ap 4 _ rfl rfl rfl (p_sub rfl rfl rfl) ?_
           refine am 5 (Sl.v data0) rfl rfl rfl rfl rfl ?_
           refine am 6 (.int .i64 j10) rfl rfl rfl rfl rfl ?_
           refine ap 7 _ rfl rfl rfl (p_sub rfl rfl rfl) ?_
           obtain ⟨p_13, hap_13, hlp_13, hup_13, H⟩ := H
           refine ap 8 _ rfl rfl rfl (p_indexAddr (s := data0) (ad := p_13) (size := 1) rfl Try.underlying71 Try.ti9 rfl rfl hap_13 hlp_13 hup_13) ?_
           obtain ⟨adv_14, v_14, hev_14, hcv_14, H⟩ := H
           refine ar 9 (.string v_14) rfl rfl (wo rfl) rfl Try.underlying9 rfl rfl hev_14 hcv_14 ?_
           refine am 10 (Sl.v data0) rfl rfl rfl rfl rfl ?_
           refine am 11 (.int .i64 j10) rfl rfl rfl rfl rfl ?_
           obtain ⟨p_15, hap_15, hlp_15, hup_15, H⟩ := H
           refine ap 12 _ rfl rfl rfl (p_indexAddr (s := data0) (ad := p_15) (size := 1) rfl Try.underlying71 Try.ti9 rfl rfl hap_15 hlp_15 hup_15) ?_
           obtain ⟨adv_16, v_16, hev_16, hcv_16, H⟩ := H
           refine ar 13 (.string v_16) rfl rfl (wo rfl) rfl Try.underlying9 rfl rfl hev_16 hcv_16 ?_
           obtain ⟨p_17, hap_17, hlp_17, hup_17, H⟩ := H
           refine ap 14 _ rfl rfl rfl (p_indexAddr (s := data0) (ad := p_17) (size := 1) rfl Try.underlying71 Try.ti9 rfl rfl hap_17 hlp_17 hup_17) ?_
           refine an 15 rfl rfl rfl (wo rfl) (e_store rfl Try.ti9 rfl rfl rfl H) fun _ w_7 H => ?_
           obtain ⟨p_18, hap_18, hlp_18, hup_18, H⟩ := H
           refine ap 16 _ rfl rfl rfl (p_indexAddr (s := data0) (ad := p_18) (size := 1) rfl Try.underlying71 Try.ti9 rfl rfl hap_18 hlp_18 hup_18) ?_
           refine an 17 rfl rfl rfl (wo rfl) (e_store rfl Try.ti9 rfl rfl rfl H) fun _ w_8 H => ?_
           refine ax ?_
           refine r_inBlock ?_
           refine r_region ?_
           refine xm (.int .i64 j10) rfl rfl rfl rfl ?_
           refine xp _ rfl rfl (p_add rfl rfl rfl) ?_
           refine xs (.int .i64 (IntKind.i64.wrap (j10 + 1))) rfl rfl rfl rfl ?_
           refine xo_end ?_
           refine ru 0 (Sl.v data0) rfl ?_
           refine ru 1 (.int .i64 a1) rfl ?_
           refine ru 2 (.int .i64 b2) rfl ?_
           refine ru 7 (.int .i64 i7) rfl ?_
           refine ru 8 (.int .i64 j8) rfl ?_
           refine ru 10 (.int .i64 (IntKind.i64.wrap (j10 + 1))) rfl ?_
           exact hag11 (data0, a1, b2, i7, j8, (IntKind.i64.wrap (j10 + 1))) _ _ H
         ·clear H; intro hb12 H
          refine r_exit rfl ?_
          refine r_inBlock ?_
          refine ru 0 (Sl.v data0) rfl ?_
          refine ru 1 (.int .i64 a1) rfl ?_
          refine ru 2 (.int .i64 b2) rfl ?_
          refine ru 7 (.int .i64 i7) rfl ?_
          refine ru 8 (.int .i64 j8) rfl ?_
          exact J3 (data0, a1, b2, i7, j8) _ _ H
        ·clear H; intro hb10 H
         refine r_skip ?_
         refine r_inBlock ?_
         refine ru 0 (Sl.v data0) rfl ?_
         refine ru 1 (.int .i64 a1) rfl ?_
         refine ru 2 (.int .i64 b2) rfl ?_
         refine ru 7 (.int .i64 i7) rfl ?_
         refine ru 8 (.int .i64 j8) rfl ?_
         exact J3 (data0, a1, b2, i7, j8) _ _ H
       ·intro J9
        refine r_seq ?_
        refine r_region ?_
        refine xm (.int .i64 i7) rfl rfl rfl rfl ?_
        refine xm (.int .i64 a1) rfl rfl rfl rfl ?_
        refine xp _ rfl rfl (p_sub rfl rfl rfl) ?_
        refine xp _ rfl rfl (p_ge rfl rfl rfl) ?_
        refine xo_end ?_
        refine r_condB (b := (decide (2 ≤ (IntKind.i64.wrap (i7 - a1))))) rfl H ?_ ?_
        ·clear H; intro hb14 H
         refine r_seq ?_
         refine r_region ?_
         refine xm (.int .i64 i7) rfl rfl rfl rfl ?_
         refine xp _ rfl rfl (p_sub rfl rfl rfl) ?_
         refine xs (.int .i64 (IntKind.i64.wrap (i7 - 1))) rfl rfl rfl rfl ?_
         refine xo_end ?_
         refine r_block ?_
         refine ru 0 (Sl.v data0) rfl ?_
         refine ru 1 (.int .i64 a1) rfl ?_
         refine ru 2 (.int .i64 b2) rfl ?_
         refine ru 7 (.int .i64 i7) rfl ?_
         refine ru 8 (.int .i64 j8) rfl ?_
         refine ru 9 (.int .i64 (IntKind.i64.wrap (i7 - 1))) rfl ?_
         refine r_loopJ (fun (s : Sl × Int × Int × Int × Int × Int) σ => upd 9 (.int .i64 s.2.2.2.2.2) (upd 8 (.int .i64 s.2.2.2.2.1) (upd 7 (.int .i64 s.2.2.2.1) (upd 2 (.int .i64 s.2.2.1) (upd 1 (.int .i64 s.2.1) (upd 0 (Sl.v s.1) (σ))))))) (s := (data0, a1, b2, i7, j8, (IntKind.i64.wrap (i7 - 1)))) H ?_
         clear H
         rintro ag15 ⟨data0, a1, b2, i7, j8, j9⟩ σ w H hag15
         replace H : slices_partialInsertionSortOrdered_string_b6 R ag1 ag4 ag15 data0 a1 b2 i7 j8 j9 w := H
         show Runs _ _ _ _ _ (upd 9 (.int .i64 j9) (upd 8 (.int .i64 j8) (upd 7 (.int .i64 i7) (upd 2 (.int .i64 b2) (upd 1 (.int .i64 a1) (upd 0 (Sl.v data0) (σ))))))) _
         unfold slices_partialInsertionSortOrdered_string_b6 at H
         refine r_seq ?_
         refine r_seq ?_
         refine r_region ?_
         refine xm (.int .i64 j9) rfl rfl rfl rfl ?_
         refine xp _ rfl rfl (p_ge rfl rfl rfl) ?_
         refine xo_end ?_
         refine r_condB (b := (decide (1 ≤ j9))) rfl H ?_ ?_
         ·clear H; intro hb16 H
          refine r_skip ?_
          refine r_seq ?_
          refine r_block ?_
          refine r_seq ?_
          refine r_seq ?_
          refine r_draw #[[], [], [0, 1], [0, 1, 2], [], [], [5], [4, 5, 6], [4, 5, 6, 7], [0, 1, 2, 3, 4, 5, 6, 7, 8], [0, 1, 2, 3, 4, 5, 6, 7, 8, 9]] 11 rfl rfl ?_
          refine am 0 (Sl.v data0) rfl rfl rfl rfl rfl ?_
          refine am 1 (.int .i64 j9) rfl rfl rfl rfl rfl ?_
          obtain ⟨p_19, hap_19, hlp_19, hup_19, H⟩ := H
          refine ap 2 _ rfl rfl rfl (p_indexAddr (s := data0) (ad := p_19) (size := 1) rfl Try.underlying71 Try.ti9 rfl rfl hap_19 hlp_19 hup_19) ?_
          obtain ⟨adv_20, v_20, hev_20, hcv_20, H⟩ := H
          refine ar 3 (.string v_20) rfl rfl (wo rfl) rfl Try.underlying9 rfl rfl hev_20 hcv_20 ?_
          refine am 4 (Sl.v data0) rfl rfl rfl rfl rfl ?_
          refine am 5 (.int .i64 j9) rfl rfl rfl rfl rfl ?_
          refine ap 6 _ rfl rfl rfl (p_sub rfl rfl rfl) ?_
          obtain ⟨p_21, hap_21, hlp_21, hup_21, H⟩ := H
          refine ap 7 _ rfl rfl rfl (p_indexAddr (s := data0) (ad := p_21) (size := 1) rfl Try.underlying71 Try.ti9 rfl rfl hap_21 hlp_21 hup_21) ?_
          obtain ⟨adv_22, v_22, hev_22, hcv_22, H⟩ := H
          refine ar 8 (.string v_22) rfl rfl (wo rfl) rfl Try.underlying9 rfl rfl hev_22 hcv_22 ?_
          refine xa_eff 9 [] (by decide +kernel) rfl rfl rfl (wo rfl) (e_call (fn := Try.f214) H rfl rfl Try.func214 rfl rfl rfl) ?_
          rintro _ w_10 ⟨v_24, rfl, H⟩
          refine ⟨AllHeld.nil, ?_⟩
          refine ap 10 (.bool (!v_24)) rfl rfl rfl (p_not rfl rfl) ?_
          refine ax ?_
          refine r_condB (b := (!v_24)) rfl H ?_ ?_
          ·clear H; intro hb17 H
           refine r_exit rfl ?_
           refine ru 0 (Sl.v data0) rfl ?_
           refine ru 1 (.int .i64 a1) rfl ?_
           refine ru 2 (.int .i64 b2) rfl ?_
           refine ru 7 (.int .i64 i7) rfl ?_
           refine ru 8 (.int .i64 j8) rfl ?_
           exact J9 (data0, a1, b2, i7, j8) _ _ H
          ·clear H; intro hb17 H
           refine r_skip ?_
           refine r_draw #[[], [], [], [], [3], [], [], [6], [5, 6, 7], [5, 6, 7, 8], [], [], [10, 11], [10, 11, 12], [0, 1, 5, 6, 7, 8, 9, 10, 11, 12, 13], [0, 1, 5, 6, 7, 8, 9, 10, 11, 12, 13, 14], [0, 1, 2, 3, 4, 5, 6, 7, 8, 9, 10, 11, 12, 13, 14, 15], [0, 1, 2, 3, 4, 5, 6, 7, 8, 9, 10, 11, 12, 13, 14, 15, 16]] 18 rfl rfl ?_
           refine am 0 (Sl.v data0) rfl rfl rfl rfl rfl ?_
           refine am 1 (.int .i64 j9) rfl rfl rfl rfl rfl ?_
           refine am 2 (Sl.v data0) rfl rfl rfl rfl rfl ?_
           refine am 3 (.int .i64 j9) rfl rfl rfl rfl rfl ?_
           refine ap 4 _ rfl rfl rfl (p_sub rfl rfl rfl) ?_
           refine am 5 (Sl.v data0) rfl rfl rfl rfl rfl ?_
           refine am 6 (.int .i64 j9) rfl rfl rfl rfl rfl ?_
           refine ap 7 _ rfl rfl rfl (p_sub rfl rfl rfl) ?_
           obtain ⟨p_25, hap_25, hlp_25, hup_25, H⟩ := H
           refine ap 8 _ rfl rfl rfl (p_indexAddr (s := data0) (ad := p_25) (size := 1) rfl Try.underlying71 Try.ti9 rfl rfl hap_25 hlp_25 hup_25) ?_
           obtain ⟨adv_26, v_26, hev_26, hcv_26, H⟩ := H
           refine ar 9 (.string v_26) rfl rfl (wo rfl) rfl Try.underlying9 rfl rfl hev_26 hcv_26 ?_
           refine am 10 (Sl.v data0) rfl rfl rfl rfl rfl ?_
           refine am 11 (.int .i64 j9) rfl rfl rfl rfl rfl ?_
           obtain ⟨p_27, hap_27, hlp_27, hup_27, H⟩ := H
           refine ap 12 _ rfl rfl rfl (p_indexAddr (s := data0) (ad := p_27) (size := 1) rfl Try.underlying71 Try.ti9 rfl rfl hap_27 hlp_27 hup_27) ?_
           obtain ⟨adv_28, v_28, hev_28, hcv_28, H⟩ := H
           refine ar 13 (.string v_28) rfl rfl (wo rfl) rfl Try.underlying9 rfl rfl hev_28 hcv_28 ?_
           obtain ⟨p_29, hap_29, hlp_29, hup_29, H⟩ := H
           refine ap 14 _ rfl rfl rfl (p_indexAddr (s := data0) (ad := p_29) (size := 1) rfl Try.underlying71 Try.ti9 rfl rfl hap_29 hlp_29 hup_29) ?_
           refine an 15 rfl rfl rfl (wo rfl) (e_store rfl Try.ti9 rfl rfl rfl H) fun _ w_12 H => ?_
           obtain ⟨p_30, hap_30, hlp_30, hup_30, H⟩ := H
           refine ap 16 _ rfl rfl rfl (p_indexAddr (s := data0) (ad := p_30) (size := 1) rfl Try.underlying71 Try.ti9 rfl rfl hap_30 hlp_30 hup_30) ?_
           refine an 17 rfl rfl rfl (wo rfl) (e_store rfl Try.ti9 rfl rfl rfl H) fun _ w_13 H => ?_
           refine ax ?_
           refine r_inBlock ?_
           refine r_region ?_
           refine xm (.int .i64 j9) rfl rfl rfl rfl ?_
           refine xp _ rfl rfl (p_sub rfl rfl rfl) ?_
           refine xs (.int .i64 (IntKind.i64.wrap (j9 - 1))) rfl rfl rfl rfl ?_
           refine xo_end ?_
           refine ru 0 (Sl.v data0) rfl ?_
           refine ru 1 (.int .i64 a1) rfl ?_
           refine ru 2 (.int .i64 b2) rfl ?_
           refine ru 7 (.int .i64 i7) rfl ?_
           refine ru 8 (.int .i64 j8) rfl ?_
           refine ru 9 (.int .i64 (IntKind.i64.wrap (j9 - 1))) rfl ?_
           exact hag15 (data0, a1, b2, i7, j8, (IntKind.i64.wrap (j9 - 1))) _ _ H
         ·clear H; intro hb16 H
          refine r_exit rfl ?_
          refine ru 0 (Sl.v data0) rfl ?_
          refine ru 1 (.int .i64 a1) rfl ?_
          refine ru 2 (.int .i64 b2) rfl ?_
          refine ru 7 (.int .i64 i7) rfl ?_
          refine ru 8 (.int .i64 j8) rfl ?_
          exact J9 (data0, a1, b2, i7, j8) _ _ H
        ·clear H; intro hb14 H
         refine r_skip ?_
         refine ru 0 (Sl.v data0) rfl ?_
         refine ru 1 (.int .i64 a1) rfl ?_
         refine ru 2 (.int .i64 b2) rfl ?_
         refine ru 7 (.int .i64 i7) rfl ?_
         refine ru 8 (.int .i64 j8) rfl ?_
         exact J9 (data0, a1, b2, i7, j8) _ _ H
   ·intro J5
    refine r_draw #[[], [], [0, 1], [0, 1, 2], [0, 1, 2, 3], [0, 1, 2, 3], [0, 1, 2, 3, 4, 5], [0, 1, 2, 3, 4, 5, 6], [0, 1, 2, 3], [0, 1, 2, 3], [0, 1, 2, 3, 9], [0, 1, 2, 3, 8, 9, 10], [0, 1, 2, 3, 8, 9, 10, 11], [0, 1, 2, 3, 4, 5, 6, 7, 8, 9, 10, 11, 12], [0, 1, 2, 3, 4, 5, 6, 7, 8, 9, 10, 11, 12, 13], [0, 1, 2, 3, 4, 5, 6, 7, 8, 9, 10, 11, 12, 13, 14]] 16 rfl rfl ?_
    refine am 0 (.int .i64 i7) rfl rfl rfl rfl rfl ?_
    refine am 1 (.int .i64 b2) rfl rfl rfl rfl rfl ?_
    refine ap 2 _ rfl rfl rfl (p_lt rfl rfl rfl) ?_
    refine am 3 (.bool (decide (i7 < b2))) rfl rfl rfl rfl rfl ?_
    refine ifB_cases H ?_ ?_
    ·clear H; intro hb18 H
     refine xa_pure (v := (Sl.v data0)) 4 (by decide +kernel) rfl rfl (wy 20 rfl rfl rfl hb18) (p_move rfl rfl) ?_
     refine xa_pure (v := (.int .i64 i7)) 5 (by decide +kernel) rfl rfl (wy 20 rfl rfl rfl hb18) (p_move rfl rfl) ?_
     obtain ⟨p_31, hap_31, hlp_31, hup_31, H⟩ := H
     refine xa_pure (v := (.pointer (some (p_31.add (i7.toNat * 1))))) 6 (by decide +kernel) rfl rfl (wy 20 rfl rfl rfl hb18) (p_indexAddr (s := data0) (ad := p_31) (size := 1) rfl Try.underlying71 Try.ti9 rfl rfl hap_31 hlp_31 hup_31) ?_
     obtain ⟨adv_32, v_32, hev_32, hcv_32, H⟩ := H
     refine ar 7 (.string v_32) rfl rfl (wy 20 rfl rfl rfl hb18) rfl Try.underlying9 rfl rfl hev_32 hcv_32 ?_
     refine xa_pure (v := (Sl.v data0)) 8 (by decide +kernel) rfl rfl (wy 20 rfl rfl rfl hb18) (p_move rfl rfl) ?_
     refine xa_pure (v := (.int .i64 i7)) 9 (by decide +kernel) rfl rfl (wy 20 rfl rfl rfl hb18) (p_move rfl rfl) ?_
     refine xa_pure (v := (.int .i64 (IntKind.i64.wrap (i7 - 1)))) 10 (by decide +kernel) rfl rfl (wy 20 rfl rfl rfl hb18) (p_sub rfl rfl rfl) ?_
     obtain ⟨p_33, hap_33, hlp_33, hup_33, H⟩ := H
     refine xa_pure (v := (.pointer (some (p_33.add ((IntKind.i64.wrap (i7 - 1)).toNat * 1))))) 11 (by decide +kernel) rfl rfl (wy 20 rfl rfl rfl hb18) (p_indexAddr (s := data0) (ad := p_33) (size := 1) rfl Try.underlying71 Try.ti9 rfl rfl hap_33 hlp_33 hup_33) ?_
     obtain ⟨adv_34, v_34, hev_34, hcv_34, H⟩ := H
     refine ar 12 (.string v_34) rfl rfl (wy 20 rfl rfl rfl hb18) rfl Try.underlying9 rfl rfl hev_34 hcv_34 ?_
     refine xa_eff 13 [] (by decide +kernel) rfl rfl rfl (wy 20 rfl rfl rfl hb18) (e_call (fn := Try.f214) H rfl rfl Try.func214 rfl rfl rfl) ?_
     rintro _ w_15 ⟨v_36, rfl, H⟩
     refine ⟨AllHeld.nil, ?_⟩
     refine xa_pure (v := (.bool (!v_36))) 14 (by decide +kernel) rfl rfl (wy 20 rfl rfl rfl hb18) (p_not rfl rfl) ?_
     refine ap 15 (.bool (!v_36)) rfl rfl rfl (p_pickT rfl rfl hb18 rfl) ?_
     refine ax ?_
     refine ru 0 (Sl.v data0) rfl ?_
     refine ru 1 (.int .i64 a1) rfl ?_
     refine ru 2 (.int .i64 b2) rfl ?_
     refine ru 7 (.int .i64 i7) rfl ?_
     refine ru 8 (.int .i64 j8) rfl ?_
     refine ru 32 (.bool (!v_36)) rfl ?_
     exact J5 (data0, a1, b2, i7, j8, (!v_36)) _ _ H
    ·clear H; intro hb18 H
     refine ak 4 rfl rfl (wn 20 rfl rfl rfl hb18) ?_
     refine ak 5 rfl rfl (wn 20 rfl rfl rfl hb18) ?_
     refine ak 6 rfl rfl (wn 20 rfl rfl rfl hb18) ?_
     refine ak 7 rfl rfl (wn 20 rfl rfl rfl hb18) ?_
     refine ak 8 rfl rfl (wn 20 rfl rfl rfl hb18) ?_
     refine ak 9 rfl rfl (wn 20 rfl rfl rfl hb18) ?_
     refine ak 10 rfl rfl (wn 20 rfl rfl rfl hb18) ?_
     refine ak 11 rfl rfl (wn 20 rfl rfl rfl hb18) ?_
     refine ak 12 rfl rfl (wn 20 rfl rfl rfl hb18) ?_
     refine ak 13 rfl rfl (wn 20 rfl rfl rfl hb18) ?_
     refine ak 14 rfl rfl (wn 20 rfl rfl rfl hb18) ?_
     refine ap 15 (.bool false) rfl rfl rfl (p_pickF rfl rfl hb18 rfl) ?_
     refine ax ?_
     refine ru 0 (Sl.v data0) rfl ?_
     refine ru 1 (.int .i64 a1) rfl ?_
     refine ru 2 (.int .i64 b2) rfl ?_
     refine ru 7 (.int .i64 i7) rfl ?_
     refine ru 8 (.int .i64 j8) rfl ?_
     refine ru 32 (.bool false) rfl ?_
     exact J5 (data0, a1, b2, i7, j8, false) _ _ H
 ·clear H; intro hb2 H
  refine r_exit rfl ?_
  refine r_seq ?_
  refine r_region ?_
  refine xs (.bool false) rfl rfl rfl rfl ?_
  refine xo_end ?_
  exact r_ret (fn := Try.f213) Try.func213 (res_1 rfl ⟨by decide, rfl⟩) H

/-! 214 cmp.Less[string] -/
def cmp_Less_string (R : Value → World → Prop) (x0 : ByteArray) (y1 : ByteArray) (w : World) : Prop :=
 CallF Try.prog 246 #[(.string x0)] w fun u_1 w_1 => As Value.bool u_1 fun v_2 =>
 IfB v_2 (
  CallF Try.prog 246 #[(.string y1)] w_1 fun u_3 w_2 => As Value.bool u_3 fun v_4 =>
  IfB (!v_4) (
   R (.bool true) w_2) (
   R (.bool (slt x0 y1)) w_2)) (
  R (.bool (slt x0 y1)) w_1)
theorem cmp_Less_string_ok (R : Value → World → Prop) (x0 : ByteArray) (y1 : ByteArray) (w : World) (H : cmp_Less_string R x0 y1 w) : CallF Try.prog 214 #[(.string x0), (.string y1)] w R := by
 refine calls_of_runs (fn := Try.f214) Try.func214 rfl (Nat.le_of_ble_eq_true rfl) ?_
 show Runs _ _ 17 _ _ _ _
 unfold cmp_Less_string at H
 refine ru 0 (.string x0) rfl ?_
 refine ru 1 (.string y1) rfl ?_
 refine r_seq ?_
 refine r_region ?_
 refine xs (.bool false) rfl rfl rfl rfl ?_
 refine xo_end ?_
 refine r_seq ?_
 refine r_region ?_
 refine xm (.string x0) rfl rfl rfl rfl ?_
 refine xo_eff rfl (wo rfl) (e_call (fn := Try.f246) H rfl rfl Try.func246 rfl rfl rfl) ?_
 rintro _ w_1 ⟨v_2, rfl, H⟩
 refine xm (.bool v_2) rfl rfl rfl rfl ?_
 refine ifB_cases H ?_ ?_
 ·clear H; intro hb1 H
  refine xo_pure (v := (.string y1)) rfl (wy 7 rfl rfl rfl hb1) (p_move rfl rfl) ?_
  refine xo_eff rfl (wy 7 rfl rfl rfl hb1) (e_call (fn := Try.f246) H rfl rfl Try.func246 rfl rfl rfl) ?_
  rintro _ w_2 ⟨v_4, rfl, H⟩
  refine xo_pure (v := (.bool (!v_4))) rfl (wy 7 rfl rfl rfl hb1) (p_not rfl rfl) ?_
  refine xp (.bool (!v_4)) rfl rfl (p_pickT rfl rfl hb1 rfl) ?_
  refine xm (.bool (!v_4)) rfl rfl rfl rfl ?_
  refine ifB_cases H ?_ ?_
  ·clear H; intro hb2 H
   refine xo_skip rfl (wn 12 rfl rfl rfl hb2) ?_
   refine xo_skip rfl (wn 12 rfl rfl rfl hb2) ?_
   refine xo_skip rfl (wn 12 rfl rfl rfl hb2) ?_
   refine xp (.bool true) rfl rfl (p_pickT rfl rfl hb2 rfl) ?_
   refine xs (.bool true) rfl rfl rfl rfl ?_
   refine xo_end ?_
   exact r_ret (fn := Try.f214) Try.func214 (res_1 rfl ⟨by decide, rfl⟩) H
  ·clear H; intro hb2 H
   refine xo_pure (v := (.string x0)) rfl (wy 12 rfl rfl rfl hb2) (p_move rfl rfl) ?_
   refine xo_pure (v := (.string y1)) rfl (wy 12 rfl rfl rfl hb2) (p_move rfl rfl) ?_
   refine xo_pure (v := (.bool (slt x0 y1))) rfl (wy 12 rfl rfl rfl hb2) (p_slt rfl rfl rfl) ?_
   refine xp (.bool (slt x0 y1)) rfl rfl (p_pickF rfl rfl hb2 rfl) ?_
   refine xs (.bool (slt x0 y1)) rfl rfl rfl rfl ?_
   refine xo_end ?_
   exact r_ret (fn := Try.f214) Try.func214 (res_1 rfl ⟨by decide, rfl⟩) H
 ·clear H; intro hb1 H
  refine xo_skip rfl (wn 7 rfl rfl rfl hb1) ?_
  refine xo_skip rfl (wn 7 rfl rfl rfl hb1) ?_
  refine xo_skip rfl (wn 7 rfl rfl rfl hb1) ?_
  refine xp (.bool false) rfl rfl (p_pickF rfl rfl hb1 rfl) ?_
  refine xm (.bool false) rfl rfl rfl rfl ?_
  refine xo_pure (v := (.string x0)) rfl (wy 12 rfl rfl rfl rfl) (p_move rfl rfl) ?_
  refine xo_pure (v := (.string y1)) rfl (wy 12 rfl rfl rfl rfl) (p_move rfl rfl) ?_
  refine xo_pure (v := (.bool (slt x0 y1))) rfl (wy 12 rfl rfl rfl rfl) (p_slt rfl rfl rfl) ?_
  refine xp (.bool (slt x0 y1)) rfl rfl (p_pickF rfl rfl rfl rfl) ?_
  refine xs (.bool (slt x0 y1)) rfl rfl rfl rfl ?_
  refine xo_end ?_
  exact r_ret (fn := Try.f214) Try.func214 (res_1 rfl ⟨by decide, rfl⟩) H
end Go.Proofs
