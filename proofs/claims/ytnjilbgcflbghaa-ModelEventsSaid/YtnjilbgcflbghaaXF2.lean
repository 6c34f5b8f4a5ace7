/- Laid by program. -/
import Derived.Test.YtnjilbgcflbghaaXFT
set_option linter.all false
set_option linter.unusedVariables false
set_option linter.unusedSimpArgs false
set_option maxRecDepth 20000
set_option maxHeartbeats 4000000
namespace Go.Proofs
open Go Go.X
/-! 21 sporran/sporranref01.Same -/
def sporranref01_Same_b0 (R : Value → World → Prop) (ag2 : (Sl × Sl × Int) → World → Prop) (a0 : Sl) (b1 : Sl) (i5 : Int) (w : World) : Prop :=
  IfB (decide (i5 < (a0.len : Int))) (
    Ix a0 i5 fun p_1 =>
    Ld (Value.int .u8) (some (p_1.add (i5.toNat * 1))) (World.drew w) fun v_2 =>
    Ix b1 i5 fun p_3 =>
    Ld (Value.int .u8) (some (p_3.add (i5.toNat * 1))) (World.drew w) fun v_4 =>
    IfB (!decide (v_2 = v_4)) (
      R (.bool false) (World.drew w)) (
      ag2 (a0, b1, (IntKind.i64.wrap (i5 + 1))) (World.drew w))) (
    R (.bool true) w)

def sporranref01_Same (R : Value → World → Prop) (a0 : Sl) (b1 : Sl) (w : World) : Prop :=
  IfB (!decide ((a0.len : Int) = (b1.len : Int))) (
    R (.bool false) w) (
    Lp (fun ag (s : Sl × Sl × Int) w => sporranref01_Same_b0 R ag s.1 s.2.1 s.2.2 w) (a0, b1, 0) w)

theorem sporranref01_Same_ok (R : Value → World → Prop) (a0 : Sl) (b1 : Sl) (w : World) (H : sporranref01_Same R a0 b1 w) : CallF Try.prog 21 #[(Sl.v a0), (Sl.v b1)] w R := by
  refine calls_of_runs (fn := Try.f21) Try.func21 rfl (Nat.le_of_ble_eq_true rfl) ?_
  show Runs _ _ 26 _ _ _ _
  unfold sporranref01_Same at H
  refine r_upd (i := 0) (v := (Sl.v a0)) rfl ?_
  refine r_upd (i := 1) (v := (Sl.v b1)) rfl ?_
  refine r_seq ?_
  refine r_region ?_
  refine xo_pure (v := (.bool false)) rfl (wanted_none rfl _) (p_assign rfl rfl) ?_
  refine xo_end ?_
  refine r_seq ?_
  refine r_seq ?_
  refine r_region ?_
  refine xo_pure (v := (Sl.v a0)) rfl (wanted_none rfl _) (p_move rfl rfl) ?_
  refine xo_pure (v := (.int .i64 (a0.len : Int))) rfl (wanted_none rfl _) (p_len rfl Try.underlying39 rfl) ?_
  refine xo_pure (v := (Sl.v b1)) rfl (wanted_none rfl _) (p_move rfl rfl) ?_
  refine xo_pure (v := (.int .i64 (b1.len : Int))) rfl (wanted_none rfl _) (p_len rfl Try.underlying39 rfl) ?_
  refine xo_pure (v := (.bool (!decide ((a0.len : Int) = (b1.len : Int))))) rfl (wanted_none rfl _) (p_ne rfl rfl rfl) ?_
  refine xo_end ?_
  refine r_condB (b := (!decide ((a0.len : Int) = (b1.len : Int)))) rfl H ?_ ?_
  · clear H; intro hb1 H
    refine r_seq ?_
    refine r_region ?_
    refine xo_pure (v := (.bool false)) rfl (wanted_none rfl _) (p_assign rfl rfl) ?_
    refine xo_end ?_
    exact r_ret (fn := Try.f21) Try.func21 (res_1 rfl ⟨by decide, rfl⟩) H
  · clear H; intro hb1 H
    refine r_skip ?_
    refine r_seq ?_
    refine r_seq ?_
    refine r_region ?_
    refine xo_pure (v := (.int .i64 0)) rfl (wanted_none rfl _) (p_assign rfl rfl) ?_
    refine xo_end ?_
    refine r_block ?_
    refine r_upd (i := 0) (v := (Sl.v a0)) rfl ?_
    refine r_upd (i := 1) (v := (Sl.v b1)) rfl ?_
    refine r_upd (i := 5) (v := (.int .i64 0)) rfl ?_
    refine r_loopJ (fun (s : Sl × Sl × Int) σ => upd 5 (.int .i64 s.2.2) (upd 1 (Sl.v s.2.1) (upd 0 (Sl.v s.1) (σ)))) (s := (a0, b1, 0)) H ?_
    clear H
    rintro ag2 ⟨a0, b1, i5⟩ σ w H hag2
    replace H : sporranref01_Same_b0 R ag2 a0 b1 i5 w := H
    show Runs _ _ _ _ _ (upd 5 (.int .i64 i5) (upd 1 (Sl.v b1) (upd 0 (Sl.v a0) (σ)))) _
    unfold sporranref01_Same_b0 at H
    refine r_seq ?_
    refine r_seq ?_
    refine r_region ?_
    refine xo_pure (v := (.int .i64 i5)) rfl (wanted_none rfl _) (p_move rfl rfl) ?_
    refine xo_pure (v := (Sl.v a0)) rfl (wanted_none rfl _) (p_move rfl rfl) ?_
    refine xo_pure (v := (.int .i64 (a0.len : Int))) rfl (wanted_none rfl _) (p_len rfl Try.underlying39 rfl) ?_
    refine xo_pure (v := (.bool (decide (i5 < (a0.len : Int))))) rfl (wanted_none rfl _) (p_lt rfl rfl rfl) ?_
    refine xo_end ?_
    refine r_condB (b := (decide (i5 < (a0.len : Int)))) rfl H ?_ ?_
    · clear H; intro hb3 H
      refine r_skip ?_
      refine r_seq ?_
      refine r_block ?_
      refine r_seq ?_
      refine r_draw #[[], [], [0, 1], [0, 1, 2], [], [], [4, 5], [4, 5, 6], [0, 1, 2, 3, 4, 5, 6, 7]] 9 rfl rfl ?_
      refine xa_pure (v := (Sl.v a0)) 0 (by decide +kernel) rfl rfl (wanted_none rfl _) (p_move rfl rfl) ?_
      refine xa_pure (v := (.int .i64 i5)) 1 (by decide +kernel) rfl rfl (wanted_none rfl _) (p_move rfl rfl) ?_
      obtain ⟨p_1, hap_1, hlp_1, hup_1, H⟩ := H
      refine xa_pure (v := (.pointer (some (p_1.add (i5.toNat * 1))))) 2 (by decide +kernel) rfl rfl (wanted_none rfl _) (p_indexAddr (s := a0) (ad := p_1) (size := 1) rfl Try.underlying39 Try.ti5 rfl rfl hap_1 hlp_1 hup_1) ?_
      obtain ⟨adv_2, v_2, hev_2, hcv_2, H⟩ := H
      refine xa_read (v := (.int .u8 v_2)) (S := (fun w => w.cell? adv_2 = some (.int .u8 v_2))) 3 (by decide +kernel) rfl rfl (wanted_none rfl _) (fun w hc => rd_load (ad := adv_2) rfl Try.underlying5 rfl (by show Value.pointer _ = _; rw [hev_2]) hc) hcv_2 ?_
      refine xa_pure (v := (Sl.v b1)) 4 (by decide +kernel) rfl rfl (wanted_none rfl _) (p_move rfl rfl) ?_
      refine xa_pure (v := (.int .i64 i5)) 5 (by decide +kernel) rfl rfl (wanted_none rfl _) (p_move rfl rfl) ?_
      obtain ⟨p_3, hap_3, hlp_3, hup_3, H⟩ := H
      refine xa_pure (v := (.pointer (some (p_3.add (i5.toNat * 1))))) 6 (by decide +kernel) rfl rfl (wanted_none rfl _) (p_indexAddr (s := b1) (ad := p_3) (size := 1) rfl Try.underlying39 Try.ti5 rfl rfl hap_3 hlp_3 hup_3) ?_
      obtain ⟨adv_4, v_4, hev_4, hcv_4, H⟩ := H
      refine xa_read (v := (.int .u8 v_4)) (S := (fun w => w.cell? adv_4 = some (.int .u8 v_4))) 7 (by decide +kernel) rfl rfl (wanted_none rfl _) (fun w hc => rd_load (ad := adv_4) rfl Try.underlying5 rfl (by show Value.pointer _ = _; rw [hev_4]) hc) hcv_4 ?_
      refine xa_pure (v := (.bool (!decide (v_2 = v_4)))) 8 (by decide +kernel) rfl rfl (wanted_none rfl _) (p_ne rfl rfl rfl) ?_
      refine xa_end (by decide +kernel) ?_
      refine r_condB (b := (!decide (v_2 = v_4))) rfl H ?_ ?_
      · clear H; intro hb4 H
        refine r_seq ?_
        refine r_region ?_
        refine xo_pure (v := (.bool false)) rfl (wanted_none rfl _) (p_assign rfl rfl) ?_
        refine xo_end ?_
        exact r_ret (fn := Try.f21) Try.func21 (res_1 rfl ⟨by decide, rfl⟩) H
      · clear H; intro hb4 H
        refine r_skip ?_
        refine r_inBlock ?_
        refine r_region ?_
        refine xo_pure (v := (.int .i64 i5)) rfl (wanted_none rfl _) (p_move rfl rfl) ?_
        refine xo_pure (v := (.int .i64 (IntKind.i64.wrap (i5 + 1)))) rfl (wanted_none rfl _) (p_add rfl rfl rfl) ?_
        refine xo_pure (v := (.int .i64 (IntKind.i64.wrap (i5 + 1)))) rfl (wanted_none rfl _) (p_assign rfl rfl) ?_
        refine xo_end ?_
        refine r_upd (i := 0) (v := (Sl.v a0)) rfl ?_
        refine r_upd (i := 1) (v := (Sl.v b1)) rfl ?_
        refine r_upd (i := 5) (v := (.int .i64 (IntKind.i64.wrap (i5 + 1)))) rfl ?_
        exact hag2 (a0, b1, (IntKind.i64.wrap (i5 + 1))) _ _ H
    · clear H; intro hb3 H
      refine r_exit rfl ?_
      refine r_seq ?_
      refine r_region ?_
      refine xo_pure (v := (.bool true)) rfl (wanted_none rfl _) (p_assign rfl rfl) ?_
      refine xo_end ?_
      exact r_ret (fn := Try.f21) Try.func21 (res_1 rfl ⟨by decide, rfl⟩) H

/-! 150 sporran/model.named -/
def model_named_k1 (R : Value → World → Prop) (ag1 : (ByteArray × Int × Int) → World → Prop) (s0 : ByteArray) (t5 : Int) (t6 : Int) (t18 : Bool) (w : World) : Prop :=
  IfB t18 (
    R (.bool false) w) (
    ag1 (s0, t5, (IntKind.i64.wrap (t6 + 1))) w)

def model_named_b0 (R : Value → World → Prop) (ag1 : (ByteArray × Int × Int) → World → Prop) (s0 : ByteArray) (t5 : Int) (t6 : Int) (w : World) : Prop :=
  IfB (decide (t6 < t5)) (
    IxA s0.size t6 (
    IfB (decide (((s0.data.toList.getD (t6).toNat 0).toNat : Int) ≤ 32)) (
      model_named_k1 R ag1 s0 t5 t6 true w) (
      IxA s0.size t6 (
      model_named_k1 R ag1 s0 t5 t6 (decide (126 < ((s0.data.toList.getD (t6).toNat 0).toNat : Int))) w)))) (
    IfB (!seq s0 (ByteArray.mk #[])) (
      R (.bool (decide ((s0.size : Int) ≤ 20))) w) (
      R (.bool false) w))

def model_named (R : Value → World → Prop) (s0 : ByteArray) (w : World) : Prop :=
  Lp (fun ag (s : ByteArray × Int × Int) w => model_named_b0 R ag s.1 s.2.1 s.2.2 w) (s0, (s0.size : Int), 0) w

theorem model_named_ok (R : Value → World → Prop) (s0 : ByteArray) (w : World) (H : model_named R s0 w) : CallF Try.prog 150 #[(.string s0)] w R := by
  refine calls_of_runs (fn := Try.f150) Try.func150 rfl (Nat.le_of_ble_eq_true rfl) ?_
  show Runs _ _ 27 _ _ _ _
  unfold model_named at H
  refine r_upd (i := 0) (v := (.string s0)) rfl ?_
  refine r_seq ?_
  refine r_region ?_
  refine xo_pure (v := (.bool false)) rfl (wanted_none rfl _) (p_assign rfl rfl) ?_
  refine xo_end ?_
  refine r_seq ?_
  refine r_seq ?_
  refine r_region ?_
  refine xo_pure (v := (.string s0)) rfl (wanted_none rfl _) (p_move rfl rfl) ?_
  refine xo_pure (v := (.int .i64 (s0.size : Int))) rfl (wanted_none rfl _) (p_lenS rfl Try.underlying9 rfl) ?_
  refine xo_pure (v := (.int .i64 0)) rfl (wanted_none rfl _) (p_move rfl rfl) ?_
  refine xo_end ?_
  refine r_block ?_
  refine r_upd (i := 0) (v := (.string s0)) rfl ?_
  refine r_upd (i := 5) (v := (.int .i64 (s0.size : Int))) rfl ?_
  refine r_upd (i := 6) (v := (.int .i64 0)) rfl ?_
  refine r_loopJ (fun (s : ByteArray × Int × Int) σ => upd 6 (.int .i64 s.2.2) (upd 5 (.int .i64 s.2.1) (upd 0 (.string s.1) (σ)))) (s := (s0, (s0.size : Int), 0)) H ?_
  clear H
  rintro ag1 ⟨s0, t5, t6⟩ σ w H hag1
  replace H : model_named_b0 R ag1 s0 t5 t6 w := H
  show Runs _ _ _ _ _ (upd 6 (.int .i64 t6) (upd 5 (.int .i64 t5) (upd 0 (.string s0) (σ)))) _
  unfold model_named_b0 at H
  refine r_seq ?_
  refine r_region ?_
  refine xo_pure (v := (.bool (decide (t6 < t5)))) rfl (wanted_none rfl _) (p_lt rfl rfl rfl) ?_
  refine xo_end ?_
  refine r_seq ?_
  refine r_condB (b := (decide (t6 < t5))) rfl H ?_ ?_
  · clear H; intro hb2 H
    refine r_skip ?_
    refine r_seq ?_
    refine r_block ?_
    refine r_seq ?_
    refine r_region ?_
    refine xo_pure (v := (.int .i64 t6)) rfl (wanted_none rfl _) (p_move rfl rfl) ?_
    refine xo_pure (v := (.int .i64 t6)) rfl (wanted_none rfl _) (p_assign rfl rfl) ?_
    refine xo_end ?_
    refine r_seq ?_
    refine r_topJ (fun (s : ByteArray × Int × Int × Bool) σ => upd 18 (.bool s.2.2.2) (upd 6 (.int .i64 s.2.2.1) (upd 5 (.int .i64 s.2.1) (upd 0 (.string s.1) (σ))))) (fun (s : ByteArray × Int × Int × Bool) w => model_named_k1 R ag1 s.1 s.2.1 s.2.2.1 s.2.2.2 w) ?_ ?_
    · rintro ⟨s0, t5, t6, t18⟩ σ w H
      replace H : model_named_k1 R ag1 s0 t5 t6 t18 w := H
      show Runs _ _ _ _ _ (upd 18 (.bool t18) (upd 6 (.int .i64 t6) (upd 5 (.int .i64 t5) (upd 0 (.string s0) (σ))))) _
      unfold model_named_k1 at H
      refine r_condB (b := t18) rfl H ?_ ?_
      · clear H; intro hb4 H
        refine r_seq ?_
        refine r_region ?_
        refine xo_pure (v := (.bool false)) rfl (wanted_none rfl _) (p_assign rfl rfl) ?_
        refine xo_end ?_
        exact r_ret (fn := Try.f150) Try.func150 (res_1 rfl ⟨by decide, rfl⟩) H
      · clear H; intro hb4 H
        refine r_skip ?_
        refine r_inBlock ?_
        refine r_region ?_
        refine xo_pure (v := (.int .i64 (IntKind.i64.wrap (t6 + 1)))) rfl (wanted_none rfl _) (p_add rfl rfl rfl) ?_
        refine xo_pure (v := (.int .i64 (IntKind.i64.wrap (t6 + 1)))) rfl (wanted_none rfl _) (p_move rfl rfl) ?_
        refine xo_end ?_
        refine r_upd (i := 0) (v := (.string s0)) rfl ?_
        refine r_upd (i := 5) (v := (.int .i64 t5)) rfl ?_
        refine r_upd (i := 6) (v := (.int .i64 (IntKind.i64.wrap (t6 + 1)))) rfl ?_
        exact hag1 (s0, t5, (IntKind.i64.wrap (t6 + 1))) _ _ H
    · intro J3
      refine r_region ?_
      refine xo_pure (v := (.string s0)) rfl (wanted_none rfl _) (p_move rfl rfl) ?_
      refine xo_pure (v := (.int .i64 t6)) rfl (wanted_none rfl _) (p_move rfl rfl) ?_
      obtain ⟨hlq_1, huq_1, H⟩ := H
      refine xo_pure (v := (.int .u8 ((s0.data.toList.getD (t6).toNat 0).toNat : Int))) rfl (wanted_none rfl _) (p_indexS rfl Try.underlying9 rfl rfl hlq_1 huq_1) ?_
      refine xo_pure (v := (.bool (decide (((s0.data.toList.getD (t6).toNat 0).toNat : Int) ≤ 32)))) rfl (wanted_none rfl _) (p_le rfl rfl rfl) ?_
      refine xo_pure (v := (.bool (decide (((s0.data.toList.getD (t6).toNat 0).toNat : Int) ≤ 32)))) rfl (wanted_none rfl _) (p_move rfl rfl) ?_
      refine ifB_cases H ?_ ?_
      · clear H; intro hb5 H
        refine xo_skip rfl (wanted_no (d := 13) rfl rfl (by decide) rfl hb5) ?_
        refine xo_skip rfl (wanted_no (d := 13) rfl rfl (by decide) rfl hb5) ?_
        refine xo_skip rfl (wanted_no (d := 13) rfl rfl (by decide) rfl hb5) ?_
        refine xo_skip rfl (wanted_no (d := 13) rfl rfl (by decide) rfl hb5) ?_
        refine xo_pure (v := (.bool true)) rfl (wanted_none rfl _) (p_pickT rfl rfl hb5 rfl) ?_
        refine xo_end ?_
        refine r_upd (i := 0) (v := (.string s0)) rfl ?_
        refine r_upd (i := 5) (v := (.int .i64 t5)) rfl ?_
        refine r_upd (i := 6) (v := (.int .i64 t6)) rfl ?_
        refine r_upd (i := 18) (v := (.bool true)) rfl ?_
        exact J3 (s0, t5, t6, true) _ _ H
      · clear H; intro hb5 H
        refine xo_pure (v := (.string s0)) rfl (wanted_yes (d := 13) rfl rfl (by decide) rfl hb5) (p_move rfl rfl) ?_
        refine xo_pure (v := (.int .i64 t6)) rfl (wanted_yes (d := 13) rfl rfl (by decide) rfl hb5) (p_move rfl rfl) ?_
        obtain ⟨hlq_2, huq_2, H⟩ := H
        refine xo_pure (v := (.int .u8 ((s0.data.toList.getD (t6).toNat 0).toNat : Int))) rfl (wanted_yes (d := 13) rfl rfl (by decide) rfl hb5) (p_indexS rfl Try.underlying9 rfl rfl hlq_2 huq_2) ?_
        refine xo_pure (v := (.bool (decide (126 < ((s0.data.toList.getD (t6).toNat 0).toNat : Int))))) rfl (wanted_yes (d := 13) rfl rfl (by decide) rfl hb5) (p_gt rfl rfl rfl) ?_
        refine xo_pure (v := (.bool (decide (126 < ((s0.data.toList.getD (t6).toNat 0).toNat : Int))))) rfl (wanted_none rfl _) (p_pickF rfl rfl hb5 rfl) ?_
        refine xo_end ?_
        refine r_upd (i := 0) (v := (.string s0)) rfl ?_
        refine r_upd (i := 5) (v := (.int .i64 t5)) rfl ?_
        refine r_upd (i := 6) (v := (.int .i64 t6)) rfl ?_
        refine r_upd (i := 18) (v := (.bool (decide (126 < ((s0.data.toList.getD (t6).toNat 0).toNat : Int))))) rfl ?_
        exact J3 (s0, t5, t6, (decide (126 < ((s0.data.toList.getD (t6).toNat 0).toNat : Int)))) _ _ H
  · clear H; intro hb2 H
    refine r_exit rfl ?_
    refine r_seq ?_
    refine r_region ?_
    refine xo_pure (v := (.string s0)) rfl (wanted_none rfl _) (p_move rfl rfl) ?_
    refine xo_pure (v := (.bool (!seq s0 (ByteArray.mk #[])))) rfl (wanted_none rfl _) (p_sne rfl rfl rfl) ?_
    refine xo_pure (v := (.bool (!seq s0 (ByteArray.mk #[])))) rfl (wanted_none rfl _) (p_move rfl rfl) ?_
    refine ifB_cases H ?_ ?_
    · clear H; intro hb6 H
      refine xo_pure (v := (.string s0)) rfl (wanted_yes (d := 22) rfl rfl (by decide) rfl hb6) (p_move rfl rfl) ?_
      refine xo_pure (v := (.int .i64 (s0.size : Int))) rfl (wanted_yes (d := 22) rfl rfl (by decide) rfl hb6) (p_lenS rfl Try.underlying9 rfl) ?_
      refine xo_pure (v := (.bool (decide ((s0.size : Int) ≤ 20)))) rfl (wanted_yes (d := 22) rfl rfl (by decide) rfl hb6) (p_le rfl rfl rfl) ?_
      refine xo_pure (v := (.bool (decide ((s0.size : Int) ≤ 20)))) rfl (wanted_none rfl _) (p_pickT rfl rfl hb6 rfl) ?_
      refine xo_pure (v := (.bool (decide ((s0.size : Int) ≤ 20)))) rfl (wanted_none rfl _) (p_assign rfl rfl) ?_
      refine xo_end ?_
      exact r_ret (fn := Try.f150) Try.func150 (res_1 rfl ⟨by decide, rfl⟩) H
    · clear H; intro hb6 H
      refine xo_skip rfl (wanted_no (d := 22) rfl rfl (by decide) rfl hb6) ?_
      refine xo_skip rfl (wanted_no (d := 22) rfl rfl (by decide) rfl hb6) ?_
      refine xo_skip rfl (wanted_no (d := 22) rfl rfl (by decide) rfl hb6) ?_
      refine xo_pure (v := (.bool false)) rfl (wanted_none rfl _) (p_pickF rfl rfl hb6 rfl) ?_
      refine xo_pure (v := (.bool false)) rfl (wanted_none rfl _) (p_assign rfl rfl) ?_
      refine xo_end ?_
      exact r_ret (fn := Try.f150) Try.func150 (res_1 rfl ⟨by decide, rfl⟩) H
end Go.Proofs
