/- Laid by program. -/
import Derived.Test.YtnjilbgcflbghaaXFT
set_option linter.all false
set_option linter.unusedVariables false
set_option linter.unusedSimpArgs false
set_option maxRecDepth 20000
set_option maxHeartbeats 4000000
namespace Go.Proofs
open Go Go.X
/-! 245 slices.medianOrdered[string] -/
def slices_medianOrdered_string (R : Value → World → Prop) (data0 : Sl) (a1 : Int) (b2 : Int) (c3 : Int) (swaps4 : Option Addr) (w : World) : Prop :=
  CallF Try.prog 256 #[(Sl.v data0), (.int .i64 a1), (.int .i64 b2), (.pointer swaps4)] w fun u_1 w_1 => AsT2 (Value.int .i64) (Value.int .i64) u_1 fun v_2 v_3 =>
  CallF Try.prog 256 #[(Sl.v data0), (.int .i64 v_3), (.int .i64 c3), (.pointer swaps4)] w_1 fun u_4 w_2 => AsT2 (Value.int .i64) (Value.int .i64) u_4 fun v_5 v_6 =>
  CallF Try.prog 256 #[(Sl.v data0), (.int .i64 v_2), (.int .i64 v_5), (.pointer swaps4)] w_2 fun u_7 w_3 => AsT2 (Value.int .i64) (Value.int .i64) u_7 fun v_8 v_9 =>
  R (.int .i64 v_9) w_3

theorem slices_medianOrdered_string_ok (R : Value → World → Prop) (data0 : Sl) (a1 : Int) (b2 : Int) (c3 : Int) (swaps4 : Option Addr) (w : World) (H : slices_medianOrdered_string R data0 a1 b2 c3 swaps4 w) : CallF Try.prog 245 #[(Sl.v data0), (.int .i64 a1), (.int .i64 b2), (.int .i64 c3), (.pointer swaps4)] w R := by
  refine calls_of_runs (fn := Try.f245) Try.func245 rfl (Nat.le_of_ble_eq_true rfl) ?_
  show Runs _ _ 36 _ _ _ _
  unfold slices_medianOrdered_string at H
  refine r_upd (i := 0) (v := (Sl.v data0)) rfl ?_
  refine r_upd (i := 1) (v := (.int .i64 a1)) rfl ?_
  refine r_upd (i := 2) (v := (.int .i64 b2)) rfl ?_
  refine r_upd (i := 3) (v := (.int .i64 c3)) rfl ?_
  refine r_upd (i := 4) (v := (.pointer swaps4)) rfl ?_
  refine r_seq ?_
  refine r_region ?_
  refine xo_pure (v := (.int .i64 0)) rfl (wanted_none rfl _) (p_assign rfl rfl) ?_
  refine xo_end ?_
  refine r_seq ?_
  refine r_region ?_
  refine xo_pure (v := (Sl.v data0)) rfl (wanted_none rfl _) (p_move rfl rfl) ?_
  refine xo_pure (v := (.int .i64 a1)) rfl (wanted_none rfl _) (p_move rfl rfl) ?_
  refine xo_pure (v := (.int .i64 b2)) rfl (wanted_none rfl _) (p_move rfl rfl) ?_
  refine xo_pure (v := (.pointer swaps4)) rfl (wanted_none rfl _) (p_move rfl rfl) ?_
  refine xo_eff rfl (wanted_none rfl _) (e_call (fn := Try.f256) H rfl rfl Try.func256 rfl rfl rfl) ?_
  rintro _ w_1 ⟨v_2, v_3, rfl, H⟩
  refine xo_pure (v := (.tuple #[(.int .i64 v_2), (.int .i64 v_3)])) rfl (wanted_none rfl _) (p_move rfl rfl) ?_
  refine xo_pure (v := (.int .i64 v_2)) rfl (wanted_none rfl _) (p_extract (vs := #[(.int .i64 v_2), (.int .i64 v_3)]) rfl rfl rfl) ?_
  refine xo_pure (v := (.int .i64 v_3)) rfl (wanted_none rfl _) (p_extract (vs := #[(.int .i64 v_2), (.int .i64 v_3)]) rfl rfl rfl) ?_
  refine xo_pure (v := (.int .i64 v_2)) rfl (wanted_none rfl _) (p_assign rfl rfl) ?_
  refine xo_pure (v := (.int .i64 v_3)) rfl (wanted_none rfl _) (p_assign rfl rfl) ?_
  refine xo_end ?_
  refine r_seq ?_
  refine r_region ?_
  refine xo_pure (v := (Sl.v data0)) rfl (wanted_none rfl _) (p_move rfl rfl) ?_
  refine xo_pure (v := (.int .i64 v_3)) rfl (wanted_none rfl _) (p_move rfl rfl) ?_
  refine xo_pure (v := (.int .i64 c3)) rfl (wanted_none rfl _) (p_move rfl rfl) ?_
  refine xo_pure (v := (.pointer swaps4)) rfl (wanted_none rfl _) (p_move rfl rfl) ?_
  refine xo_eff rfl (wanted_none rfl _) (e_call (fn := Try.f256) H rfl rfl Try.func256 rfl rfl rfl) ?_
  rintro _ w_2 ⟨v_5, v_6, rfl, H⟩
  refine xo_pure (v := (.tuple #[(.int .i64 v_5), (.int .i64 v_6)])) rfl (wanted_none rfl _) (p_move rfl rfl) ?_
  refine xo_pure (v := (.int .i64 v_5)) rfl (wanted_none rfl _) (p_extract (vs := #[(.int .i64 v_5), (.int .i64 v_6)]) rfl rfl rfl) ?_
  refine xo_pure (v := (.int .i64 v_6)) rfl (wanted_none rfl _) (p_extract (vs := #[(.int .i64 v_5), (.int .i64 v_6)]) rfl rfl rfl) ?_
  refine xo_pure (v := (.int .i64 v_5)) rfl (wanted_none rfl _) (p_assign rfl rfl) ?_
  refine xo_pure (v := (.int .i64 v_6)) rfl (wanted_none rfl _) (p_assign rfl rfl) ?_
  refine xo_end ?_
  refine r_seq ?_
  refine r_region ?_
  refine xo_pure (v := (Sl.v data0)) rfl (wanted_none rfl _) (p_move rfl rfl) ?_
  refine xo_pure (v := (.int .i64 v_2)) rfl (wanted_none rfl _) (p_move rfl rfl) ?_
  refine xo_pure (v := (.int .i64 v_5)) rfl (wanted_none rfl _) (p_move rfl rfl) ?_
  refine xo_pure (v := (.pointer swaps4)) rfl (wanted_none rfl _) (p_move rfl rfl) ?_
  refine xo_eff rfl (wanted_none rfl _) (e_call (fn := Try.f256) H rfl rfl Try.func256 rfl rfl rfl) ?_
  rintro _ w_3 ⟨v_8, v_9, rfl, H⟩
  refine xo_pure (v := (.tuple #[(.int .i64 v_8), (.int .i64 v_9)])) rfl (wanted_none rfl _) (p_move rfl rfl) ?_
  refine xo_pure (v := (.int .i64 v_8)) rfl (wanted_none rfl _) (p_extract (vs := #[(.int .i64 v_8), (.int .i64 v_9)]) rfl rfl rfl) ?_
  refine xo_pure (v := (.int .i64 v_9)) rfl (wanted_none rfl _) (p_extract (vs := #[(.int .i64 v_8), (.int .i64 v_9)]) rfl rfl rfl) ?_
  refine xo_pure (v := (.int .i64 v_8)) rfl (wanted_none rfl _) (p_assign rfl rfl) ?_
  refine xo_pure (v := (.int .i64 v_9)) rfl (wanted_none rfl _) (p_assign rfl rfl) ?_
  refine xo_end ?_
  refine r_seq ?_
  refine r_region ?_
  refine xo_pure (v := (.int .i64 v_9)) rfl (wanted_none rfl _) (p_move rfl rfl) ?_
  refine xo_pure (v := (.int .i64 v_9)) rfl (wanted_none rfl _) (p_assign rfl rfl) ?_
  refine xo_end ?_
  exact r_ret (fn := Try.f245) Try.func245 (res_1 rfl ⟨by decide, rfl⟩) H

/-! 246 cmp.isNaN[string] -/
def cmp_isNaN_string (R : Value → World → Prop) (x0 : ByteArray) (w : World) : Prop :=
  R (.bool (!seq x0 x0)) w

theorem cmp_isNaN_string_ok (R : Value → World → Prop) (x0 : ByteArray) (w : World) (H : cmp_isNaN_string R x0 w) : CallF Try.prog 246 #[(.string x0)] w R := by
  refine calls_of_runs (fn := Try.f246) Try.func246 rfl (Nat.le_of_ble_eq_true rfl) ?_
  show Runs _ _ 6 _ _ _ _
  unfold cmp_isNaN_string at H
  refine r_upd (i := 0) (v := (.string x0)) rfl ?_
  refine r_seq ?_
  refine r_region ?_
  refine xo_pure (v := (.bool false)) rfl (wanted_none rfl _) (p_assign rfl rfl) ?_
  refine xo_end ?_
  refine r_seq ?_
  refine r_region ?_
  refine xo_pure (v := (.string x0)) rfl (wanted_none rfl _) (p_move rfl rfl) ?_
  refine xo_pure (v := (.string x0)) rfl (wanted_none rfl _) (p_move rfl rfl) ?_
  refine xo_pure (v := (.bool (!seq x0 x0))) rfl (wanted_none rfl _) (p_sne rfl rfl rfl) ?_
  refine xo_pure (v := (.bool (!seq x0 x0))) rfl (wanted_none rfl _) (p_assign rfl rfl) ?_
  refine xo_end ?_
  exact r_ret (fn := Try.f246) Try.func246 (res_1 rfl ⟨by decide, rfl⟩) H

/-! 256 slices.order2Ordered[string] -/
def slices_order2Ordered_string (R : Value → World → Prop) (data0 : Sl) (a1 : Int) (b2 : Int) (swaps3 : Option Addr) (w : World) : Prop :=
  Ix data0 b2 fun p_1 =>
  Ld Value.string (some (p_1.add (b2.toNat * 1))) (World.drew w) fun v_2 =>
  Ix data0 a1 fun p_3 =>
  Ld Value.string (some (p_3.add (a1.toNat * 1))) (World.drew w) fun v_4 =>
  CallF Try.prog 214 #[(.string v_2), (.string v_4)] (World.drew w) fun u_5 w_2 => As Value.bool u_5 fun v_6 =>
  IfB v_6 (
    NotNil swaps3 fun p_7 =>
    Ld (Value.int .i64) (some p_7) w_2 fun v_8 =>
    NotNil swaps3 fun p_9 =>
    St (some p_9) (.int .i64 (IntKind.i64.wrap (v_8 + 1))) w_2 fun w_3 =>
    R (.tuple #[(.int .i64 b2), (.int .i64 a1)]) w_3) (
    R (.tuple #[(.int .i64 a1), (.int .i64 b2)]) w_2)

theorem slices_order2Ordered_string_ok (R : Value → World → Prop) (data0 : Sl) (a1 : Int) (b2 : Int) (swaps3 : Option Addr) (w : World) (H : slices_order2Ordered_string R data0 a1 b2 swaps3 w) : CallF Try.prog 256 #[(Sl.v data0), (.int .i64 a1), (.int .i64 b2), (.pointer swaps3)] w R := by
  refine calls_of_runs (fn := Try.f256) Try.func256 rfl (Nat.le_of_ble_eq_true rfl) ?_
  show Runs _ _ 28 _ _ _ _
  unfold slices_order2Ordered_string at H
  refine r_upd (i := 0) (v := (Sl.v data0)) rfl ?_
  refine r_upd (i := 1) (v := (.int .i64 a1)) rfl ?_
  refine r_upd (i := 2) (v := (.int .i64 b2)) rfl ?_
  refine r_upd (i := 3) (v := (.pointer swaps3)) rfl ?_
  refine r_seq ?_
  refine r_region ?_
  refine xo_pure (v := (.int .i64 0)) rfl (wanted_none rfl _) (p_assign rfl rfl) ?_
  refine xo_pure (v := (.int .i64 0)) rfl (wanted_none rfl _) (p_assign rfl rfl) ?_
  refine xo_end ?_
  refine r_seq ?_
  refine r_seq ?_
  refine r_draw #[[], [], [0, 1], [0, 1, 2], [], [], [4, 5], [4, 5, 6], [0, 1, 2, 3, 4, 5, 6, 7]] 9 rfl rfl ?_
  refine xa_pure (v := (Sl.v data0)) 0 (by decide +kernel) rfl rfl (wanted_none rfl _) (p_move rfl rfl) ?_
  refine xa_pure (v := (.int .i64 b2)) 1 (by decide +kernel) rfl rfl (wanted_none rfl _) (p_move rfl rfl) ?_
  obtain ⟨p_1, hap_1, hlp_1, hup_1, H⟩ := H
  refine xa_pure (v := (.pointer (some (p_1.add (b2.toNat * 1))))) 2 (by decide +kernel) rfl rfl (wanted_none rfl _) (p_indexAddr (s := data0) (ad := p_1) (size := 1) rfl Try.underlying71 Try.ti9 rfl rfl hap_1 hlp_1 hup_1) ?_
  obtain ⟨adv_2, v_2, hev_2, hcv_2, H⟩ := H
  refine xa_read (v := (.string v_2)) (S := (fun w => w.cell? adv_2 = some (.string v_2))) 3 (by decide +kernel) rfl rfl (wanted_none rfl _) (fun w hc => rd_load (ad := adv_2) rfl Try.underlying9 rfl (by show Value.pointer _ = _; rw [hev_2]) hc) hcv_2 ?_
  refine xa_pure (v := (Sl.v data0)) 4 (by decide +kernel) rfl rfl (wanted_none rfl _) (p_move rfl rfl) ?_
  refine xa_pure (v := (.int .i64 a1)) 5 (by decide +kernel) rfl rfl (wanted_none rfl _) (p_move rfl rfl) ?_
  obtain ⟨p_3, hap_3, hlp_3, hup_3, H⟩ := H
  refine xa_pure (v := (.pointer (some (p_3.add (a1.toNat * 1))))) 6 (by decide +kernel) rfl rfl (wanted_none rfl _) (p_indexAddr (s := data0) (ad := p_3) (size := 1) rfl Try.underlying71 Try.ti9 rfl rfl hap_3 hlp_3 hup_3) ?_
  obtain ⟨adv_4, v_4, hev_4, hcv_4, H⟩ := H
  refine xa_read (v := (.string v_4)) (S := (fun w => w.cell? adv_4 = some (.string v_4))) 7 (by decide +kernel) rfl rfl (wanted_none rfl _) (fun w hc => rd_load (ad := adv_4) rfl Try.underlying9 rfl (by show Value.pointer _ = _; rw [hev_4]) hc) hcv_4 ?_
  refine xa_eff 8 [] (by decide +kernel) rfl rfl rfl (wanted_none rfl _) (e_call (fn := Try.f214) H rfl rfl Try.func214 rfl rfl rfl) ?_
  rintro _ w_2 ⟨v_6, rfl, H⟩
  refine ⟨AllHeld.nil, ?_⟩
  refine xa_end (by decide +kernel) ?_
  refine r_condB (b := v_6) rfl H ?_ ?_
  · clear H; intro hb1 H
    refine r_seq ?_
    refine r_region ?_
    refine xo_pure (v := (.pointer swaps3)) rfl (wanted_none rfl _) (p_move rfl rfl) ?_
    obtain ⟨p_7, hpp_7, H⟩ := H
    refine xo_pure (v := (.pointer (some p_7))) rfl (wanted_none rfl _) (p_nilCheck rfl rfl hpp_7) ?_
    obtain ⟨adv_8, v_8, hev_8, hcv_8, H⟩ := H
    refine xo_read (v := (.int .i64 v_8)) rfl (wanted_none rfl _) (rd_load (ad := adv_8) rfl Try.underlying3 rfl (by show Value.pointer _ = _; rw [hev_8]) hcv_8) ?_
    refine xo_pure (v := (.int .i64 (IntKind.i64.wrap (v_8 + 1)))) rfl (wanted_none rfl _) (p_add rfl rfl rfl) ?_
    obtain ⟨p_9, hpp_9, H⟩ := H
    refine xo_pure (v := (.pointer (some p_9))) rfl (wanted_none rfl _) (p_nilCheck rfl rfl hpp_9) ?_
    refine xo_effN rfl (wanted_none rfl _) (e_store rfl Try.ti3 rfl rfl rfl H) ?_
    intro _ w_3 H
    refine xo_end ?_
    refine r_seq ?_
    refine r_region ?_
    refine xo_pure (v := (.int .i64 b2)) rfl (wanted_none rfl _) (p_move rfl rfl) ?_
    refine xo_pure (v := (.int .i64 a1)) rfl (wanted_none rfl _) (p_move rfl rfl) ?_
    refine xo_pure (v := (.int .i64 b2)) rfl (wanted_none rfl _) (p_assign rfl rfl) ?_
    refine xo_pure (v := (.int .i64 a1)) rfl (wanted_none rfl _) (p_assign rfl rfl) ?_
    refine xo_end ?_
    exact r_ret (fn := Try.f256) Try.func256 (res_2 rfl ⟨by decide, rfl⟩ ⟨by decide, rfl⟩) H
  · clear H; intro hb1 H
    refine r_skip ?_
    refine r_seq ?_
    refine r_region ?_
    refine xo_pure (v := (.int .i64 a1)) rfl (wanted_none rfl _) (p_move rfl rfl) ?_
    refine xo_pure (v := (.int .i64 b2)) rfl (wanted_none rfl _) (p_move rfl rfl) ?_
    refine xo_pure (v := (.int .i64 a1)) rfl (wanted_none rfl _) (p_assign rfl rfl) ?_
    refine xo_pure (v := (.int .i64 b2)) rfl (wanted_none rfl _) (p_assign rfl rfl) ?_
    refine xo_end ?_
    exact r_ret (fn := Try.f256) Try.func256 (res_2 rfl ⟨by decide, rfl⟩ ⟨by decide, rfl⟩) H
end Go.Proofs
