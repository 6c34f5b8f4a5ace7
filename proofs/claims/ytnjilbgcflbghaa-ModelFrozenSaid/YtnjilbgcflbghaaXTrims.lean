/- ModelTrims: the walk. -/
import Derived.Test.YtnjilbgcflbghaaXF0
import Derived.Test.YtnjilbgcflbghaaXDo15
set_option linter.all false
set_option maxHeartbeats 4000000
set_option maxRecDepth 100000
namespace Go.Proofs
open Go Go.X
theorem agg_u8s {x y : List Nat} (hx : x.length = 48) (hy : y.length = 48) {K : Bool → Prop} (k : K (decide (x = y))) : AggEq Try.prog 65 (u8s x).toArray (u8s y).toArray K := by
  obtain ⟨i, hi, _⟩ := Try.ti5
  exact ⟨_, EqOK.u8s (P := Try.prog) (t := 65) (e := 5) (n := 48) (i := i) Try.underlying65 Try.underlying5 hi (by kernel_rfl) (by kernel_rfl) hx hy, k⟩
theorem ans_blk {w : World} {a : Nat} {e : Int} {t : Bool} {b : List Nat} {n : Value} {ty : TypeId} {K : Array Value → Prop} (h : Blk w a (ansL e t b n).toArray ty) (hb : b.length = 48) (k : K (u8s b).toArray) : LdN 48 (some ⟨a, 2, none⟩) w K := by
  refine LdN.blk (ds := (u8s b).toArray) h (fun j v hj => ?_) (by simp [hb]) k
  have hj' : (u8s b)[j]? = some v := by simpa using hj
  have hjl : j < (u8s b).length := (List.getElem?_eq_some_iff.1 hj').1
  rw [show 2 + j = j + 1 + 1 from by omega]
  simp only [ansL, List.getElem?_toArray, List.getElem?_cons_succ]
  rw [List.getElem?_append_left hjl]
  exact hj'
theorem op_blk {w : World} {a : Nat} {o : OpV} {ty : TypeId} {K : Array Value → Prop} (h : Blk w a o.cells ty) (ho : o.OK) (k : K (u8s o.block).toArray) : LdN 48 (some ⟨a, 5, none⟩) w K :=
  LdN.blk (ds := (u8s o.block).toArray) h (fun j v hj => o.blk j v (by simpa using hj)) (by simp [ho.block]) k

theorem ModelTrims_walk {w : World} {s : Sl} {l : List OpV} {o : OpV} (hs : Sees w s 53 (l.flatMap OpV.list)) (hl : ∀ o ∈ l, o.OK) (ho : o.OK) :
    CallF Try.prog 6 #[s.v, .agg o.cells] w fun r w' => r = .bool true ∧ Ext w w' := by
  have fin : ∀ w', Ext w w' → (fun (r : Value) (w' : World) => r = .bool true ∧ Ext w w') (.bool true) w' := fun w' h => ⟨rfl, h⟩
  generalize (fun (r : Value) (w' : World) => r = Value.bool true ∧ Ext w w') = R at fin ⊢
  refine sporranlaw15_ModelTrims_ok _ s o.cells w ?_
  unfold sporranlaw15_ModelTrims
  have hlen : ∀ r ∈ l, r.list.length = 53 := fun r hr => OpV.list_len (hl r hr)
  have hc := hs.count hlen (by decide)
  refine New.mk fun a1 w1 ha1 hs1 hblk1 hx1 => ?_
  refine law15_speaks_spec.mono ?_
  rintro _ w2 ⟨rfl, hx2⟩
  refine ⟨_, rfl, fun h => (by cases h), fun _ => ?_⟩
  have hx12 := hx1.trans hx2
  refine (law15_Great_spec (hs.ext hx12) hl).mono ?_
  rintro _ w3 ⟨rfl, hx3⟩
  have hx13 := hx12.trans hx3
  refine ⟨_, rfl, fun _ => ?_, fun hg => ?_⟩
  · unfold sporranlaw15_ModelTrims_k0
    exact ⟨fun _ => fin _ hx13, fun h => (by cases h)⟩
  have hb3 := (hblk1.ext hx2).ext hx3
  refine LdN.all hb3 (OpV.size ho) ⟨OpV.size ho, ?_⟩
  refine New.mk fun a4 w4 ha4 hs4 hblk4 hx4 => ?_
  have hsee : Sees w4 ⟨some ⟨a4, 0, none⟩, 1, 1⟩ 53 ([o].flatMap OpV.list) := by
    have := Sees.ofBlk (n := 1) (size := 53) hblk4 (by simpa using OpV.size ho)
    simpa [OpV.cells] using this
  refine (law15_Great_spec hsee (by simpa using ho)).mono ?_
  rintro _ w5 ⟨rfl, hx5⟩
  refine ⟨_, rfl, ?_⟩
  have hx15 := (hx13.trans hx4).trans hx5
  have hb5 := (hb3.ext hx4).ext hx5
  unfold sporranlaw15_ModelTrims_k0
  refine ⟨fun _ => fin _ hx15, fun hg2 => ?_⟩
  have hsz : ∀ q ∈ l, q.name.size ≤ 100 ∧ q.other.size ≤ 100 := by
    intro q hq
    simp only [great, Bool.or_eq_false_iff] at hg
    have := List.any_eq_false.1 hg.2 q hq
    simpa using this
  have h80 : l.length ≤ 80 := by
    simp only [great, Bool.or_eq_false_iff] at hg
    simpa using hg.1
  have hso : o.name.size ≤ 100 ∧ o.other.size ≤ 100 := by
    simp only [great, Bool.or_eq_false_iff] at hg2
    have := List.any_eq_false.1 hg2.2 o (by simp)
    simpa using this
  refine model_New_spec.mono ?_
  rintro _ w6 ⟨m, rv, rfl, hm6, hx6, hmf, hrf⟩
  refine ⟨_, rfl, ?_⟩
  have hmod : Mod w5 w6 m rv [] := ⟨hm6, hx6, fun k hk => by rcases hk with rfl | rfl | hk; exact hmf; exact hrf; cases hk⟩
  have ha15 : a1 < w5.heap.size := hb5.lt
  have cellsize : ∀ q : OpV, q.OK → q.cells.size = 53 := fun q hq => OpV.size hq
  refine Lp.mk (fun q u => ∃ (i : Nat) (M : Vols), q = (some ⟨a1, 0, none⟩, some ⟨m, 0, none⟩, s, (s.len : Int), (i : Int)) ∧ i ≤ l.length ∧ Mod w5 u m rv M ∧ M.length ≤ i ∧ Blk u a1 o.cells 67) (fun q _ => s.len - q.2.2.2.2.toNat)
    ⟨0, [], rfl, by omega, hmod, by simp, hb5.ext hx6⟩ ?_
  rintro _ u ⟨i, M, rfl, hi, hM, hMl, hbu⟩ ag hag
  show sporranlaw15_ModelTrims_b1 _ ag (some ⟨a1, 0, none⟩) (some ⟨m, 0, none⟩) s s.len i u
  unfold sporranlaw15_ModelTrims_b1
  refine ⟨fun hlt => ?_, fun hge => ?_⟩
  · -- one operation more
    have hil : i < l.length := by simp at hlt; omega
    obtain ⟨a, ha, hsp, hrow, hsz'⟩ := (hs.ext (hx15.trans hM.ext)).at hlen (by decide) i hil
    refine ⟨a, ha, by simp, by simp; omega, _, _, rfl, hsz', by simpa using hrow, ?_⟩
    refine New.mk fun b u1 hb hsu hblk hext => ?_
    have hM1 := hM.extend hext
    refine StN.all hblk hsz' (OpV.one l[i]) (by decide) ?_
    intro u2 hblk2 hc2 hz2
    have hM2 := hM1.other hc2 (Apart.new hM.rep (by omega)) (by have := hM.ext.size; omega)
    refine LdN.all hblk2 hsz' ?_
    refine do_then hM2 (hl _ (List.getElem_mem hil)) (hsz _ (List.getElem_mem hil)).1 (hsz _ (List.getElem_mem hil)).2 (by omega) ?_
    intro u3 M3 s3 ys3 hM3 hst hap hbk _ _ _ _ _ _
    refine ⟨_, rfl, ?_⟩
    rw [show IntKind.i64.wrap ((i : Int) + 1) = ((i + 1 : Nat) : Int) by rw [wrap_i64e]; omega]
    refine hag _ _ ⟨i + 1, M3, rfl, by omega, hM3, ?_, ?_⟩ (by dsimp only; omega)
    · have h1 := doS_len M.st l[i]
      rw [← hst] at h1
      have e1 : M3.st.length = M3.length := by simp [Vols.st]
      have e2 : M.st.length = M.length := by simp [Vols.st]
      omega
    · have hne : a1 ≠ b := by have := hbu.lt; omega
      exact hbk a1 _ _ (hM2.apart ha15) ((hbu.ext hext).ch hc2 hne)
  · -- the trim
    have hap1 : Apart a1 m rv M := hM.apart ha15
    refine ⟨_, rfl, ?_⟩
    simp only [addr_add, Nat.zero_add]
    refine St.blk hbu (by rw [OpV.size ho]; decide) fun u1 hb1 c1 => ?_
    rw [OpV.as_cells] at hb1
    have fresh1 : w.heap.size ≤ a1 := by omega
    have hM1 : MRep u1 m rv M := hM.rep.ch c1 (fun k hk e => by have e : k = a1 := e; subst e; rcases hk with hk | hk | hk; exact hap1.1 hk; exact hap1.2.1 hk; exact hap1.2.2 hk)
    -- from here on all is measured from the world ahead of the call
    have toW : ∀ k, k = m ∨ k = rv ∨ k ∈ M.foot → w.heap.size ≤ k := fun k hk => by have := hM.fresh k hk; have := hx15.size; omega
    have hW1 : Mod w u1 m rv M := ⟨hM1, (hx15.trans hM.ext).step c1 (fun _ _ h => h.elim) (fun j hj e => by have e : j = a1 := e; omega), toW⟩
    refine LdN.all hb1 (OpV.size (OpV.as_ok ho (by decide))) ?_
    refine do_then (o := o.as 4) hW1 (OpV.as_ok ho (by decide)) hso.1 hso.2 (by omega) ?_
    intro u2 M2 s2 ys2 hW2 hst2 hap2 hbk2 _ hl2 _ _ _ _
    have ap2 : Apart a1 m rv M2 := hap2 a1 hap1 hb1.lt
    have hb2 := hbk2 a1 _ _ hap1 hb1
    refine ⟨_, rfl, (doS M.st (o.as 4)).2.1, rfl, fun _ => fin _ hW2.ext, fun he => ?_⟩
    have he0 : (doS M.st (o.as 4)).2.1 = 0 := by simpa using he
    obtain ⟨t1, t2⟩ := trim_read he0
    rw [← hst2] at t1 t2
    have hlM2 : M2.length ≤ 81 := by
      have h1 := doS_len M.st (o.as 4)
      rw [← hst2] at h1
      have e1 : M2.st.length = M2.length := by simp [Vols.st]
      have e2 : M.st.length = M.length := by simp [Vols.st]
      omega
    refine LdN.all hb2 (OpV.size (OpV.as_ok ho (by decide))) ?_
    refine New.mk fun a3 u3 ha3 hs3 hblk3 hx3 => ?_
    refine StN.all hblk3 (OpV.size (OpV.as_ok ho (by decide))) (OpV.one (o.as 4)) (by decide) ?_
    intro u4 hblk4 hc4 hz4
    have apa3 : Apart a3 m rv M2 := Apart.new hW2.rep (by omega)
    have f3 : w.heap.size ≤ a3 := by have := hW2.ext.size; omega
    have hW4 := (hW2.extend hx3).other hc4 apa3 f3
    have hb4 : Blk u4 a1 (o.as 4).cells 67 := (hb2.ext hx3).ch hc4 (by have := hb2.lt; omega)
    simp only [addr_add, Nat.zero_add]
    refine St.blk hblk4 (by rw [OpV.size (OpV.as_ok ho (by decide))]; decide) fun u5 hblk5 c5 => ?_
    rw [OpV.as_cells] at hblk5
    have hblk5 : Blk u5 a3 (o.as 5).cells 67 := hblk5
    have hW5 := hW4.other c5 apa3 f3
    have hb5' : Blk u5 a1 (o.as 4).cells 67 := hb4.ch c5 (by have := hb2.lt; omega)
    refine LdN.all hblk5 (OpV.size (OpV.as_ok ho (by decide))) ?_
    refine do_then (o := o.as 5) hW5 (OpV.as_ok ho (by decide)) hso.1 hso.2 (by omega) ?_
    intro u6 M6 s6 ys6 hW6 hst6 hap6 hbk6 _ hl6 _ _ _ hy6
    refine ⟨_, rfl, ?_⟩
    rw [t1] at hst6 ⊢
    have ap6 : Apart a1 m rv M6 := hap6 a1 ap2 hb5'.lt
    have ap63 : Apart a3 m rv M6 := hap6 a3 apa3 hblk5.lt
    have hb6 := hbk6 a1 _ _ ap2 hb5'
    have hblk6 := hbk6 a3 _ _ apa3 hblk5
    have hs6 : s6 = Sl.nil := (hy6 (by show (5 : Int) ≠ 8; decide)).2
    subst hs6
    dsimp only
    refine New.mk fun a7 u7 ha7 hs7 hblk7 hx7 => ?_
    refine StN.all hblk7 (ans_size zeros48_len) (ans_one rfl) (by rw [ans_zero]; exact ans_size zeros48_len) ?_
    intro u8 hblk8 hc8 hz8
    have ap7 : Apart a7 m rv M6 := Apart.new hW6.rep (by omega)
    have f7 : w.heap.size ≤ a7 := by have := hW6.ext.size; omega
    have hW8 := (hW6.extend hx7).other hc8 ap7 f7
    have hb8 : Blk u8 a1 (o.as 4).cells 67 := (hb6.ext hx7).ch hc8 (by have := hb6.lt; omega)
    have hbr8 : Blk u8 a3 (o.as 5).cells 67 := (hblk6.ext hx7).ch hc8 (by have := hblk6.lt; omega)
    simp only [addr_add, Nat.zero_add]
    refine Ld.blk hblk8 rfl ⟨fun h => absurd h (by simp), fun _ => ?_⟩
    refine Ld.blk hblk8 rfl ⟨fun h => absurd h (by simp), fun _ => ?_⟩
    refine ans_blk hblk8 zeros48_len ?_
    refine ⟨(u8s zeros48).toArray, by rw [blk_zero]; rfl, ?_⟩
    refine agg_u8s zeros48_len zeros48_len ?_
    unfold sporranlaw15_ModelTrims_k2
    refine ⟨fun h => absurd h (by simp), fun _ => ⟨_, rfl, ?_⟩⟩
    -- the write
    simp only [addr_add, Nat.zero_add]
    refine St.blk hb8 (by rw [OpV.size (OpV.as_ok ho (by decide))]; decide) fun u9 hb9 c9 => ?_
    rw [OpV.as_cells] at hb9
    have hb9 : Blk u9 a1 (o.as 3).cells 67 := hb9
    have f1 : w.heap.size ≤ a1 := fresh1
    have hW9 := hW8.other c9 ap6 f1
    have hne13 : a3 ≠ a1 := by have := hb2.lt; omega
    have hbr9 := hbr8.ch c9 hne13
    refine LdN.all hb9 (OpV.size (OpV.as_ok ho (by decide))) ?_
    have e6 : M6.st = M2.st := hst6
    have hlM6 : M6.length ≤ 81 := by
      have e1 : M6.st.length = M6.length := by simp [Vols.st]
      have e2 : M2.st.length = M2.length := by simp [Vols.st]
      rw [e6] at e1; omega
    refine do_then (o := o.as 3) hW9 (OpV.as_ok ho (by decide)) hso.1 hso.2 (by omega) ?_
    intro uA MA sA ysA hWA hstA hapA hbkA _ hlA _ _ _ hyA
    refine ⟨_, rfl, ?_⟩
    have hsA : sA = Sl.nil := (hyA (by show (3 : Int) ≠ 8; decide)).2
    subst hsA
    have apA : Apart a1 m rv MA := hapA a1 ap6 hb9.lt
    have apA3 : Apart a3 m rv MA := hapA a3 ap63 hbr9.lt
    have hbA := hbkA a1 _ _ ap6 hb9
    have hbrA := hbkA a3 _ _ ap63 hbr9
    refine New.mk fun aB uB haB hsB hblkB hxB => ?_
    refine StN.all hblkB (ans_size hlA) (ans_one rfl) (by rw [ans_zero]; exact ans_size zeros48_len) ?_
    intro uC hblkC hcC hzC
    have apB : Apart aB m rv MA := Apart.new hWA.rep (by omega)
    have fB : w.heap.size ≤ aB := by have := hWA.ext.size; omega
    have hWC := (hWA.extend hxB).other hcC apB fB
    have hbC : Blk uC a1 (o.as 3).cells 67 := (hbA.ext hxB).ch hcC (by have := hbA.lt; omega)
    have hbrC : Blk uC a3 (o.as 5).cells 67 := (hbrA.ext hxB).ch hcC (by have := hbrA.lt; omega)
    refine LdN.all hbrC (OpV.size (OpV.as_ok ho (by decide))) ?_
    have hlMA : MA.length ≤ 82 := by
      have h1 := doS_len M6.st (o.as 3)
      rw [← hstA] at h1
      have e1 : MA.st.length = MA.length := by simp [Vols.st]
      have e2 : M6.st.length = M6.length := by simp [Vols.st]
      omega
    refine do_then (o := o.as 5) hWC (OpV.as_ok ho (by decide)) hso.1 hso.2 (by omega) ?_
    intro uD MD sD ysD hWD hstD hapD hbkD _ hlD _ _ _ hyD
    refine ⟨_, rfl, ?_⟩
    have hsD : sD = Sl.nil := (hyD (by show (5 : Int) ≠ 8; decide)).2
    subst hsD
    have hbD := hbkD a1 _ _ apA hbC
    have hblkD := hbkD aB _ _ apB hblkC
    refine New.mk fun aE uE haE hsE hblkE hxE => ?_
    refine StN.all hblkE (ans_size hlD) (ans_one rfl) (by rw [ans_zero]; exact ans_size zeros48_len) ?_
    intro uF hblkF hcF hzF
    have hWF := (hWD.extend hxE).other hcF (Apart.new hWD.rep (by omega)) (by have := hWD.ext.size; omega)
    have hbF : Blk uF a1 (o.as 3).cells 67 := (hbD.ext hxE).ch hcF (by have := hbD.lt; omega)
    have hblkF2 := (hblkD.ext hxE).ch hcF (by have := hblkD.lt; omega)
    rw [hstA] at hlD hblkF
    rw [e6] at hlD hblkF hblkF2 hlA
    simp only [addr_add, Nat.zero_add]
    have last : (doS M2.st (o.as 3)).2.1 = 0 → (doS (doS M2.st (o.as 3)).1 (o.as 5)).2.2 = (true, o.block) →
        Ld Value.bool (some ⟨aE, 1, none⟩) uF fun v => IfB v (LdN 48 (some ⟨aE, 2, none⟩) uF fun v_36 => NotNil (some ⟨a1, 0, none⟩) fun p_37 => LdN 48 (some (p_37.add 5)) uF fun v_38 => AggEq Try.prog 65 v_36 v_38 fun b_39 => R (.bool b_39) uF) (R (.bool false) uF) := by
      intro q1 q2
      have q3 : (doS (doS M2.st (o.as 3)).1 (o.as 5)).2.2.1 = true := by rw [q2]
      have q4 : (doS (doS M2.st (o.as 3)).1 (o.as 5)).2.2.2 = o.block := by rw [q2]
      rw [q3, q4] at hblkF
      refine Ld.blk hblkF rfl ⟨fun _ => ?_, fun h => (by cases h)⟩
      refine ans_blk hblkF ho.block ⟨_, rfl, ?_⟩
      simp only [addr_add, Nat.zero_add]
      refine op_blk hbF (OpV.as_ok ho (by decide)) ?_
      refine agg_u8s ho.block ho.block ?_
      rw [show decide (o.block = o.block) = true by simp]; exact fin _ hWF.ext
    rcases t2 with ⟨q1, q2⟩ | ⟨q1, q2⟩
    · rw [q1] at hblkF2
      rw [q2] at hblkF
      refine Ld.blk hblkF2 rfl ⟨fun _ => Ld.blk hblkF rfl ⟨fun _ => fin _ hWF.ext, fun h => absurd h (by simp)⟩, fun h => absurd h (by simp)⟩
    · rw [q1] at hblkF2
      refine Ld.blk hblkF2 rfl ⟨fun h => absurd h (by simp), fun _ => Ld.blk hblkF2 rfl ⟨fun _ => last q1 q2, fun h => absurd h (by simp)⟩⟩
end Go.Proofs
