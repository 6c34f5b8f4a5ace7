/- VolumeErrors: the plain laws and the walk. -/
import Derived.Test.YtnjilbgcflbghaaXF0
import Derived.Test.YtnjilbgcflbghaaXLaw12
set_option linter.all false
set_option maxHeartbeats 4000000
set_option maxRecDepth 100000
namespace Go.Proofs
open Go Go.X Go.Sort
/-- What a call does: volumes, and the error. -/
def vOp (M : St) (c : CallV12) : St × Int :=
  if c.what = 0 then ((vPut M c.name c.number c.finger).1, (vPut M c.name c.number c.finger).2.2.2)
  else if c.what = 1 then ((vDrop M c.name c.number).1, (vDrop M c.name c.number).2.2.2)
  else if c.what = 2 then vCreate M c.name c.quota
  else if c.what = 3 then vCopy M c.name c.other c.quota c.frozen
  else vDelete M c.name
/-- A change of one volume's blocks, that isn't frozen, within its quota; a volume more; a volume less; or nothing. -/
inductive VStep (M : St) : St → Prop
  | same : VStep M M
  | blocks (n : ByteArray) (v : VolV) (b : List (Int × List Nat)) (hg : mget M n = some v) (hf : v.frozen = false) (hb : b.length ≤ v.blocks.length + 1) (hq : (b.length : Int) ≤ v.quota ∨ b.length ≤ v.blocks.length) : VStep M (setS M n { v with blocks := b })
  | more (n : ByteArray) (v : VolV) (hg : (mget M n).isSome = false) (hq : (v.blocks.length : Int) ≤ v.quota) (hb : v.blocks = [] ∨ ∃ p ∈ M, v.blocks = p.2.blocks) : VStep M (M ++ [(n, v)])
  | less (n : ByteArray) : VStep M (mdel M n)
theorem mset_len_in {κ β : Type} [DecidableEq κ] {l : List (κ × β)} {k : κ} (v : β) (h : (mget l k).isSome = true) : (mset l k v).length = l.length := by
  unfold mset
  rw [if_pos (by simpa using (mget_some_iff l k).1 h)]
  simp
theorem mayB_q {n : ByteArray} {q : Int} (h : ¬ mayB n q = false) : 0 ≤ q := by
  unfold mayB at h
  simp at h
  omega
theorem vOp_step (M : St) (c : CallV12) : ((vOp M c).2 ≠ 0 → (vOp M c).1 = M) ∧ VStep M (vOp M c).1 := by
  unfold vOp
  split
  · unfold vPut
    split
    · exact ⟨fun _ => rfl, .same⟩
    · rename_i he
      have he : (vChange M c.name c.number).2.2 = 0 := by simpa using he
      obtain ⟨v, hg, hge, hf, hr⟩ := vChange_some he
      rw [hg]
      dsimp only
      split
      · exact ⟨fun _ => rfl, .same⟩
      · rename_i hq
        refine ⟨fun h => absurd rfl h, .blocks c.name v _ hg hf (mset_le _ _ _) ?_⟩
        have hs : (vChange M c.name c.number).2.1 = (mget v.blocks c.number).isSome := by
          rw [hge]; unfold vGet; rw [hg]; dsimp only; rw [if_neg hr]
        rw [hs] at hq
        cases hi : (mget v.blocks c.number).isSome with
        | true => right; rw [mset_len_in _ hi]; exact Nat.le_refl _
        | false =>
          rw [hi] at hq
          left
          have := mset_le v.blocks c.number c.finger
          have : ¬ v.quota ≤ (v.blocks.length : Int) := fun h => hq ⟨rfl, h⟩
          omega
  split
  · unfold vDrop
    split
    · exact ⟨fun _ => rfl, .same⟩
    · rename_i he
      have he : (vChange M c.name c.number).2.2 = 0 := by simpa using he
      obtain ⟨v, hg, hge, hf, hr⟩ := vChange_some he
      rw [hg]
      have := mdel_le v.blocks c.number
      exact ⟨fun h => absurd he h, .blocks c.name v _ hg hf (by omega) (.inr this)⟩
  split
  · unfold vCreate
    split
    · exact ⟨fun _ => rfl, .same⟩
    · rename_i hm
      split
      · exact ⟨fun _ => rfl, .same⟩
      · rename_i hs
        exact ⟨fun h => absurd rfl h, .more _ _ (by simpa using hs) (mayB_q hm) (.inl rfl)⟩
  split
  · unfold vCopy
    split
    · exact ⟨fun _ => rfl, .same⟩
    · split
      · exact ⟨fun _ => rfl, .same⟩
      · rename_i v hg
        split
        · exact ⟨fun _ => rfl, .same⟩
        · rename_i hs
          split
          · exact ⟨fun _ => rfl, .same⟩
          · rename_i hq
            exact ⟨fun h => absurd rfl h, .more _ _ (by simpa using hs) (by dsimp only; omega) (.inr ⟨_, mget_mem hg, rfl⟩)⟩
  · unfold vDelete
    split
    · exact ⟨fun h => absurd rfl h, .less _⟩
    · exact ⟨fun _ => rfl, .same⟩
/-- No volume has more blocks than its quota. -/
def QL (M : St) : Prop := ∀ p ∈ M, (p.2.blocks.length : Int) ≤ p.2.quota
theorem VStep.quota {M M' : St} (h : VStep M M') (hq : QL M) : QL M' := by
  cases h with
  | same => exact hq
  | blocks n v b hg hf hb hqb =>
    intro p hp
    obtain ⟨q, hq', rfl⟩ := List.mem_map.1 hp
    have hv := hq _ (mget_mem hg)
    dsimp only at hv
    split
    · show (b.length : Int) ≤ v.quota; omega
    · exact hq q hq'
  | more n v hg hqv hb =>
    intro p hp
    rcases List.mem_append.1 hp with hp | hp
    · exact hq p hp
    · simp only [List.mem_singleton] at hp; subst hp; exact hqv
  | less n => intro p hp; exact hq p (List.mem_filter.1 hp).1
theorem VStep.len {M M' : St} (h : VStep M M') {k n : Nat} (hk : M.length ≤ k) (hb : BL M n) : M'.length ≤ k + 1 ∧ BL M' (n + 1) := by
  cases h with
  | same => exact ⟨by omega, hb.mono (by omega)⟩
  | blocks m v b hg hf hbl hqb =>
    refine ⟨by rw [setS_len]; omega, hb.set ?_⟩
    have := hb.get hg
    show b.length ≤ n + 1; omega
  | more m v hg hqv hbl =>
    refine ⟨by simp; omega, fun p hp => ?_⟩
    rcases List.mem_append.1 hp with hp | hp
    · have := hb p hp; omega
    · simp only [List.mem_singleton] at hp; subst hp
      rcases hbl with e | ⟨q, hq, e⟩
      · rw [e]; exact Nat.zero_le _
      · rw [e]; have := hb q hq; omega
  | less m =>
    have := mdel_le M m
    exact ⟨by omega, fun p hp => by have := hb p (List.mem_filter.1 hp).1; omega⟩
theorem VStep.frozen {M M' : St} (h : VStep M M') {k : ByteArray} {v v' : VolV} (hg : mget M k = some v) (hg' : mget M' k = some v') (hf : v'.frozen = true) : v' = v := by
  cases h with
  | same => rw [hg] at hg'; injection hg' with e; exact e.symm
  | blocks n x b hx hxf hb hqb =>
    by_cases hn : n = k
    · subst hn
      rw [mget_setS _ _ _ (by rw [hg]; rfl)] at hg'
      injection hg' with e
      subst e
      rw [hxf] at hf; cases hf
    · rw [setS_eq, mget_map_other _ _ _ _ (fun e => hn e.symm)] at hg'
      rw [hg] at hg'; injection hg' with e; exact e.symm
  | more n x hn hqv hb =>
    rw [mget_append hg] at hg'; injection hg' with e; exact e.symm
  | less n =>
    by_cases hn : n = k
    · subst hn; rw [mget_mdel_same] at hg'; cases hg'
    · rw [mget_mdel_other _ _ _ (fun e => hn e.symm)] at hg'
      rw [hg] at hg'; injection hg' with e; exact e.symm
theorem img_of_mem {M : St} {x : ImgV} (h : x ∈ imgsOf M) : ∃ v, mget M x.name = some v ∧ x = imgOf x.name v := by
  obtain ⟨n, hn, rfl⟩ := List.mem_map.1 h
  have h1 : n ∈ M.map (·.1) := (sortN_perm _).mem_iff.1 hn
  obtain ⟨v, hv⟩ := Option.isSome_iff_exists.1 ((mget_some_iff M n).2 h1)
  refine ⟨v, ?_, ?_⟩
  · rw [hv]; exact hv
  · rw [hv]; rfl
theorem AllAt.see12 {w : World} {s : Sl} {L : List (ImgV × Sl)} (h : AllAt w s L) : VolsSee w s L := AllAt.see h
theorem vimgs_len {L : List (ImgV × Sl)} {M : VMs} (h : L.map (·.1) = imgsOf M.st) : L.length = M.length := by
  have := congrArg List.length h
  rw [List.length_map] at this
  rw [this]
  simp [imgsOf, (sortN_perm _).length_eq, VMs.st]
theorem vst_len (M : VMs) : M.st.length = M.length := by simp [VMs.st]
theorem VolumeErrors_walk {w : World} {s : Sl} {l : List CallV12} (hs : Sees w s 38 (l.flatMap CallV12.list)) (hl : ∀ o ∈ l, o.OK) :
    CallF Try.prog 7 #[s.v] w fun r w' => r = .bool true ∧ Ext w w' := by
  have fin : ∀ w', Ext w w' → (fun (r : Value) (w' : World) => r = .bool true ∧ Ext w w') (.bool true) w' := fun w' h => ⟨rfl, h⟩
  generalize (fun (r : Value) (w' : World) => r = Value.bool true ∧ Ext w w') = R at fin ⊢
  refine f7_ok _ s w ?_
  unfold f7
  have hlen : ∀ r ∈ l, r.list.length = 38 := fun r hr => CallV12.list_len (hl r hr)
  have hc := hs.count hlen (by decide)
  refine law12_speaks_spec fun w1 hx1 => ⟨_, rfl, fun h => (by cases h), fun _ => ?_⟩
  refine law12_great_spec (hs.ext hx1) hl fun w2 hx2 => ⟨_, rfl, fun _ => fin _ (hx1.trans hx2), fun hg => ?_⟩
  obtain ⟨h60, hsz⟩ := great12_small hg
  have hx12 := hx1.trans hx2
  have hs12 := hx12.size
  refine New_spec fun st rv w3 h3 hx3 hs3 hr3 => ⟨_, rfl, ?_⟩
  have hmod : VMod w w3 st rv [] := ⟨h3, hx12.trans hx3, fun k hk => by rcases hk with rfl | rfl | hk; omega; omega; cases hk⟩
  refine Lp.mk (fun q u => ∃ (i : Nat) (M : VMs), q = (some ⟨st, 0, none⟩, s, (s.len : Int), (i : Int)) ∧ i ≤ l.length ∧ VMod w u st rv M ∧ M.st.length ≤ i ∧ BL M.st i ∧ QL M.st) (fun q _ => s.len - q.2.2.2.toNat)
    ⟨0, [], rfl, by omega, hmod, by simp [VMs.st], fun p hp => (by cases hp), fun p hp => (by cases hp)⟩ ?_
  rintro _ u ⟨i, M, rfl, hi, hM, hMl, hBL, hQL⟩ ag hag
  show f7_b0 _ ag (some ⟨st, 0, none⟩) s s.len i u
  unfold f7_b0
  refine ⟨fun hlt => ?_, fun hge => fin _ hM.ext⟩
  have hil : i < l.length := by simp at hlt; omega
  obtain ⟨a, ha, hsp, hrow, hsz'⟩ := (hs.ext hM.ext).at hlen (by decide) i hil
  refine ⟨a, ha, by simp, by simp; omega, _, _, rfl, hsz', by simpa using hrow, ?_⟩
  have hoi := hl _ (List.getElem_mem hil)
  generalize l[i] = c at *
  refine New.mk fun b u1 hb hsu hblk hext => ?_
  refine StN.all hblk hsz' (CallV12.one c) (by decide) ?_
  intro u2 hblk2 hc2 hz2
  have hMsz := hM.ext.size
  have x2 : Ext u u2 := hext.step hc2 (fun _ _ h => h.elim) fun j hj e => by have e : j = b := e; omega
  have hM2 := hM.extend x2
  have hMlen : M.length ≤ i := by rw [← vst_len]; exact hMl
  refine All_spec hM2.rep (by omega) (fun p hp => by have := hBL p hp; omega) fun t0 L0 u3 hA0 hL0 hx3' hf0 => ⟨_, rfl, ?_⟩
  have hM3 := hM2.extend hx3'
  have hblk3 := hblk2.ext hx3'
  have hL0l := vimgs_len hL0
  obtain ⟨herr, hstep⟩ := vOp_step M.st c
  obtain ⟨hl', hBL'⟩ := hstep.len hMl hBL
  have hQ' := hstep.quota hQL
  -- behind the call
  have after : ∀ e, e = (vOp M.st c).2 → VPost u3 st rv M (vOp M.st c).1 fun u4 => f7_k1 R ag (some ⟨st, 0, none⟩) t0 e s s.len i u4 := by
    intro e he u4 M4 h4 hM4 c4 f4
    have hV4 := hM3.step h4 c4 f4
    have hA4 : AllAt u4 t0 L0 := hA0.ch c4 fun k hk hkk => by
      have h1 := hf0 k hk
      have h2 : k < u2.heap.size := hM2.rep.lt (.inr hkk)
      omega
    unfold f7_k1
    have hM4len : M4.length ≤ i + 1 := by rw [← vst_len, hM4]; exact hl'
    refine All_spec hV4.rep (by omega) (fun p hp => by rw [hM4] at hp; have := hBL' p hp; omega) fun t1 L1 u5 hA1 hL1 hx5 hf1 => ⟨_, rfl, ?_⟩
    have hV5 := hV4.extend hx5
    have hA5 := hA4.ext hx5
    have hL1l := vimgs_len hL1
    rw [hM4] at hL1
    have small1 : ∀ p ∈ L1, p.1.blocks.length < 1000000 := fun p hp => by have := img_small hBL' p.1 (hL1 ▸ List.mem_map.2 ⟨p, hp, rfl⟩); omega
    have loop : ∀ u6, Ext u5 u6 → f7_k2 R ag (some ⟨st, 0, none⟩) t0 t1 s s.len i false u6 := by
      intro u6 hx6
      unfold f7_k2
      refine ⟨fun h => (by cases h), fun _ => ?_⟩
      refine Lp.mk (fun q z => ∃ j : Nat, q = (some ⟨st, 0, none⟩, t0, s, (s.len : Int), (i : Int), t1, (t1.len : Int), (j : Int)) ∧ j ≤ L1.length ∧ Ext u6 z) (fun q _ => t1.len - q.2.2.2.2.2.2.2.toNat) ⟨0, rfl, by omega, Ch.refl _ _⟩ ?_
      rintro _ z ⟨j, rfl, hj, hz⟩ ag8 hag8
      show f7_b3 R ag ag8 (some ⟨st, 0, none⟩) t0 s s.len i t1 t1.len j z
      unfold f7_b3
      have hx5z := hx6.trans hz
      have hA1z := hA1.ext hx5z
      have hA0z := hA5.ext hx5z
      have ht1 := hA1z.see12.len
      refine ⟨fun hlt2 => ?_, fun hge2 => ?_⟩
      case refine_2 =>
        rw [show IntKind.i64.wrap ((i : Int) + 1) = ((i + 1 : Nat) : Int) by rw [wrap_i64e]; omega]
        exact hag _ _ ⟨i + 1, M4, rfl, by omega, hV5.extend hx5z, by rw [hM4]; exact hl', by rw [hM4]; exact hBL', by rw [hM4]; exact hQ'⟩ (by dsimp only; omega)
      have hjl : j < L1.length := by simp at hlt2; omega
      have hmem := List.getElem_mem hjl
      obtain ⟨v', hv', hxe⟩ := img_of_mem (M := (vOp M.st c).1) (x := L1[j].1) (hL1 ▸ List.mem_map.2 ⟨_, hmem, rfl⟩)
      obtain ⟨a2, ha2, hsp2, hrow2, hsz2⟩ := hA1z.see12.sees.at (fun _ _ => rfl) (by decide) j hjl
      refine ⟨a2, ha2, by simp, by simp; omega, _, _, rfl, hsz2, by simpa using hrow2, ?_⟩
      refine New.mk fun d z1 hd hsz1 hblkd hextd => ?_
      refine StN.all hblkd hsz2 (by intro x hx; exact rowI_one _ x (by simpa using hx)) (by decide) ?_
      intro z2 hblkd2 hcd2 hzd2
      have xz2 : Ext z z2 := hextd.step hcd2 (fun _ _ h => h.elim) fun j hj e => by have e : j = d := e; omega
      simp only [addr_add, Nat.zero_add]
      refine Ld.blk hblkd2 (x := L1[j].1.name) rfl ?_
      refine ref12_Find_spec (hA0z.see12.ext xz2) (by omega) fun z3 hx3'' => ⟨_, rfl, ?_⟩
      have hd3 := Ch.drew z3
      have xz3 := (xz2.trans hx3'').trans hd3
      have hbd := (hblkd2.ext hx3'').ext hd3
      have next : ∀ z', Ext z z' → f7_k4 R ag ag8 (some ⟨st, 0, none⟩) t0 s s.len i t1 t1.len j false z' := fun z' hx' => by
        unfold f7_k4
        refine ⟨fun h => (by cases h), fun _ => ?_⟩
        rw [show IntKind.i64.wrap ((j : Int) + 1) = ((j + 1 : Nat) : Int) by rw [wrap_i64e]; omega]
        exact hag8 _ _ ⟨j + 1, rfl, by omega, hz.trans hx'⟩ (by dsimp only; omega)
      refine Ld.blk hbd (x := L1[j].2) rfl (Ld.blk hbd (x := L1[j].1.quota) rfl ?_)
      have hA1z3 := hA1z.ext xz3
      have h32 := hA1z3.lens _ hmem
      have hcnt : L1[j].1.blocks.length = L1[j].2.len := (hA1z3.each _ hmem).sees.count (fun b hb => by simp [rowB, h32 b hb]) (by decide)
      have hq : (L1[j].1.blocks.length : Int) ≤ L1[j].1.quota := by
        rw [hxe, imgOf_len]
        exact hQ' _ (mget_mem hv')
      refine ⟨fun h => by simp at h; omega, fun _ => ?_⟩
      refine Ld.blk hbd (x := L1[j].1.frozen) rfl ⟨fun hf => ?_, fun hf => next _ xz3⟩
      rcases find_cases L0 L1[j].1.name with ⟨i2, hi2, hfi, hgi, hni⟩ | ⟨hfi, _⟩
      · rw [hfi]
        refine ⟨fun _ => ?_, fun h => by simp at h⟩
        refine LdN.all hbd rfl ?_
        rw [show IntKind.i64.wrap ((i2 : Int) + 1) = ((i2 + 1 : Nat) : Int) by rw [wrap_i64e]; omega]
        have hA0z3 := hA0z.ext xz3
        refine Cut.row hA0z3.see12.sees (fun _ _ => rfl) (by decide) hi2 fun s' hs' => ⟨rfl, ?_⟩
        refine New.mk fun d2 z5 hd2 hsz5 hblk5 hext5 => ?_
        obtain ⟨v0, hv0, hx0⟩ := img_of_mem (M := M.st) (x := L0[i2].1) (hL0 ▸ List.mem_map.2 ⟨_, List.getElem_mem hi2, rfl⟩)
        have hvv : v' = v0 := hstep.frozen (by rw [hni] at hv0; exact hv0) hv' (by
          have : L1[j].1.frozen = v'.frozen := by rw [hxe]; rfl
          rw [← this]; exact hf)
        have hsame : L1[j].1 = L0[i2].1 := by rw [hxe, hx0, hni, hvv]
        have g1 : VolsSee z5 ⟨some ⟨d2, 0, none⟩, 1, 1⟩ [L1[j]] := ⟨by
          have := Sees.ofBlk (n := 1) (size := 4) hblk5 rfl
          simpa using this, fun p hp => by
          simp only [List.mem_singleton] at hp; subst hp
          exact ((hA1z3.each _ hmem).ext hext5).sees, fun p hp => by
          simp only [List.mem_singleton] at hp; subst hp
          exact h32⟩
        have g2 : VolsSee z5 s' [L0[i2]] := ⟨by simpa using hs'.ext hext5, fun p hp => by
          simp only [List.mem_singleton] at hp; subst hp
          exact ((hA0z3.each _ (List.getElem_mem hi2)).ext hext5).sees, fun p hp => by
          simp only [List.mem_singleton] at hp; subst hp
          exact hA0z3.lens _ (List.getElem_mem hi2)⟩
        refine ref12_Same_spec g1 g2 (by simp [hsame]) (by show 1 < 1000000; decide) (fun p hp => by
          simp only [List.mem_singleton] at hp; subst hp
          exact small1 _ hmem) fun z6 hx6' => ⟨_, rfl, next _ ((xz3.trans hext5).trans hx6')⟩
      · rw [hfi]
        exact ⟨fun h => by simp at h, fun _ => next _ xz3⟩
    refine ⟨fun hne => ?_, fun _ => loop u5 (Ch.refl _ _)⟩
    have hne : e ≠ 0 := by simpa using hne
    have hsame := herr (he ▸ hne)
    refine ref12_Same_spec hA1.see12 hA5.see12 (by rw [hL1, hL0, hsame]) (by omega) small1 fun u6 hx6 => ⟨_, rfl, loop u6 hx6⟩
  have fld : ∀ {α : Type} {enc : α → Value} {i : Nat} {x : α} {K : α → Prop}, c.cells[i]? = some (enc x) → K x → Ld enc (some ((⟨b, 0, none⟩ : Addr).add i)) u3 K := fun hv k => by
    simp only [addr_add, Nat.zero_add]
    exact Ld.blk hblk3 hv k
  refine fld (x := c.what) rfl ⟨fun h0 => ?_, fun h0 => ?_⟩
  · have h0 : c.what = 0 := by simpa using h0
    have he : vOp M.st c = ((vPut M.st c.name c.number c.finger).1, (vPut M.st c.name c.number c.finger).2.2.2) := by unfold vOp; rw [if_pos h0]
    refine fld (x := c.name) rfl (fld (x := c.number) rfl ?_)
    simp only [addr_add, Nat.zero_add]
    refine LdN.blk (ds := (u8s c.finger).toArray) hblk3 (fun j v hj => c.fin j v (by simpa using hj)) (by simp [hoi.finger]) ?_
    have := after _ (by rw [he])
    rw [he] at this
    exact Put_spec hM3.rep c.name c.number hoi.finger fun w' M' g1 g2 g3 g4 => ⟨_, _, _, rfl, this w' M' g1 g2 g3 g4⟩
  have h0 : ¬ c.what = 0 := by simpa using h0
  refine ⟨fun h1 => ?_, fun h1 => ?_⟩
  · have h1 : c.what = 1 := by simpa using h1
    have he : vOp M.st c = ((vDrop M.st c.name c.number).1, (vDrop M.st c.name c.number).2.2.2) := by unfold vOp; rw [if_neg h0, if_pos h1]
    refine fld (x := c.name) rfl (fld (x := c.number) rfl ?_)
    have := after _ (by rw [he])
    rw [he] at this
    exact Drop_spec hM3.rep c.name c.number fun w' M' g1 g2 g3 g4 => ⟨_, _, _, rfl, this w' M' g1 g2 g3 g4⟩
  have h1 : ¬ c.what = 1 := by simpa using h1
  refine ⟨fun h2 => ?_, fun h2 => ?_⟩
  · have h2 : c.what = 2 := by simpa using h2
    have he : vOp M.st c = vCreate M.st c.name c.quota := by unfold vOp; rw [if_neg h0, if_neg h1, if_pos h2]
    refine fld (x := c.name) rfl (fld (x := c.quota) rfl ?_)
    have := after _ rfl
    rw [he] at this
    exact Create_spec hM3.rep c.name c.quota fun w' M' g1 g2 g3 g4 => ⟨_, rfl, this w' M' g1 g2 g3 g4⟩
  have h2 : ¬ c.what = 2 := by simpa using h2
  refine ⟨fun h3 => ?_, fun h3 => ?_⟩
  · have h3 : c.what = 3 := by simpa using h3
    have he : vOp M.st c = vCopy M.st c.name c.other c.quota c.frozen := by unfold vOp; rw [if_neg h0, if_neg h1, if_neg h2, if_pos h3]
    refine fld (x := c.name) rfl (fld (x := c.other) rfl (fld (x := c.quota) rfl (fld (x := c.frozen) rfl ?_)))
    have := after _ rfl
    rw [he] at this
    exact Copy_spec hM3.rep c.name c.other c.quota c.frozen fun w' M' g1 g2 g3 g4 => ⟨_, rfl, this w' M' g1 g2 g3 g4⟩
  have h3 : ¬ c.what = 3 := by simpa using h3
  have he : vOp M.st c = vDelete M.st c.name := by unfold vOp; rw [if_neg h0, if_neg h1, if_neg h2, if_neg h3]
  refine fld (x := c.name) rfl ?_
  have := after _ rfl
  rw [he] at this
  exact Delete_spec hM3.rep c.name fun w' M' g1 g2 g3 g4 => ⟨_, rfl, this w' M' g1 g2 g3 g4⟩
end Go.Proofs
