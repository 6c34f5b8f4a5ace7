/- ModelDoes: the walk. -/
import Derived.Test.YtnjilbgcflbghaaXF0
import Derived.Test.YtnjilbgcflbghaaXRefEv
set_option linter.all false
set_option maxHeartbeats 4000000
set_option maxRecDepth 100000
namespace Go.Proofs
open Go Go.X Go.Sort
theorem MRep.names {w : World} {m rv : Nat} {M : Vols} (h : MRep w m rv M) : (M.st.map (·.1)).Nodup := by
  obtain ⟨_, _, _, _, hnd, _⟩ := h.map
  have : M.vals.map (·.1) = M.st.map (·.1) := by simp [Vols.vals, Vols.st]
  rw [← this]; exact hnd
theorem MRep.nums {w : World} {m rv : Nat} {M : Vols} (h : MRep w m rv M) : ∀ p ∈ M.st, (p.2.blocks.map (·.1)).Nodup := by
  intro p hp
  obtain ⟨q, hq, rfl⟩ := List.mem_map.1 hp
  obtain ⟨_, _, _, _, hnd, _⟩ := (h.vols q hq).map
  have : q.2.2.2.vals.map (·.1) = q.2.2.2.blocks.map (·.1) := by simp [VolV.vals]
  rw [← this]; exact hnd
theorem MRep.b48 {w : World} {m rv : Nat} {M : Vols} (h : MRep w m rv M) : ∀ p ∈ M.st, ∀ b ∈ p.2.blocks, b.2.length = 48 := by
  intro p hp
  obtain ⟨q, hq, rfl⟩ := List.mem_map.1 hp
  exact (h.vols q hq).len
theorem mget_of_mem {κ β : Type} [DecidableEq κ] {l : List (κ × β)} (h : (l.map (·.1)).Nodup) {p : κ × β} (hp : p ∈ l) : mget l p.1 = some p.2 := by
  induction l with
  | nil => cases hp
  | cons q l ih =>
    rw [List.map_cons, List.nodup_cons] at h
    unfold mget
    rw [List.find?_cons]
    by_cases hq : q.1 = p.1
    · rcases List.mem_cons.1 hp with rfl | hp
      · simp
      · exact absurd (List.mem_map.2 ⟨p, hp, hq.symm⟩) h.1
    · simp only [hq, decide_false]
      rcases List.mem_cons.1 hp with rfl | hp
      · exact absurd rfl hq
      · exact ih h.2 hp
theorem allB_imgs {M : St} (hn : (M.map (·.1)).Nodup) (hb : ∀ p ∈ M, (p.2.blocks.map (·.1)).Nodup) (x : List Nat) : x ∈ allB (imgsOf M) ↔ x ∈ M.flatMap fun p => p.2.blocks.map (·.2) := by
  unfold allB imgsOf
  simp only [List.mem_flatMap, List.mem_map]
  constructor
  · rintro ⟨_, ⟨n, hn', rfl⟩, b, hb', rfl⟩
    have h1 : n ∈ M.map (·.1) := (sortN_perm _).mem_iff.1 hn'
    obtain ⟨v, hv⟩ := Option.isSome_iff_exists.1 ((mget_some_iff M n).2 h1)
    rw [hv] at hb'
    simp only [Option.getD_some, imgOf, List.mem_map] at hb'
    obtain ⟨k, hk, rfl⟩ := hb'
    have h2 : k ∈ v.blocks.map (·.1) := (sortI_perm _).mem_iff.1 hk
    obtain ⟨b, hbk⟩ := Option.isSome_iff_exists.1 ((mget_some_iff v.blocks k).2 h2)
    exact ⟨(n, v), mget_mem hv, (k, b), mget_mem hbk, by rw [hbk]; rfl⟩
  · rintro ⟨p, hp, b, hb', rfl⟩
    have h1 := mget_of_mem hn hp
    have h2 := mget_of_mem (hb p hp) hb'
    refine ⟨_, ⟨p.1, (sortN_perm _).mem_iff.2 (List.mem_map.2 ⟨p, hp, rfl⟩), rfl⟩, (b.1, b.2), ?_, rfl⟩
    rw [h1]
    simp only [Option.getD_some, imgOf, List.mem_map]
    exact ⟨b.1, (sortI_perm _).mem_iff.2 (List.mem_map.2 ⟨b, hb', rfl⟩), by rw [h2]; rfl⟩
theorem same_count {α : Type} [DecidableEq α] {a b : List α} (ha : a.Nodup) (hb : b.Nodup) (h : ∀ x, x ∈ a ↔ x ∈ b) : a.length = b.length := ((List.perm_ext_iff_of_nodup ha hb).2 h).length_eq
theorem imgs_rising {M : St} (hn : (M.map (·.1)).Nodup) : Rising (imgsOf M) := by
  unfold Rising
  rw [imgsOf_names]
  have h1 := sortN_pairwise (M.map (·.1))
  have h2 : (sortN (M.map (·.1))).Nodup := (sortN_perm _).nodup_iff.2 hn
  refine (h1.and h2).imp fun {a b} h => ?_
  cases hc : slt a b with
  | true => rfl
  | false => exact absurd (slt_eq hc h.1) h.2
theorem img_rise {M : St} (hb : ∀ p ∈ M, (p.2.blocks.map (·.1)).Nodup) : ∀ x ∈ imgsOf M, RiseB x.blocks := by
  intro x hx
  obtain ⟨n, hn, rfl⟩ := List.mem_map.1 hx
  have h1 : n ∈ M.map (·.1) := (sortN_perm _).mem_iff.1 hn
  obtain ⟨v, hv⟩ := Option.isSome_iff_exists.1 ((mget_some_iff M n).2 h1)
  rw [hv]
  unfold RiseB imgOf
  simp only [Option.getD_some, List.map_map]
  have e : ((fun y : Int × List Nat => y.1) ∘ fun k => (k, (mget v.blocks k).getD zeros48)) = id := rfl
  rw [e, List.map_id]
  have h2 := sortI_pairwise (v.blocks.map (·.1))
  have h3 : (sortI (v.blocks.map (·.1))).Nodup := (sortI_perm _).nodup_iff.2 (hb _ (mget_mem hv))
  refine (h2.and h3).imp fun {a b} h => ?_
  have h4 : ¬ b < a := by have := h.1; unfold ltInt at this; simpa using this
  have := h.2
  omega
theorem img_small {M : St} {n : Nat} (hb : BL M n) : ∀ x ∈ imgsOf M, x.blocks.length ≤ n := by
  intro x hx
  obtain ⟨k, hk, rfl⟩ := List.mem_map.1 hx
  rw [imgOf_len]
  cases hg : mget M k with
  | none => exact Nat.zero_le _
  | some v => exact hb.get hg

theorem ModelDoes_walk {w : World} {s : Sl} {l : List OpV} (hs : Sees w s 53 (l.flatMap OpV.list)) (hl : ∀ o ∈ l, o.OK) :
    CallF Try.prog 14 #[s.v] w fun r w' => r = .bool true ∧ Ext w w' := by
  have fin : ∀ w', Ext w w' → (fun (r : Value) (w' : World) => r = .bool true ∧ Ext w w') (.bool true) w' := fun w' h => ⟨rfl, h⟩
  generalize (fun (r : Value) (w' : World) => r = Value.bool true ∧ Ext w w') = R at fin ⊢
  refine f14_ok _ s w ?_
  unfold f14
  have hlen : ∀ r ∈ l, r.list.length = 53 := fun r hr => OpV.list_len (hl r hr)
  have hc := hs.count hlen (by decide)
  refine law15_speaks_spec.mono ?_
  rintro _ w2 ⟨rfl, hx2⟩
  refine ⟨_, rfl, fun h => (by cases h), fun _ => ?_⟩
  refine (law15_Great_spec (hs.ext hx2) hl).mono ?_
  rintro _ w3 ⟨rfl, hx3⟩
  have hx13 := hx2.trans hx3
  refine ⟨_, rfl, fun _ => fin _ hx13, fun hg => ?_⟩
  obtain ⟨h80, hsz⟩ := great_small hg
  refine model_New_spec.mono ?_
  rintro _ w6 ⟨m, rv, rfl, hm6, hx6, hmf, hrf⟩
  refine ⟨_, rfl, ?_⟩
  have hmod : Mod w w6 m rv [] := ⟨hm6, hx13.trans hx6, fun k hk => by
    have := hx13.size
    rcases hk with rfl | rfl | hk; omega; omega; cases hk⟩
  refine New.mk fun a7 w7 ha7 hs7 hb7 hx7 => ?_
  have hmod7 := hmod.extend hx7
  -- the images that the document tells lie apart from the model
  refine Lp.mk (fun q u => ∃ (i : Nat) (M : Vols) (sl : Sl) (L : List (ImgV × Sl)), q = (some ⟨m, 0, none⟩, sl, s, (s.len : Int), (i : Int)) ∧ i ≤ l.length ∧ Mod w u m rv M ∧ M.length ≤ i ∧ BL M.st i ∧ ImgsSee u sl L ∧ L.map (·.1) = imgsOf M.st ∧ (∀ b, ImgsAt.foot sl L b → Apart b m rv M ∧ b < u.heap.size)) (fun q _ => s.len - q.2.2.2.2.toNat)
    ⟨0, [], ⟨some ⟨a7, 0, none⟩, 0, 0⟩, [], rfl, by omega, hmod7, by simp, fun p hp => (by cases hp), ⟨(Own.empty hb7).sees, fun p hp => (by cases hp), fun p hp => (by cases hp)⟩, ?_, ?_⟩ ?_
  · simp [imgsOf, Vols.st, sortN]
  · rintro b (hb | ⟨p, hp, _⟩)
    · obtain ⟨ad, e1, e2⟩ := hb
      injection e1 with e1
      subst e1; subst e2
      exact ⟨Apart.new hmod.rep (by omega), hb7.lt⟩
    · cases hp
  rintro _ u ⟨i, M, sl, L, rfl, hi, hM, hMl, hBL, hsee, hLM, hap⟩ ag hag
  show f14_b0 _ ag (some ⟨m, 0, none⟩) sl s s.len i u
  unfold f14_b0
  refine ⟨fun hlt => ?_, fun hge => fin _ hM.ext⟩
  have hil : i < l.length := by simp at hlt; omega
  obtain ⟨a, ha, hsp, hrow, hsz'⟩ := (hs.ext hM.ext).at hlen (by decide) i hil
  refine ⟨a, ha, by simp, by simp; omega, _, _, rfl, hsz', by simpa using hrow, ?_⟩
  have hoi := hl _ (List.getElem_mem hil)
  obtain ⟨hn1, hn2⟩ := hsz _ (List.getElem_mem hil)
  have hLl := imgs_len hLM
  generalize l[i] = o at *
  refine New.mk fun b u1 hb hsu hblk hext => ?_
  have hM1 := hM.extend hext
  refine StN.all hblk hsz' (OpV.one o) (by decide) ?_
  intro u2 hblk2 hc2 hz2
  have hMsz := hM.ext.size
  have hM2 := hM1.other hc2 (Apart.new hM.rep (by omega)) (by omega)
  have hsee2 : ImgsSee u2 sl L := (hsee.ext hext).ch hc2 fun k hk e => by have e : k = b := e; have := (hap k hk).2; omega
  refine LdN.all hblk2 hsz' ?_
  -- the document's Do
  refine ref15_Do_spec ?_ hsee2 (fun k hk => by have := (hap k hk).2; omega) hoi (by omega) (by omega) (by rw [hLM]; exact imgs_rising hM.rep.names)
    (fun p hp => img_rise hM.rep.nums p.1 (hLM ▸ List.mem_map.2 ⟨p, hp, rfl⟩)) (by omega) (fun p hp => by have := img_small hBL p.1 (hLM ▸ List.mem_map.2 ⟨p, hp, rfl⟩); omega)
  intro s' L' u3 sn ys hsee3 hL' hx3' hf3 hsn hfn hys8 hysn hb48
  refine ⟨_, _, rfl, ?_⟩
  have hdo := refDo_eq M.st hM.rep.nums o
  rw [hLM] at hL' hb48 ⊢
  rw [hdo] at hL' hb48 ⊢
  dsimp only at hL' hb48 ⊢
  have hM3 := hM2.extend hx3'
  have hblk3 := hblk2.ext hx3'
  have hu23 := hx3'.size
  refine New.mk fun a4 u4 ha4 hs4 hb4 hx4 => ?_
  refine StN.all hb4 (ans_size hb48) (ans_one (sl_one _)) (by rw [ans_zero]; exact ans_size zeros48_len) ?_
  intro u5 hb5 hc5 hz5
  have apa4 : Apart a4 m rv M := Apart.new hM3.rep (by omega)
  have hM5 := (hM3.extend hx4).other hc5 apa4 (by have := hM3.ext.size; omega)
  have hx35 : Ext u3 u5 := hx4.step hc5 (fun _ _ h => h.elim) fun k hk e => by have e : k = a4 := e; omega
  have hblk5 := hblk3.ext hx35
  have hd5 := Ch.drew u5
  have hM6 := hM5.extend hd5
  have hblk6 := hblk5.ext hd5
  have hb6 := hb5.ext hd5
  refine LdN.all hblk6 hsz' ?_
  refine LdNH.all hb6 (ans_size hb48) ?_
  -- the model's Do
  refine do_then (o := o) hM6 hoi hn1 hn2 (by omega) ?_
  intro u7 M7 s7 ys7 hM7 hst hapM hbk hch hl7 hown7 hf7 hy8 hyn
  refine ⟨_, rfl, ?_⟩
  have hb7' := hbk a4 _ _ apa4 hb6
  refine ⟨Row.all hb7', ?_⟩
  have aparts : ∀ k, ImgsAt.foot s' L' k → Apart k m rv M ∧ k < (World.drew u5).heap.size := fun k hk => by
    obtain ⟨h1, h2⟩ := hf3 k hk
    have hsz5 := hx35.size
    have hd5' : (World.drew u5).heap.size = u5.heap.size := rfl
    refine ⟨?_, by omega⟩
    rcases h1 with h1 | h1
    · exact (hap k h1).1
    · exact Apart.new hM2.rep h1
  have notfoot : ∀ k, Apart k m rv M → ¬ (k = rv ∨ k ∈ M.foot) := fun k h e => e.elim h.2.1 h.2.2
  have hsee7 : ImgsSee u7 s' L' := ((hsee3.ext hx35).ext hd5).ch hch fun k hk => notfoot k (aparts k hk).1
  have hsn7 : Sees u7 sn 1 (ys.map Value.string) := ((hsn.ext hx35).ext hd5).ch hch fun k hk => notfoot k (Apart.new hM2.rep (hfn k hk).1)
  have hst7 : L'.map (·.1) = imgsOf M7.st := by rw [hL', hst]
  have hM7l : M7.length ≤ i + 1 := by
    have h1 := doS_len M.st o
    rw [← hst, st_len, st_len] at h1
    omega
  have hBL7 : BL M7.st (i + 1) := by rw [hst]; exact doS_bl hBL _
  have hyy : ys7 = ys := by
    by_cases h8 : o.kind = 8
    · rw [hys8 h8]
      obtain ⟨h1, h2⟩ := hy8 h8
      have : L.map (·.1.name) = (imgsOf M.st).map (·.name) := by rw [← hLM, List.map_map]; rfl
      rw [this, imgsOf_names]
      exact sortN_eq h1 h2
    · rw [(hyn h8).1, (hysn h8).1]
  subst hyy
  have hyl : ys7.length < 1000000 := by
    by_cases h8 : o.kind = 8
    · rw [hys8 h8, List.length_map]; omega
    · rw [(hyn h8).1]; decide
  refine ref15_SameAnswer_spec hl7 hown7.sees hsn7 hyl fun u8 hx8 => ⟨_, rfl, fun h => (by cases h), fun _ => ?_⟩
  have hM8 := hM7.extend hx8
  have hsee8 := hsee7.ext hx8
  have hblk8 := (hbk b _ _ (Apart.new hM.rep (by omega)) hblk6).ext hx8
  have hLl7 := imgs_len hst7
  have hB7 : ∀ p ∈ L', p.1.blocks.length ≤ i + 1 := fun p hp => img_small hBL7 p.1 (hst7 ▸ List.mem_map.2 ⟨p, hp, rfl⟩)
  refine model_Images_spec hM8.rep (by omega) (fun p hp => by have := hBL7 p hp; omega) fun sI LI u9 hI heI hx9 _ => ⟨_, rfl, ?_⟩
  refine ref15_Same_spec hI.see (hsee8.ext hx9) (heI.trans hst7.symm) (by have := imgs_len heI; omega) (fun p hp => by have := img_small hBL7 p.1 (heI ▸ List.mem_map.2 ⟨p, hp, rfl⟩); omega) fun u10 hx10 => ⟨_, rfl, fun h => (by cases h), fun _ => ?_⟩
  have hx810 := hx9.trans hx10
  have hM10 := hM8.extend hx810
  refine (model_Distinct_spec hM10.rep).mono ?_
  rintro _ u11 ⟨⟨ks, rfl, hks1, hks2⟩, hx11⟩
  refine ⟨_, rfl, ?_⟩
  have hx811 := hx810.trans hx11
  refine ref15_Blocks_spec (hsee8.ext hx811) (by omega) (fun p hp => by have := hB7 p hp; omega) fun so ks' u12 hso hks'1 hks'2 hx12 => ⟨_, rfl, ?_⟩
  have hcount : ks.length = ks'.length := same_count hks1 hks'1 fun x => by
    rw [hks2 x, hks'2 x, hst7, allB_imgs hM7.rep.names hM7.rep.nums]
    simp [blocksOf, Vols.st, List.flatMap_map]
  refine ⟨fun h => by simp at h; omega, fun _ => ?_⟩
  have hx812 := hx811.trans hx12
  have hblk12 := hblk8.ext hx812
  simp only [addr_add, Nat.zero_add]
  refine Ld.blk hblk12 (x := o.kind) rfl (LdH.blk hblk12 (x := o.kind) rfl ?_)
  refine model_Changes_spec _ ⟨_, rfl, ⟨hblk12.cell rfl, ?_⟩⟩
  refine ref15_Changes_spec _ ⟨_, rfl, fun h => by simp at h, fun _ => ?_⟩
  refine LdN.all hblk12 hsz' (LdNH.all hblk12 hsz' ?_)
  refine (model_Event_spec hoi (by omega) (by omega)).mono ?_
  rintro _ u13 ⟨se, rfl, hme⟩
  refine ⟨_, rfl, ⟨Row.all (hblk12.ext hme.2.1), ?_⟩⟩
  refine ref15_Event_spec hoi (by omega) (by omega) fun se2 u14 hme2 => ⟨_, rfl, ?_⟩
  have hel : se.len ≤ 1152921504606846976 := by
    have h1 := hme.2.2.1
    have h2 := evHead_len o (by omega) (by omega)
    have h3 : (event o).length ≤ (evHead o).length + 48 := by
      rw [event_head]
      split
      · simp [hoi.block]
      · simp
    omega
  refine (ref01_Same_spec ((hme.1.ext hme2.2.1).sees) hme2.1.sees hel).mono ?_
  rintro _ u15 ⟨rfl, hx15⟩
  refine ⟨_, rfl, ?_⟩
  unfold f14_k1
  refine ⟨fun h => by simp at h, fun _ => ?_⟩
  rw [show IntKind.i64.wrap ((i : Int) + 1) = ((i + 1 : Nat) : Int) by rw [wrap_i64e]; omega]
  have hx815 := ((hx812.trans hme.2.1).trans hme2.2.1).trans hx15
  refine hag _ _ ⟨i + 1, M7, s', L', rfl, by omega, hM8.extend hx815, hM7l, hBL7, hsee8.ext hx815, hst7, fun k hk => ?_⟩ (by dsimp only; omega)
  obtain ⟨h1, h2⟩ := aparts k hk
  have := hch.size
  have := hx8.size
  have := hx815.size
  exact ⟨hapM k h1 h2, by omega⟩
end Go.Proofs
