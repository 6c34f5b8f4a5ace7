/- ModelFrozen: the plain laws and the walk. -/
import Derived.Test.YtnjilbgcflbghaaXF0
import Derived.Test.YtnjilbgcflbghaaXQuiet
set_option linter.all false
set_option maxHeartbeats 4000000
set_option maxRecDepth 100000
namespace Go.Proofs
open Go Go.X
theorem mget_append {κ β : Type} [DecidableEq κ] {l l' : List (κ × β)} {k : κ} {v : β} (h : mget l k = some v) : mget (l ++ l') k = some v := by
  unfold mget at *
  rw [List.find?_append]
  cases hf : l.find? (fun p => decide (p.1 = k)) with
  | none => rw [hf] at h; cases h
  | some p => rw [hf] at h; simpa using h
theorem mget_append_new {κ β : Type} [DecidableEq κ] {l : List (κ × β)} {k : κ} {v : β} (h : (mget l k).isSome = false) : mget (l ++ [(k, v)]) k = some v := by
  unfold mget at *
  rw [List.find?_append]
  cases hf : l.find? (fun p => decide (p.1 = k)) with
  | none => simp
  | some p => rw [hf] at h; cases h
theorem mget_mdel_other {κ β : Type} [DecidableEq κ] (l : List (κ × β)) (k j : κ) (hj : k ≠ j) : mget (mdel l j) k = mget l k := by
  unfold mget mdel
  rw [List.find?_filter]
  congr 2
  funext p
  by_cases hk : p.1 = k
  · subst hk; simp [hj]
  · simp [hk]
theorem addM_keeps {M : St} {k name : ByteArray} {v x : VolV} {c : Int} (h : mget M k = some v) : mget (addM M name x c).1 k = some v := by
  unfold addM
  dsimp only
  split
  · exact mget_append h
  · exact h
/-- A frozen volume stays until it is deleted. -/
theorem doS_keeps {M : St} {o : OpV} {k : ByteArray} {v : VolV} (h : mget M k = some v) (hf : v.frozen = true) (hno : ¬(o.kind = 2 ∧ o.name = k)) : mget (doS M o).1 k = some v := by
  unfold doS
  split
  · exact addM_keeps h
  split
  · rename_i h2
    split
    · show mget (mdel M o.name) k = some v
      rw [mget_mdel_other _ _ _ (fun e => hno ⟨h2, e.symm⟩)]; exact h
    · exact h
  split
  · by_cases hn : o.name = k
    · subst hn
      have : (blkS M o).1 = M := by
        unfold blkS
        split
        · rfl
        · rename_i hz
          rw [h]
          dsimp only
          split
          · rfl
          · rename_i h5
            exfalso
            apply hz
            unfold findS
            rw [h]
            dsimp only
            split
            · decide
            · rw [if_pos ⟨hf, h5⟩]; decide
      rw [this]; exact h
    · unfold blkS
      split
      · exact h
      split
      · exact h
      · split
        · exact h
        split
        · show mget (setS M o.name _) k = some v
          rw [setS_eq, mget_map_other _ _ _ _ (fun e => hn e.symm)]; exact h
        split
        · exact h
        · show mget (setS M o.name _) k = some v
          rw [setS_eq, mget_map_other _ _ _ _ (fun e => hn e.symm)]; exact h
  split
  · exact addM_keeps h
  split
  · exact h
  · exact h
theorem snap_there {M : St} {o : OpV} (hk : o.kind = 6) (h : (doS M o).2.1 = 0) : ∃ v, mget (doS M o).1 o.other = some v ∧ v.frozen = true := by
  have e : doS M o = addM M o.other (copyV M o).1 (copyV M o).2 := by
    unfold doS
    rw [if_neg (by omega), if_neg (by omega), if_neg (by omega), if_pos (.inl hk)]
  rw [e] at h ⊢
  have h0 : addS M o.other (copyV M o).1 (copyV M o).2 = 0 := h
  have hn : (mget M o.other).isSome = false := by
    unfold addS at h0
    split at h0
    · cases h0
    split at h0
    · rename_i hc; exact absurd h0 hc
    split at h0
    · cases h0
    · rename_i hs; simpa using hs
  refine ⟨(copyV M o).1, ?_, ?_⟩
  · unfold addM
    rw [if_pos h0]
    exact mget_append_new hn
  · unfold copyV
    split <;> simp [hk]
/-- Where an image is found. -/
theorem find_img {L : List (ImgV × Sl)} {M : St} {k : ByteArray} {v : VolV} (hL : L.map (·.1) = imgsOf M) (hg : mget M k = some v) :
    ∃ i, ∃ hi : i < L.length, L.findIdx? (fun p => decide (p.1.name = k)) = some i ∧ L[i].1 = imgOf k v := by
  have hk : k ∈ sortN (M.map (·.1)) := (sortN_perm _).mem_iff.2 ((mget_some_iff M k).1 (by rw [hg]; rfl))
  have hm : imgOf k ((mget M k).getD default) ∈ L.map (·.1) := by rw [hL]; exact List.mem_map.2 ⟨k, hk, rfl⟩
  obtain ⟨p, hp, he⟩ := List.mem_map.1 hm
  cases hfi : L.findIdx? (fun p => decide (p.1.name = k)) with
  | none =>
    rw [List.findIdx?_eq_none_iff] at hfi
    have := hfi p hp
    rw [he] at this
    simp [imgOf] at this
  | some i =>
    obtain ⟨hi, h1, _⟩ := List.findIdx?_eq_some_iff_getElem.1 hfi
    refine ⟨i, hi, rfl, ?_⟩
    have h1 : L[i].1.name = k := by simpa using h1
    have h2 : L[i].1 ∈ imgsOf M := hL ▸ List.mem_map.2 ⟨L[i], List.getElem_mem hi, rfl⟩
    obtain ⟨n, _, hn⟩ := List.mem_map.1 h2
    have : n = k := by rw [← h1, ← hn]; rfl
    subst this
    rw [← hn, hg]; rfl
/-- One row is cut out. -/
theorem Cut.row {α : Type} {enc : α → List Value} {w : World} {s : Sl} {size : Nat} {l : List α} {i : Nat} (h : Sees w s size (l.flatMap enc)) (hlen : ∀ r ∈ l, (enc r).length = size) (h0 : 0 < size) (hi : i < l.length) {K : Sl → Prop}
    (k : ∀ s', Sees w s' size (enc l[i]) → K s') : Cut s size (some (i : Int)) (some ((i + 1 : Nat) : Int)) none K := by
  have hc := h.count hlen h0
  have hcap := h.2.1
  obtain ⟨a, ha, hsp, hrow, hsz⟩ := h.at hlen h0 i hi
  refine ⟨i, i + 1, s.cap, rfl, Nat.le_refl _, ⟨rfl, by omega⟩, rfl, by omega, k _ ?_⟩
  rw [if_neg (by omega), ha]
  refine ⟨?_, by show i + 1 - i ≤ s.cap - i; omega, fun h => (by cases h), fun b hb => ?_⟩
  · have := hlen _ (List.getElem_mem hi); rw [this]; simp
  · obtain rfl : a.add (i * size) = b := by simpa using hb
    refine ⟨?_, fun j v hj => hrow j v (by simpa using hj)⟩
    unfold Addr.add; split
    · exact hsp
    · rfl
def kept : ByteArray := ByteArray.mk #[107, 101, 112, 116, 45, 97, 115, 45, 105, 116, 45, 105, 115]
def snapV (n : ByteArray) : OpV := ⟨6, n, kept, 0, 0, zeros48⟩
theorem snap_ok (n : ByteArray) : (snapV n).OK := ⟨(by show isInt 6; decide), (by show isInt 0; decide), (by show isInt 0; decide), zeros48_len⟩
theorem snap_fill (n : ByteArray) : Instr.fill ((#[(0, 1), (1, 1), (2, 1), (3, 1), (4, 1), (5, 48)] : Array (Nat × Nat))[·]?) Try.z67 [(0, .int .i64 6), (1, .string n), (2, .string kept)] = some (snapV n).cells := rfl
theorem rowI_one (p : ImgV × Sl) : ∀ v ∈ (rowI p), v.oneCell' = true := by
  intro v hv
  simp only [rowI, List.mem_cons, List.not_mem_nil, or_false] at hv
  rcases hv with rfl | rfl | rfl | rfl <;> rfl
theorem imgs_len {L : List (ImgV × Sl)} {M : Vols} (h : L.map (·.1) = imgsOf M.st) : L.length = M.length := by
  have := congrArg List.length h
  rw [List.length_map] at this
  rw [this]
  simp [imgsOf, (sortN_perm _).length_eq, Vols.st]

theorem ModelFrozen_walk {w : World} {s0 s1 : Sl} {l0 l1 : List OpV} {nm : ByteArray} (hs0 : Sees w s0 53 (l0.flatMap OpV.list)) (hl0 : ∀ o ∈ l0, o.OK) (hs1 : Sees w s1 53 (l1.flatMap OpV.list)) (hl1 : ∀ o ∈ l1, o.OK) :
    CallF Try.prog 9 #[s0.v, s1.v, .string nm] w fun r w' => r = .bool true ∧ Ext w w' := by
  have fin : ∀ w', Ext w w' → (fun (r : Value) (w' : World) => r = .bool true ∧ Ext w w') (.bool true) w' := fun w' h => ⟨rfl, h⟩
  generalize (fun (r : Value) (w' : World) => r = Value.bool true ∧ Ext w w') = R at fin ⊢
  refine sporranlaw15_ModelFrozen_ok _ s0 s1 nm w ?_
  unfold sporranlaw15_ModelFrozen
  have hlen0 : ∀ r ∈ l0, r.list.length = 53 := fun r hr => OpV.list_len (hl0 r hr)
  have hc0 := hs0.count hlen0 (by decide)
  have hlen1 : ∀ r ∈ l1, r.list.length = 53 := fun r hr => OpV.list_len (hl1 r hr)
  have hc1 := hs1.count hlen1 (by decide)
  refine law15_speaks_spec.mono ?_
  rintro _ w2 ⟨rfl, hx2⟩
  refine ⟨_, rfl, fun h => (by cases h), fun _ => ?_⟩
  refine (law15_Great_spec (hs0.ext hx2) hl0).mono ?_
  rintro _ w3 ⟨rfl, hx3⟩
  have hx13 := hx2.trans hx3
  refine ⟨_, rfl, fun _ => ?_, fun hg0 => ?_⟩
  · unfold sporranlaw15_ModelFrozen_k0
    exact ⟨fun _ => fin _ hx13, fun h => (by cases h)⟩
  refine (law15_Great_spec (hs1.ext hx13) hl1).mono ?_
  rintro _ w4 ⟨rfl, hx4⟩
  have hx14 := hx13.trans hx4
  refine ⟨_, rfl, fun _ => ?_, fun hg1 => ?_⟩
  · unfold sporranlaw15_ModelFrozen_k0
    exact ⟨fun _ => fin _ hx14, fun h => (by cases h)⟩
  unfold sporranlaw15_ModelFrozen_k0
  refine ⟨fun _ => fin _ hx14, fun hnm => ?_⟩
  have hnm : nm.size ≤ 100 := by simp at hnm; omega
  obtain ⟨h80, hsz0⟩ := great_small hg0
  obtain ⟨h81, hsz1⟩ := great_small hg1
  refine model_New_spec.mono ?_
  rintro _ w6 ⟨m, rv, rfl, hm6, hx6, hmf, hrf⟩
  refine ⟨_, rfl, ?_⟩
  have hmod : Mod w w6 m rv [] := ⟨hm6, hx14.trans hx6, fun k hk => by
    have := hx14.size
    rcases hk with rfl | rfl | hk; omega; omega; cases hk⟩
  refine Lp.mk (fun q u => ∃ (i : Nat) (M : Vols), q = (s1, nm, some ⟨m, 0, none⟩, s0, (s0.len : Int), (i : Int)) ∧ i ≤ l0.length ∧ Mod w u m rv M ∧ M.length ≤ i ∧ BL M.st i) (fun q _ => s0.len - q.2.2.2.2.2.toNat)
    ⟨0, [], rfl, by omega, hmod, by simp, fun p hp => (by cases hp)⟩ ?_
  rintro _ u ⟨i, M, rfl, hi, hM, hMl, hBL⟩ ag hag
  show sporranlaw15_ModelFrozen_b1 _ ag s1 nm (some ⟨m, 0, none⟩) s0 s0.len i u
  unfold sporranlaw15_ModelFrozen_b1
  refine ⟨fun hlt => ?_, fun hge => ?_⟩
  · have hil : i < l0.length := by simp at hlt; omega
    obtain ⟨a, ha, hsp, hrow, hsz'⟩ := (hs0.ext hM.ext).at hlen0 (by decide) i hil
    refine ⟨a, ha, by simp, by simp; omega, _, _, rfl, hsz', by simpa using hrow, ?_⟩
    refine New.mk fun b u1 hb hsu hblk hext => ?_
    have hM1 := hM.extend hext
    refine StN.all hblk hsz' (OpV.one l0[i]) (by decide) ?_
    intro u2 hblk2 hc2 hz2
    have hM2 := hM1.other hc2 (Apart.new hM.rep (by omega)) (by have := hM.ext.size; omega)
    refine LdN.all hblk2 hsz' ?_
    refine do_then (o := l0[i]) hM2 (hl0 _ (List.getElem_mem hil)) (hsz0 _ (List.getElem_mem hil)).1 (hsz0 _ (List.getElem_mem hil)).2 (by omega) ?_
    intro u3 M3 s3 ys3 hM3 hst _ _ _ _ _ _ _ _
    refine ⟨_, rfl, ?_⟩
    rw [show IntKind.i64.wrap ((i : Int) + 1) = ((i + 1 : Nat) : Int) by rw [wrap_i64e]; omega]
    refine hag _ _ ⟨i + 1, M3, rfl, by omega, hM3, ?_, by rw [hst]; exact doS_bl hBL _⟩ (by dsimp only; omega)
    have h1 := doS_len M.st l0[i]
    rw [← hst, st_len, st_len] at h1
    omega
  -- the snapshot
  refine ⟨_, snap_fill nm, ?_⟩
  refine do_then (o := snapV nm) hM (snap_ok nm) hnm (by show kept.size ≤ 100; decide) (by omega) ?_
  intro u1 M1 sa ysa hM1 hst1 _ _ _ hl1' _ _ _ _
  refine ⟨_, rfl, (doS M.st (snapV nm)).2.1, rfl, fun _ => fin _ hM1.ext, fun h0 => ?_⟩
  have h0 : (doS M.st (snapV nm)).2.1 = 0 := by simpa using h0
  obtain ⟨v, hv, hvf⟩ := snap_there (o := snapV nm) rfl h0
  rw [← hst1] at hv
  have hv : mget M1.st kept = some v := hv
  have hM1l : M1.length ≤ 81 := by
    have h1 := doS_len M.st (snapV nm)
    rw [← hst1, st_len, st_len] at h1
    omega
  have hBL1 : BL M1.st 81 := by rw [hst1]; exact (doS_bl hBL _).mono (by omega)
  refine model_Images_spec hM1.rep (by omega) (fun p hp => by have := hBL1 p hp; omega) fun sl L u2 hI heL hx2' hfr => ⟨_, rfl, ?_⟩
  have hLl := imgs_len heL
  obtain ⟨i1, hi1, hfind1, hL1⟩ := find_img heL hv
  refine ref15_Find_spec hI.see (by omega) fun u3 hx3' => ⟨_, rfl, ?_⟩
  rw [show (L.findIdx? (fun p => decide (p.1.name = ByteArray.mk #[107, 101, 112, 116, 45, 97, 115, 45, 105, 116, 45, 105, 115]))) = some i1 from hfind1]
  dsimp only
  have hI3 := hI.ext hx3'
  have hsl := hI3.see.len
  obtain ⟨a, ha, hsp, hrow, hsz'⟩ := hI3.see.sees.at (fun _ _ => rfl) (by decide) i1 hi1
  refine ⟨a, ha, by simp, by simp; omega, _, _, rfl, hsz', by simpa using hrow, ?_⟩
  refine New.mk fun b u4 hb hsu hblk hext => ?_
  refine StN.all hblk hsz' (by intro x hx; exact rowI_one _ x (by simpa using hx)) (by decide) ?_
  intro u5 hblk5 hc5 hz5
  have hM3 := (hM1.extend hx2').extend hx3'
  have apb : Apart b m rv M1 := Apart.new hM3.rep (by omega)
  have hM5 := (hM3.extend hext).other hc5 apb (by have := hM3.ext.size; omega)
  have hmem1 := List.getElem_mem hi1
  have own1 := hI3.each _ hmem1
  have hL48 := hI3.lens _ hmem1
  generalize hpe : L[i1] = p at own1 hL48 hL1 hblk5 hmem1
  obtain ⟨pi, ps⟩ := p
  have hL1 : pi = imgOf kept v := hL1
  subst hL1
  have own5 : Own u5 ps 199 49 ((imgOf kept v).blocks.flatMap rowB) := (own1.ext hext).ch hc5 fun k hk e => by
    have e : k = b := e
    have := own1.lt hk; omega
  have apps : ∀ k, ps.blk k → Apart k m rv M1 := fun k hk => Apart.new hM1.rep (hfr k (.inr ⟨_, hmem1, hk⟩))
  have hvb : (imgOf kept v).blocks.length ≤ 81 := by
    simp only [imgOf, List.length_map, (sortI_perm _).length_eq]
    exact hBL1.get hv
  refine Lp.mk (fun q z => ∃ (j : Nat) (M : Vols), q = (some ⟨m, 0, none⟩, some ⟨b, 0, none⟩, s1, (s1.len : Int), (j : Int)) ∧ j ≤ l1.length ∧ Mod w z m rv M ∧ M.length ≤ 81 + j ∧ BL M.st (81 + j) ∧ mget M.st kept = some v ∧
      Blk z b (rowI (imgOf kept v, ps)).toArray 104 ∧ Own z ps 199 49 ((imgOf kept v).blocks.flatMap rowB) ∧ Apart b m rv M ∧ (∀ k, ps.blk k → Apart k m rv M)) (fun q _ => s1.len - q.2.2.2.2.toNat)
    ⟨0, M1, rfl, by omega, hM5, by omega, hBL1, hv, hblk5, own5, apb, apps⟩ ?_
  rintro _ z ⟨j, M', rfl, hj, hM', hMl', hBL', hv', hblk', own', apb', apps'⟩ ag2 hag2
  show sporranlaw15_ModelFrozen_b2 _ ag ag2 (some ⟨m, 0, none⟩) (some ⟨b, 0, none⟩) s1 s1.len j z
  unfold sporranlaw15_ModelFrozen_b2
  refine ⟨fun hlt2 => ?_, fun hge2 => ?_⟩
  · have hjl : j < l1.length := by simp at hlt2; omega
    obtain ⟨a2, ha2, hsp2, hrow2, hsz2⟩ := (hs1.ext hM'.ext).at hlen1 (by decide) j hjl
    refine ⟨a2, ha2, by simp, by simp; omega, _, _, rfl, hsz2, by simpa using hrow2, ?_⟩
    refine New.mk fun c z1 hc hsz1' hblkc hextc => ?_
    refine StN.all hblkc hsz2 (OpV.one l1[j]) (by decide) ?_
    intro z2 hblk2 hc2 hz2
    have hzlt := hM'.ext.size
    have hM2 := (hM'.extend hextc).other hc2 (Apart.new hM'.rep (by omega)) (by omega)
    have hblkb2 := (hblk'.ext hextc).ch hc2 (by have := hblk'.lt; omega)
    have own2 : Own z2 ps 199 49 ((imgOf kept v).blocks.flatMap rowB) := (own'.ext hextc).ch hc2 fun k hk e => by
      have e : k = c := e
      have := own'.lt hk; omega
    have next : ∀ z' M2, Mod w z' m rv M2 → M2.length ≤ 81 + j + 1 → BL M2.st (81 + j + 1) → mget M2.st kept = some v → Blk z' b (rowI (imgOf kept v, ps)).toArray 104 → Own z' ps 199 49 ((imgOf kept v).blocks.flatMap rowB) → Apart b m rv M2 → (∀ k, ps.blk k → Apart k m rv M2) →
        sporranlaw15_ModelFrozen_k3 R ag ag2 (some ⟨m, 0, none⟩) (some ⟨b, 0, none⟩) s1 s1.len j z' := fun z' M2 g1 g2 g3 g4 g5 g6 g7 g8 => by
      unfold sporranlaw15_ModelFrozen_k3
      rw [show IntKind.i64.wrap ((j : Int) + 1) = ((j + 1 : Nat) : Int) by rw [wrap_i64e]; omega]
      exact hag2 _ _ ⟨j + 1, M2, rfl, by omega, g1, by omega, g3.mono (by omega), g4, g5, g6, g7, g8⟩ (by dsimp only; omega)
    have doit : ¬(l1[j].kind = 2 ∧ l1[j].name = kept) → sporranlaw15_ModelFrozen_k4 R ag ag2 (some ⟨m, 0, none⟩) (some ⟨b, 0, none⟩) (some ⟨c, 0, none⟩) s1 s1.len j false z2 := fun hno => by
      unfold sporranlaw15_ModelFrozen_k4
      refine ⟨fun h => (by cases h), fun _ => ?_⟩
      refine LdN.all hblk2 hsz2 ?_
      refine do_then (o := l1[j]) hM2 (hl1 _ (List.getElem_mem hjl)) (hsz1 _ (List.getElem_mem hjl)).1 (hsz1 _ (List.getElem_mem hjl)).2 (by omega) ?_
      intro z3 M3 s3 ys3 hM3 hst3 hap3 hbk3 hch3 _ _ _ _ _
      refine ⟨_, rfl, ?_⟩
      refine next z3 M3 hM3 ?_ ?_ ?_ (hbk3 b _ _ apb' hblkb2) ?_ (hap3 b apb' hblkb2.lt) (fun k hk => hap3 k (apps' k hk) (own2.lt hk))
      · have h1 := doS_len M'.st l1[j]
        rw [← hst3, st_len, st_len] at h1
        omega
      · rw [hst3]; exact doS_bl hBL' _
      · rw [hst3]; exact doS_keeps hv' hvf hno
      · exact own2.ch hch3 fun k hk e => by
          obtain ⟨_, q2, q3⟩ := apps' k hk
          rcases e with e | e
          · exact q2 e
          · exact q3 e
    simp only [addr_add, Nat.zero_add]
    refine Ld.blk hblk2 rfl ⟨fun hk => ?_, fun hk => ?_⟩
    · have hk : l1[j].kind = 2 := by simpa using hk
      refine Ld.blk hblk2 (x := l1[j].name) rfl ?_
      rw [seq_eq]
      by_cases hn : l1[j].name = kept
      · rw [show decide (l1[j].name = ByteArray.mk #[107, 101, 112, 116, 45, 97, 115, 45, 105, 116, 45, 105, 115]) = true from decide_eq_true hn]
        unfold sporranlaw15_ModelFrozen_k4
        exact ⟨fun _ => next z2 M' hM2 (by omega) (hBL'.mono (by omega)) hv' hblkb2 own2 apb' apps', fun h => (by cases h)⟩
      · rw [show decide (l1[j].name = ByteArray.mk #[107, 101, 112, 116, 45, 97, 115, 45, 105, 116, 45, 105, 115]) = false from decide_eq_false hn]
        exact doit fun h => hn h.2
    · have hk : ¬ l1[j].kind = 2 := by simpa using hk
      exact doit fun h => hk h.1
  · -- the end
    refine model_Images_spec hM'.rep (by omega) (fun p hp => by have := hBL' p hp; omega) fun sl2 L2 z1 hI2 heL2 hxz1 hfr2 => ⟨_, rfl, ?_⟩
    have hLl2 := imgs_len heL2
    obtain ⟨i2, hi2, hfind2, hL2⟩ := find_img heL2 hv'
    refine ref15_Find_spec hI2.see (by omega) fun z2 hxz2 => ⟨_, rfl, ?_⟩
    rw [show (L2.findIdx? (fun p => decide (p.1.name = ByteArray.mk #[107, 101, 112, 116, 45, 97, 115, 45, 105, 116, 45, 105, 115]))) = some i2 from hfind2]
    dsimp only
    refine ⟨fun _ => ?_, fun h => (by simp at h)⟩
    refine ⟨_, rfl, ?_⟩
    simp only [addr_add, Nat.zero_add]
    have hxd := Ch.drew z2
    have hx12 := (hxz1.trans hxz2).trans hxd
    have hbz := hblk'.ext hx12
    refine Ld.blk hbz (x := true) (by rw [← hvf]; rfl) ⟨fun _ => ?_, fun h => (by cases h)⟩
    rw [show IntKind.i64.wrap ((i2 : Int) + 1) = ((i2 + 1 : Nat) : Int) by rw [wrap_i64e]; omega]
    have hI3 := (hI2.ext hxz2).ext hxd
    refine Cut.row hI3.see.sees (fun _ _ => rfl) (by decide) hi2 fun s' hs' => ?_
    refine LdN.all hbz rfl ⟨rfl, ?_⟩
    refine New.mk fun d z4 hd hsz4 hblkd hextd => ?_
    have g1 : ImgsSee z4 s' [L2[i2]] := ⟨by simpa using hs'.ext hextd, fun p hp => by
      simp only [List.mem_singleton] at hp; subst hp
      exact ((hI3.each _ (List.getElem_mem hi2)).ext hextd).sees, fun p hp => by
      simp only [List.mem_singleton] at hp; subst hp
      exact hI3.lens _ (List.getElem_mem hi2)⟩
    have g2 : ImgsSee z4 ⟨some ⟨d, 0, none⟩, 1, 1⟩ [(imgOf kept v, ps)] := ⟨by
      have := Sees.ofBlk (n := 1) (size := 4) hblkd rfl
      simpa using this, fun p hp => by
      simp only [List.mem_singleton] at hp; subst hp
      exact ((own'.ext hx12).ext hextd).sees, fun p hp => by
      simp only [List.mem_singleton] at hp; subst hp
      exact hL48⟩
    refine ref15_Same_spec g1 g2 (by simp [hL2]) (by show 1 < 1000000; decide) (fun p hp => ?_) fun z5 hx5 => ⟨_, rfl, fin _ (((hM'.ext.trans hx12).trans hextd).trans hx5)⟩
    simp only [List.mem_singleton] at hp; subst hp
    rw [hL2]; omega
end Go.Proofs
