/- ModelQuiet: the plain laws and the walk. -/
import Derived.Test.YtnjilbgcflbghaaXF0
import Derived.Test.YtnjilbgcflbghaaXSame15
set_option linter.all false
set_option maxHeartbeats 4000000
set_option maxRecDepth 100000
namespace Go.Proofs
open Go Go.X
/-- All volumes hold at most n blocks. -/
def BL (M : St) (n : Nat) : Prop := ∀ p ∈ M, p.2.blocks.length ≤ n
theorem mdel_le {κ β : Type} [DecidableEq κ] (l : List (κ × β)) (k : κ) : (mdel l k).length ≤ l.length := List.length_filter_le _ _
theorem mset_le {κ β : Type} [DecidableEq κ] (l : List (κ × β)) (k : κ) (v : β) : (mset l k v).length ≤ l.length + 1 := by
  unfold mset
  split
  · simp
  · simp
theorem BL.mono {M : St} {n m : Nat} (h : BL M n) (hm : n ≤ m) : BL M m := fun p hp => Nat.le_trans (h p hp) hm
theorem BL.get {M : St} {n : Nat} (h : BL M n) {k : ByteArray} {v : VolV} (hg : mget M k = some v) : v.blocks.length ≤ n := h _ (mget_mem hg)
theorem BL.set {M : St} {n : Nat} (h : BL M n) {k : ByteArray} {v : VolV} (hv : v.blocks.length ≤ n + 1) : BL (setS M k v) (n + 1) := by
  intro p hp
  unfold setS at hp
  obtain ⟨q, hq, rfl⟩ := List.mem_map.1 hp
  split
  · exact hv
  · exact Nat.le_succ_of_le (h q hq)
theorem BL.add {M : St} {n : Nat} (h : BL M n) {k : ByteArray} {v : VolV} {c : Int} (hv : v.blocks.length ≤ n) : BL (addM M k v c).1 (n + 1) := by
  unfold addM
  dsimp only
  split
  · intro p hp
    rcases List.mem_append.1 hp with hp | hp
    · exact Nat.le_succ_of_le (h p hp)
    · simp only [List.mem_singleton] at hp; subst hp; exact Nat.le_succ_of_le hv
  · exact h.mono (Nat.le_succ n)
theorem doS_bl {M : St} {n : Nat} (h : BL M n) (o : OpV) : BL (doS M o).1 (n + 1) := by
  have h1 := h.mono (Nat.le_succ n)
  unfold doS
  split
  · exact h.add (Nat.zero_le _)
  split
  · split
    · intro p hp; exact h1 p (List.mem_filter.1 hp).1
    · exact h1
  split
  · unfold blkS
    split
    · exact h1
    split
    · exact h1
    · rename_i v hg
      have hv := h.get hg
      split
      · exact h1
      split
      · exact h.set (by have := mdel_le v.blocks o.number; show (mdel v.blocks o.number).length ≤ _; omega)
      split
      · exact h1
      · exact h.set (by have := mset_le v.blocks o.number o.block; show (mset v.blocks o.number o.block).length ≤ _; omega)
  split
  · refine h.add ?_
    unfold copyV
    split
    · exact Nat.zero_le _
    · rename_i v hg; show v.blocks.length ≤ n; exact h.get hg
  split
  · exact h1
  · exact h1
theorem addM_quiet {M : St} {k : ByteArray} {v : VolV} {c : Int} (h : (addM M k v c).2.1 ≠ 0) : (addM M k v c).1 = M := by
  have h : addS M k v c ≠ 0 := h
  unfold addM
  rw [if_neg h]
/-- What is answered with an error, or isn't of a changing kind, leaves all volumes. -/
theorem doS_quiet {M : St} {o : OpV} (h : (doS M o).2.1 ≠ 0 ∨ ¬(1 ≤ o.kind ∧ o.kind ≤ 7 ∧ o.kind ≠ 5)) : (doS M o).1 = M := by
  unfold doS at *
  split
  · rename_i h1
    rw [if_pos h1] at h
    exact addM_quiet (h.resolve_right fun h' => h' ⟨by omega, by omega, by omega⟩)
  rename_i h1
  rw [if_neg h1] at h
  split
  · rename_i h2
    rw [if_pos h2] at h
    have := h.resolve_right fun h' => h' ⟨by omega, by omega, by omega⟩
    split
    · rename_i h3; rw [if_pos h3] at this; exact absurd rfl this
    · rfl
  rename_i h2
  rw [if_neg h2] at h
  split
  · rename_i h3
    rw [if_pos h3] at h
    unfold blkS at *
    split
    · rfl
    rename_i h4
    rw [if_neg h4] at h
    split
    · rfl
    · rename_i v hg
      simp only [hg] at h
      split
      · rfl
      · rename_i h5
        rw [if_neg h5] at h
        split
        · rename_i h6
          rw [if_pos h6] at h
          rcases h with h | h
          · exact absurd rfl h
          · exact absurd ⟨by omega, by omega, by omega⟩ h
        · rename_i h6
          rw [if_neg h6] at h
          split
          · rfl
          · rename_i h7
            rw [if_neg h7] at h
            rcases h with h | h
            · exact absurd rfl h
            · exact absurd ⟨by omega, by omega, by omega⟩ h
  rename_i h3
  rw [if_neg h3] at h
  split
  · rename_i h4
    rw [if_pos h4] at h
    exact addM_quiet (h.resolve_right fun h' => h' ⟨by omega, by omega, by omega⟩)
  split <;> rfl
theorem doS_err {M : St} {o : OpV} (h : (doS M o).2.1 ≠ 0) : (doS M o).2.2 = (false, zeros48) ∧ o.kind ≠ 8 := by
  unfold doS at *
  split at h
  · rename_i h1; rw [if_pos h1]; exact ⟨rfl, by omega⟩
  rename_i h1; rw [if_neg h1]
  split at h
  · rename_i h2; rw [if_pos h2]
    split at h
    · exact absurd rfl h
    · rename_i h3; rw [if_neg h3]; exact ⟨rfl, by omega⟩
  rename_i h2; rw [if_neg h2]
  split at h
  · rename_i h3; rw [if_pos h3]
    refine ⟨?_, by omega⟩
    unfold blkS at *
    split at h
    · rename_i h4; rw [if_pos h4]
    rename_i h4; rw [if_neg h4]
    split at h
    · exact absurd rfl h
    · rename_i v hg
      split at h
      · exact absurd rfl h
      rename_i h5; rw [if_neg h5]
      split at h
      · exact absurd rfl h
      rename_i h6; rw [if_neg h6]
      split at h
      · rename_i h7; rw [if_pos h7]
      · exact absurd rfl h
  rename_i h3; rw [if_neg h3]
  split at h
  · rename_i h4; rw [if_pos h4]; exact ⟨rfl, by omega⟩
  rename_i h4; rw [if_neg h4]
  split at h
  · exact absurd rfl h
  · rename_i h5; rw [if_neg h5]; exact ⟨rfl, h5⟩

/-- What makes operations small. -/
theorem great_small {l : List OpV} (hg : great l = false) : l.length ≤ 80 ∧ ∀ q ∈ l, q.name.size ≤ 100 ∧ q.other.size ≤ 100 := by
  simp only [great, Bool.or_eq_false_iff] at hg
  refine ⟨by simpa using hg.1, fun q hq => ?_⟩
  have := List.any_eq_false.1 hg.2 q hq
  simpa using this
theorem st_len (M : Vols) : M.st.length = M.length := by simp [Vols.st]
/-- Images are looked at again, of a model that is the same. -/
theorem images_again {w0 u : World} {m rv : Nat} {M : Vols} {sl : Sl} {L : List (ImgV × Sl)} (hM : Mod w0 u m rv M) (hl : M.length < 1000000) (hb : BL M.st 999999) (hI : ImgsAt u sl L) (hL : L.map (·.1) = imgsOf M.st) {K : Bool → World → Prop} (k : ∀ u', Ext u u' → K true u') :
    CallF Try.prog 50 #[.pointer (some ⟨m, 0, none⟩)] u fun r u1 => As Sl.v r fun v => CallF Try.prog 52 #[Sl.v v, Sl.v sl] u1 fun r u2 => As Value.bool r fun v => K v u2 := by
  refine model_Images_spec hM.rep hl (fun p hp => by have := hb p hp; omega) fun s2 L2 u1 hI2 he2 hx _ => ⟨_, rfl, ?_⟩
  have hlen : L2.length = M.length := by
    have := congrArg List.length he2
    rw [List.length_map] at this
    rw [this]
    simp [imgsOf, (sortN_perm _).length_eq, Vols.st]
  refine ref15_Same_spec hI2.see (hI.ext hx).see (he2.trans hL.symm) (by omega) (fun p hp => ?_) fun u2 hx2 => ⟨_, rfl, k u2 (hx.trans hx2)⟩
  have h1 : p.1 ∈ imgsOf M.st := he2 ▸ List.mem_map.2 ⟨p, hp, rfl⟩
  obtain ⟨n, hn, e⟩ := List.mem_map.1 h1
  have h2 : (imgOf n ((mget M.st n).getD default)).blocks.length ≤ 999999 := by
    simp only [imgOf, List.length_map, (sortI_perm _).length_eq]
    cases hg : mget M.st n with
    | none => exact Nat.zero_le _
    | some v => exact hb.get hg
  rw [← e]; omega

theorem ModelQuiet_walk {w : World} {s : Sl} {l : List OpV} (hs : Sees w s 53 (l.flatMap OpV.list)) (hl : ∀ o ∈ l, o.OK) :
    CallF Try.prog 10 #[s.v] w fun r w' => r = .bool true ∧ Ext w w' := by
  have fin : ∀ w', Ext w w' → (fun (r : Value) (w' : World) => r = .bool true ∧ Ext w w') (.bool true) w' := fun w' h => ⟨rfl, h⟩
  generalize (fun (r : Value) (w' : World) => r = Value.bool true ∧ Ext w w') = R at fin ⊢
  refine sporranlaw15_ModelQuiet_ok _ s w ?_
  unfold sporranlaw15_ModelQuiet
  have hlen : ∀ r ∈ l, r.list.length = 53 := fun r hr => OpV.list_len (hl r hr)
  have hc := hs.count hlen (by decide)
  refine law15_speaks_spec.mono ?_
  rintro _ w2 ⟨rfl, hx2⟩
  refine ⟨_, rfl, fun h => (by cases h), fun _ => ?_⟩
  refine (law15_Great_spec (hs.ext hx2) hl).mono ?_
  rintro _ w3 ⟨rfl, hx3⟩
  have hx13 := hx2.trans hx3
  refine ⟨_, rfl, fun _ => fin _ hx13, fun hg => ?_⟩
  obtain ⟨h80, hsz⟩ := great_small hg
  refine model_New_spec.mono ?_
  rintro _ w6 ⟨m, rv, rfl, hm6, hx6, hmf, hrf⟩
  refine ⟨_, rfl, ?_⟩
  have hmod : Mod w w6 m rv [] := ⟨hm6, hx13.trans hx6, fun k hk => by
    have := hx13.size
    rcases hk with rfl | rfl | hk; omega; omega; cases hk⟩
  refine Lp.mk (fun q u => ∃ (i : Nat) (M : Vols), q = (some ⟨m, 0, none⟩, s, (s.len : Int), (i : Int)) ∧ i ≤ l.length ∧ Mod w u m rv M ∧ M.length ≤ i ∧ BL M.st i) (fun q _ => s.len - q.2.2.2.toNat)
    ⟨0, [], rfl, by omega, hmod, by simp, fun p hp => (by cases hp)⟩ ?_
  rintro _ u ⟨i, M, rfl, hi, hM, hMl, hBL⟩ ag hag
  show sporranlaw15_ModelQuiet_b0 _ ag (some ⟨m, 0, none⟩) s s.len i u
  unfold sporranlaw15_ModelQuiet_b0
  refine ⟨fun hlt => ?_, fun hge => fin _ hM.ext⟩
  have hil : i < l.length := by simp at hlt; omega
  obtain ⟨a, ha, hsp, hrow, hsz'⟩ := (hs.ext hM.ext).at hlen (by decide) i hil
  refine ⟨a, ha, by simp, by simp; omega, _, _, rfl, hsz', by simpa using hrow, ?_⟩
  refine New.mk fun b u1 hb hsu hblk hext => ?_
  have hM1 := hM.extend hext
  refine StN.all hblk hsz' (OpV.one l[i]) (by decide) ?_
  intro u2 hblk2 hc2 hz2
  have hM2 := hM1.other hc2 (Apart.new hM.rep (by omega)) (by have := hM.ext.size; omega)
  refine model_Images_spec hM2.rep (by omega) (fun p hp => by have := hBL p hp; omega) fun sl L u3 hI heL hx3' hfr => ⟨_, rfl, ?_⟩
  have hblk3 := hblk2.ext hx3'
  have hM3 := hM2.extend hx3'
  refine LdN.all hblk3 hsz' ?_
  have hoi := hl _ (List.getElem_mem hil)
  refine do_then (o := l[i]) hM3 hoi (hsz _ (List.getElem_mem hil)).1 (hsz _ (List.getElem_mem hil)).2 (by omega) ?_
  intro u4 M4 s4 ys4 hM4 hst hap hbk hch hl4 hown4 _ _ hy4
  refine ⟨_, rfl, ?_⟩
  have hapb : Apart b m rv M := Apart.new hM.rep (by omega)
  have hblk4 : Blk u4 b l[i].cells 67 := hbk b _ _ hapb hblk3
  have hI4 : ImgsAt u4 sl L := hI.ch hch fun k hk e => by
    have h1 := hfr k hk
    have h2 : k < u2.heap.size := hM2.rep.lt (by rcases e with e | e; exact .inr (.inl e); exact .inr (.inr e))
    omega
  refine New.mk fun a5 u5 ha5 hs5 hblk5 hx5 => ?_
  refine StN.all hblk5 (ans_size hl4) (ans_one rfl) (by rw [ans_zero]; exact ans_size zeros48_len) ?_
  intro u6 hblk6 hc6 hz6
  have hM6 := (hM4.extend hx5).other hc6 (Apart.new hM4.rep (by omega)) (by have := hM4.ext.size; omega)
  have hI6 : ImgsAt u6 sl L := (hI4.ext hx5).ch hc6 fun k hk e => by
    have e : k = a5 := e
    subst e
    have : k < u4.heap.size := by
      rcases hk with hk | ⟨p, hp, hk⟩
      · exact hI4.own.lt hk
      · exact (hI4.each p hp).lt hk
    omega
  have hblkO : Blk u6 b l[i].cells 67 := (hblk4.ext hx5).ch hc6 (by have := hblk4.lt; omega)
  have hM4l : M4.length ≤ i + 1 := by
    have h1 := doS_len M.st l[i]
    rw [← hst, st_len, st_len] at h1
    omega
  have hBL4 : BL M4.st (i + 1) := by rw [hst]; exact doS_bl hBL _
  -- the next round
  have next : ∀ u', Ext u6 u' → sporranlaw15_ModelQuiet_k1 R ag (some ⟨m, 0, none⟩) s s.len i false u' := fun u' hx' => by
    unfold sporranlaw15_ModelQuiet_k1
    refine ⟨fun h => (by cases h), fun _ => ?_⟩
    rw [show IntKind.i64.wrap ((i : Int) + 1) = ((i + 1 : Nat) : Int) by rw [wrap_i64e]; omega]
    exact hag _ _ ⟨i + 1, M4, rfl, by omega, hM6.extend hx', hM4l, hBL4⟩ (by dsimp only; omega)
  have same : M4.st = M.st → ∀ {K : Bool → World → Prop}, (∀ u', Ext u6 u' → K true u') → CallF Try.prog 50 #[.pointer (some ⟨m, 0, none⟩)] u6 fun r u1 => As Sl.v r fun v => CallF Try.prog 52 #[Sl.v v, Sl.v sl] u1 fun r u2 => As Value.bool r fun v => K v u2 := fun he K k =>
    images_again hM6 (by omega) (hBL4.mono (by omega)) hI6 (by rw [heL, he]) k
  simp only [addr_add, Nat.zero_add]
  refine Ld.blk hblk6 rfl ⟨fun hne => ?_, fun h0 => ?_⟩
  · -- an error
    have hne : (doS M.st l[i]).2.1 ≠ 0 := by simpa using hne
    obtain ⟨hans, hk8⟩ := doS_err hne
    obtain ⟨rfl, rfl⟩ := hy4 hk8
    refine same (hst.trans (doS_quiet (.inl hne))) fun u7 hx7 => ?_
    have hb7 := hblk6.ext hx7
    refine ⟨fun h => (by cases h), fun _ => Ld.blk hb7 rfl ⟨fun _ => ?_, fun h => absurd hne (by simpa using h)⟩⟩
    refine LdN.all hb7 (ans_size hl4) (Ld.blk hb7 rfl ⟨_, ans_fill0 _, ?_⟩)
    rw [show (doS M.st l[i]).2.2.1 = false by rw [hans], show (doS M.st l[i]).2.2.2 = zeros48 by rw [hans]]
    refine ref15_SameAnswer_spec (s := Sl.nil) (s' := Sl.nil) (ys := []) zeros48_len (Sees.nil _ _) (Sees.nil _ _) (by decide) fun u8 hx8 => ⟨_, rfl, next u8 (hx7.trans hx8)⟩
  · have h0 : (doS M.st l[i]).2.1 = 0 := by simpa using h0
    refine Ld.blk hblkO rfl ?_
    refine model_Changes_spec _ ⟨_, rfl, fun hq => ?_, fun _ => Ld.blk hblk6 rfl ⟨fun h => absurd h0 (by simpa using h), fun _ => next u6 (Ch.refl _ _)⟩⟩
    have hq : ¬(1 ≤ l[i].kind ∧ l[i].kind ≤ 7 ∧ l[i].kind ≠ 5) := by
      intro h
      rw [decide_eq_true h] at hq
      cases hq
    refine same (hst.trans (doS_quiet (.inr hq))) fun u7 hx7 => ?_
    exact ⟨fun h => (by cases h), fun _ => Ld.blk (hblk6.ext hx7) rfl ⟨fun h => absurd h0 (by simpa using h), fun _ => next u7 hx7⟩⟩
end Go.Proofs
