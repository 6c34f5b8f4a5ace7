/- volume: All. -/
import Derived.Test.YtnjilbgcflbghaaXF0
import Derived.Test.YtnjilbgcflbghaaXVol3
import Derived.Test.YtnjilbgcflbghaaXKeysVolume
import Derived.Test.YtnjilbgcflbghaaXKeysDigest
import Derived.Test.YtnjilbgcflbghaaXSortsstring
import Derived.Test.YtnjilbgcflbghaaXSortsint
set_option linter.all false
set_option maxHeartbeats 4000000
set_option maxRecDepth 100000
namespace Go.Proofs
open Go Go.X Go.Sort
/-- All volumes in memory. -/
structure AllAt (w : World) (s : Sl) (L : List (ImgV × Sl)) : Prop where
  own : Own w s 93 4 (L.flatMap rowI)
  each : ∀ p ∈ L, Own w p.2 98 33 (p.1.blocks.flatMap rowB)
  lens : ∀ p ∈ L, ∀ b ∈ p.1.blocks, b.2.length = 32
def VFoot (s : Sl) (L : List (ImgV × Sl)) (k : Nat) : Prop := s.blk k ∨ ∃ p ∈ L, p.2.blk k
theorem AllAt.ch {S : Nat → Prop} {w w' : World} {s : Sl} {L : List (ImgV × Sl)} (h : AllAt w s L) (hc : Ch S w w') (hs : ∀ k, VFoot s L k → ¬ S k) : AllAt w' s L :=
  ⟨h.own.ch hc fun k hk => hs k (.inl hk), fun p hp => (h.each p hp).ch hc fun k hk => hs k (.inr ⟨p, hp, hk⟩), h.lens⟩
theorem AllAt.ext {w w' : World} {s : Sl} {L : List (ImgV × Sl)} (h : AllAt w s L) (hc : Ext w w') : AllAt w' s L := h.ch hc fun _ _ => id
theorem rowB_len32 {l : List (Int × List Nat)} (h : ∀ b ∈ l, b.2.length = 32) : (l.flatMap rowB).length = l.length * 33 := flatMap_len l fun b hb => by simp [rowB, h b hb]
theorem cell_fill (n : Int) (b : List Nat) (hb : b.length = 32) : Instr.fill ((#[(0, 1), (1, 32)] : Array (Nat × Nat))[·]?) Try.z98 [(0, .int .i64 n), (1, .agg (u8s b).toArray)] = some (rowB (n, b)).toArray := by
  have e0 : Try.z98 = (Value.int .i64 0 :: u8s zeros32).toArray := rfl
  rw [e0]
  refine (fill_step (cells := (Value.int .i64 0 :: u8s zeros32).toArray) (off := 0) (size := 1) [] [.int .i64 0] (u8s zeros32) rfl rfl rfl rfl rfl).trans ?_
  refine (fill_step (off := 1) (size := 32) [.int .i64 n] (u8s zeros32) [] rfl (by simp [Value.cells]) rfl rfl (by simpa [Value.cells] using hb)).trans ?_
  simp [Instr.fill, rowB, Value.cells]
theorem vol_fillI (nm : ByteArray) (q : Int) (f : Bool) : Instr.fill ((#[(0, 1), (1, 1), (2, 1), (3, 1)] : Array (Nat × Nat))[·]?) #[.string (ByteArray.mk #[]), .int .i64 0, .bool false, Sl.nil.v] [(0, .string nm), (1, .int .i64 q), (2, .bool f)] = some #[.string nm, .int .i64 q, .bool f, Sl.nil.v] := rfl
theorem volC_one (x : Nat × VolV) : ∀ v ∈ volC x, v.oneCell' = true := by simp [volC, Value.oneCell']
theorem All_spec {w : World} {s rv : Nat} {M : VMs} (hm : VRep w s rv M) (hM : M.length < 1000000) (hB : ∀ p ∈ M.st, p.2.blocks.length < 1000000) {R : Value → World → Prop}
    (k : ∀ (t : Sl) (L : List (ImgV × Sl)) w', AllAt w' t L → L.map (·.1) = imgsOf M.st → Ext w w' → (∀ k, VFoot t L k → w.heap.size ≤ k) → R t.v w') :
    CallF Try.prog 41 #[.pointer (some ⟨s, 0, none⟩)] w R := by
  refine f41_ok R (some ⟨s, 0, none⟩) w ?_
  unfold f41
  refine ⟨_, rfl, Ld.blk hm.top rfl ?_⟩
  refine keys_Volume hm.map (fun p hp => by obtain ⟨q, _, rfl⟩ := List.mem_map.1 hp; exact ⟨_, rfl⟩) _ fun fv w1 hseq hx1 => ?_
  have hl : M.vals.length = M.length := by simp [VMs.vals]
  refine sorted_string hseq (by omega) (fun xs hxs => by rw [hxs.length_eq]; simp) _ fun t xs ys w2 hG hperm hsort hown hx2 hfr => ⟨_, rfl, ?_⟩
  have hkeys : M.vals.map (·.1) = M.st.map (·.1) := by simp [VMs.vals, VMs.st]
  have hys : ys = sortN (M.st.map (·.1)) := sortN_eq ((hperm.trans hG).trans (by rw [hkeys])) hsort
  have hx12 := hx1.trans hx2
  have hm2 := hm.ext hx12
  have hyl : ys.length = t.len := by have := hown.len; simpa using this
  have hyM : ys.length = M.length := by rw [(hperm.trans hG).length_eq]; simp [VMs.vals]
  have hmem : ∀ n ∈ ys, ∃ r v, mget M n = some (r, v) := fun n hn => by
    have h1 : n ∈ M.vals.map (·.1) := (hperm.trans hG).mem_iff.1 hn
    have h2 : n ∈ M.map (·.1) := by simpa [VMs.vals] using h1
    have h3 := (mget_some_iff M n).2 h2
    obtain ⟨⟨r, v⟩, h4⟩ := Option.isSome_iff_exists.1 h3
    exact ⟨r, v, h4⟩
  have hsz12 := hx12.size
  have hsz1 := hx1.size
  refine Lp.mk (fun q u => ∃ (i : Nat) (out : Sl) (L : List (ImgV × Sl)), q = (some ⟨s, 0, none⟩, out, t, (t.len : Int), (i : Int)) ∧ i ≤ ys.length ∧ Ext w2 u ∧ AllAt u out L ∧ L.map (·.1) = (ys.take i).map (fun n => imgOf n ((mget M.st n).getD default)) ∧
      (∀ j, VFoot out L j → w2.heap.size ≤ j) ∧ (∀ p ∈ L, ∀ j, p.2.blk j → ¬ out.blk j)) (fun q _ => t.len - q.2.2.2.2.toNat)
    ⟨0, Sl.nil, [], rfl, by omega, Ch.refl _ _, ⟨Own.nil _ _ _, fun p hp => (by cases hp), fun p hp => (by cases hp)⟩, rfl, fun j hj => ?_, fun p hp => (by cases hp)⟩ ?_
  · rcases hj with ⟨_, e, _⟩ | ⟨p, hp, _⟩
    · cases e
    · cases hp
  rintro _ u ⟨i, out, L, rfl, hi, hxu, hA, hLe, hft, hap⟩ ag hag
  show f41_b0 R ag (some ⟨s, 0, none⟩) out t t.len i u
  unfold f41_b0
  have hLl : L.length = i := by have := congrArg List.length hLe; simpa [hi] using this
  refine ⟨fun hlt => ?_, fun hge => ?_⟩
  case refine_2 =>
    have : i = ys.length := by simp at hge; omega
    subst this
    refine k out L u hA ?_ (hx12.trans hxu) fun j hj => by have := hft j hj; omega
    rw [hLe, List.take_length, hys]; rfl
  have hil : i < ys.length := by simp at hlt; omega
  have hmu := hm2.ext hxu
  refine at_own (hown.ext hxu) hil ?_
  refine ⟨_, rfl, Ld.blk hmu.top rfl ?_⟩
  obtain ⟨vr, v, hg⟩ := hmem _ (List.getElem_mem hil)
  obtain ⟨c, hcs, hco, hc1, _, _, hlk⟩ := vol_look hmu ys[i]
  have hc1 := hc1 _ hg
  subst hc1
  refine ⟨_, u, hlk, ?_⟩
  have hgst : mget M.st ys[i] = some v := by rw [VMs.mget_st, hg]; rfl
  have hgm := mget_mem hg
  have hva := hmu.vols _ hgm
  have hv32 := hm.len _ hgm
  simp only at hva hv32
  refine New.mk fun x3 w3 hx3 hs3 hblk3 hxx3 => ?_
  refine StN.all hblk3 hcs hco rfl ?_
  intro w4 hblk4 hc4 hz4
  refine Ld.blk hblk4 (x := v.quota) rfl (Ld.blk hblk4 (x := v.frozen) rfl ⟨_, vol_fillI _ _ _, ?_⟩)
  refine New.mk fun x6 w5 hx6 hs5 hblk5 hx5 => ?_
  refine StN.all hblk5 rfl (by simp [Value.oneCell', Sl.v]) rfl ?_
  intro w6 hblk6 hc6 hz6
  have hx24 : Ext u w4 := hxx3.step hc4 (fun _ _ h => h.elim) (fun j hj e => by have e : j = x3 := e; omega)
  have hx46 : Ext w4 w6 := hx5.step hc6 (fun _ _ h => h.elim) (fun j hj e => by have e : j = x6 := e; omega)
  have hx26 := hx24.trans hx46
  have hv6 := hva.ext hx26
  have hb36 := hblk4.ext hx46
  refine Ld.blk hb36 (x := some vr) rfl ?_
  have hbl : v.blocks.length < 1000000 := hB _ (mget_mem hgst)
  have hvl : v.vals.length = v.blocks.length := by simp [VolV.vals]
  refine keys_Digest hv6 (fun p hp => by obtain ⟨q, _, rfl⟩ := List.mem_map.1 hp; exact ⟨_, rfl⟩) _ fun fv2 w7 hseq2 hx7 => ?_
  refine sorted_int hseq2 (by omega) (fun xs hxs => by rw [hxs.length_eq]; simp) _ fun t2 xs2 ns w8 hG2 hperm2 hsort2 hown2 hx8 hfr2 => ⟨_, rfl, ?_⟩
  have hkeys2 : v.vals.map (·.1) = v.blocks.map (·.1) := by simp [VolV.vals]
  have hns : ns = sortI (v.blocks.map (·.1)) := sortI_eq ((hperm2.trans hG2).trans (by rw [hkeys2])) hsort2
  have hnl : ns.length = t2.len := by have := hown2.len; simpa using this
  have hnM : ns.length = v.blocks.length := by rw [(hperm2.trans hG2).length_eq]; simp [VolV.vals]
  have hnin : ∀ n ∈ ns, ∃ b, mget v.blocks n = some b := fun n hn => by
    have h1 : n ∈ v.blocks.map (·.1) := by rw [hns] at hn; exact (sortI_perm _).mem_iff.1 hn
    exact Option.isSome_iff_exists.1 ((mget_some_iff v.blocks n).2 h1)
  have hx68 := hx7.trans hx8
  have hx28 := hx26.trans hx68
  have hv8 := hv6.ext hx68
  have hblk8 := hblk6.ext hx68
  have hb38 := hb36.ext hx68
  have hA8 := hA.ext hx28
  have hx6lt : x6 < w8.heap.size := hblk8.lt
  have hx3lt : x3 < w8.heap.size := hb38.lt
  have hz24 := hx24.size
  have hu6 : u.heap.size ≤ x6 := by omega
  have hsz68 := hx68.size
  have hsz28 := hx28.size
  have hszu := hxu.size
  have hvrlt := hva.lt
  refine Lp.mk (fun q z => ∃ (j : Nat) (sl : Sl), q = (some ⟨s, 0, none⟩, out, some ⟨x3, 0, none⟩, some ⟨x6, 0, none⟩, t, (t.len : Int), (i : Int), t2, (t2.len : Int), (j : Int)) ∧ j ≤ ns.length ∧ Ch (· = x6) w8 z ∧
      Blk z x6 #[.string ys[i], .int .i64 v.quota, .bool v.frozen, sl.v] 93 ∧ Own z sl 98 33 (((ns.take j).map fun n => (n, (mget v.blocks n).getD zeros48)).flatMap rowB) ∧ (∀ b, sl.blk b → w8.heap.size ≤ b)) (fun q _ => t2.len - q.2.2.2.2.2.2.2.2.2.toNat)
    ⟨0, Sl.nil, rfl, by omega, Ch.refl _ _, hblk8, by simpa using Own.nil _ _ _, fun b ⟨_, e, _⟩ => (by cases e)⟩ ?_
  rintro _ z ⟨j, sl, rfl, hj, hcz, hbz, hoz, hfz⟩ ag3 hag3
  show f41_b1 R ag ag3 (some ⟨s, 0, none⟩) out (some ⟨x3, 0, none⟩) (some ⟨x6, 0, none⟩) t t.len i t2 t2.len j z
  unfold f41_b1
  have hlen32 : ∀ n ∈ ns, ((mget v.blocks n).getD zeros48).length = 32 := fun n hn => by
    obtain ⟨b, hb⟩ := hnin n hn
    rw [hb]
    exact hv32 _ (mget_mem hb)
  have hlenT : ∀ j, ∀ b ∈ ((ns.take j).map fun n => (n, (mget v.blocks n).getD zeros48)), b.2.length = 32 := fun j b hb => by
    obtain ⟨n, hn, rfl⟩ := List.mem_map.1 hb
    exact hlen32 n (List.mem_of_mem_take hn)
  have hslx : ∀ b, sl.blk b → b ≠ x6 := fun b hb e => by have := hfz b hb; omega
  refine ⟨fun hlt2 => ?_, fun hge2 => ?_⟩
  · have hjl : j < ns.length := by simp at hlt2; omega
    have hn32 := hlen32 _ (List.getElem_mem hjl)
    obtain ⟨bb, hbb⟩ := hnin _ (List.getElem_mem hjl)
    have hv8z := hv8.ch hcz (fun e => by have e : vr = x6 := e; omega)
    have hb3z := hb38.ch hcz (fun e => by have e : x3 = x6 := e; omega)
    refine at_own (hown2.ch hcz fun b hb e => by have := hfr2 b hb; have := hx7.size; omega) hjl ?_
    refine ⟨_, rfl, Ld.blk hbz rfl ⟨_, rfl, Ld.blk hb3z (x := some vr) rfl ?_⟩⟩
    refine ⟨(u8s ((mget v.blocks ns[j]).getD zeros48)).toArray, z, by
      have := (blocks_look hv8z ns[j]).2
      rw [this, hbb]; rfl, _, cell_fill _ _ hn32, by simp [rowB, hn32], ?_⟩
    have hslen : sl.len = j := by
      have h1 := hoz.len
      rw [rowB_len32 (hlenT j)] at h1
      simp only [List.length_map, List.length_take] at h1
      omega
    refine New.mk fun a z1 ha hz1 hblka hxa => ?_
    have hbz2 := hbz.ext hxa
    refine Ef.append Try.underlying91 Try.ti98 rfl (by decide) (hoz.ext hxa) (ys := rowB (ns[j], (mget v.blocks ns[j]).getD zeros48)) ?_ ?_ (by show (sl.len + 1) * _ ≤ _; omega) (by show sl.len + 1 ≤ _; omega) ?_
    · have := Sees.ofBlk (n := 1) (size := 33) hblka (by simp [rowB, hn32])
      simpa using this
    · intro q hq
      rcases List.mem_cons.1 hq with rfl | hq
      · rfl
      · exact u8s_one _ q hq
    intro s' z3 o3 c3 l3 b3
    have hbz3 := hbz2.ch c3 (fun hb => hslx x6 hb rfl)
    have hns' : ∀ b, s'.blk b → w8.heap.size ≤ b := fun b hb => by
      rcases b3 b hb with h | h
      · exact hfz b h
      · have := hcz.size; have := hxa.size; omega
    refine ⟨_, rfl, ?_⟩
    simp only [addr_add, Nat.zero_add]
    refine Go.X.St.blk hbz3 (by simp) fun z4 h4 c4 => ?_
    rw [show IntKind.i64.wrap ((j : Int) + 1) = ((j + 1 : Nat) : Int) by rw [wrap_i64e]; omega]
    refine hag3 _ _ ⟨j + 1, s', rfl, by omega, ?_, by simpa using h4, ?_, hns'⟩ (by dsimp only; omega)
    · refine ((hcz.trans (hxa.mono fun _ _ h => h.elim)).step c3 (fun _ _ h => h) fun b hb h => ?_).step c4 (fun _ _ h => h) (fun _ _ h => h)
      have := hfz b h; omega
    · have := o3.ch c4 (fun b hb e => by have := hns' b hb; have e : b = x6 := e; omega)
      rw [List.take_succ_eq_append_getElem hjl, List.map_append, List.flatMap_append]
      simpa using this
  · have : j = ns.length := by simp at hge2; omega
    subst this
    rw [List.take_length] at hoz
    refine LdN.all hbz rfl ⟨rfl, ?_⟩
    have hAz : AllAt z out L := hA8.ch hcz fun b hb e => by
      have e : b = x6 := e
      subst e
      rcases hb with hb | ⟨p, hp, hb⟩
      · have := hA.own.lt hb; omega
      · have := (hA.each p hp).lt hb; omega
    have hol : out.len = L.length := by have := hA.own.len; rw [rowI_len] at this; omega
    refine New.mk fun a z1 ha hz1 hblka hxa => ?_
    have hAz1 := hAz.ext hxa
    have hbig : (ns.map fun n => (n, (mget v.blocks n).getD zeros48)) = (imgOf ys[i] v).blocks := by simp [imgOf, hns]
    refine Ef.append Try.underlying82 Try.ti93 rfl (by decide) hAz1.own (ys := rowI (imgOf ys[i] v, sl)) ?_ ?_ (by show (out.len + 1) * _ ≤ _; omega) (by show out.len + 1 ≤ _; omega) ?_
    · have := Sees.ofBlk (n := 1) (size := 4) hblka rfl
      simpa [rowI, imgOf] using this
    · intro q hq
      simp only [rowI, List.mem_cons, List.not_mem_nil, or_false] at hq
      rcases hq with rfl | rfl | rfl | rfl <;> rfl
    intro s' z2 o2 c2 l2 b2
    rw [show IntKind.i64.wrap ((i : Int) + 1) = ((i + 1 : Nat) : Int) by rw [wrap_i64e]; omega]
    have hoz1 := hoz.ext hxa
    rw [hbig] at hoz1
    have hzsz := hcz.size
    have hout : ∀ b, out.blk b → b < u.heap.size := fun b hb => hA.own.lt hb
    have hslout : ∀ b, sl.blk b → ¬ out.blk b := fun b hb h => by have := hfz b hb; have := hout b h; omega
    refine hag _ _ ⟨i + 1, s', L ++ [(imgOf ys[i] v, sl)], rfl, by omega, ?_, ⟨?_, ?_, ?_⟩, ?_, ?_, ?_⟩ (by dsimp only; omega)
    · refine (((hxu.trans hx28).step hcz (fun _ _ h => h.elim) fun b hb e => ?_).trans hxa).step c2 (fun _ _ h => h.elim) fun b hb h => ?_
      · have e : b = x6 := e; omega
      · have := hft b (.inl h); omega
    · simpa using o2
    · intro p hp
      rcases List.mem_append.1 hp with hp | hp
      · exact (hAz1.each p hp).ch c2 fun b hb h => hap p hp b hb h
      · simp only [List.mem_singleton] at hp
        subst hp
        exact hoz1.ch c2 hslout
    · intro p hp b hb
      rcases List.mem_append.1 hp with hp | hp
      · exact hA.lens p hp b hb
      · simp only [List.mem_singleton] at hp
        subst hp
        rw [← hbig] at hb
        obtain ⟨n, hn, rfl⟩ := List.mem_map.1 hb
        exact hlen32 n hn
    · rw [List.map_append, hLe, List.take_succ_eq_append_getElem hil, List.map_append]
      simp [hgst]
    · rintro b (hb | ⟨p, hp, hb⟩)
      · rcases b2 b hb with h | h
        · exact hft b (.inl h)
        · have := hxa.size; omega
      · rcases List.mem_append.1 hp with hp | hp
        · exact hft b (.inr ⟨p, hp, hb⟩)
        · simp only [List.mem_singleton] at hp
          subst hp
          have := hfz b hb; omega
    · intro p hp b hb h
      rcases b2 b h with h | h
      · rcases List.mem_append.1 hp with hp | hp
        · exact hap p hp b hb h
        · simp only [List.mem_singleton] at hp
          subst hp
          exact hslout b hb h
      · rcases List.mem_append.1 hp with hp | hp
        · have := (hAz1.each p hp).lt hb; omega
        · simp only [List.mem_singleton] at hp
          subst hp
          have := hoz1.lt hb; omega
end Go.Proofs
