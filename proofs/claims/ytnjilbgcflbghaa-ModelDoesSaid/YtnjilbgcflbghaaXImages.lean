/- model: Images. -/
import Derived.Test.YtnjilbgcflbghaaXF0
import Derived.Test.YtnjilbgcflbghaaXDo15
import Derived.Test.YtnjilbgcflbghaaXKeysBlock
import Derived.Test.YtnjilbgcflbghaaXSortsint
set_option linter.all false
set_option maxHeartbeats 2000000
namespace Go.Proofs
open Go Go.X Go.Sort

theorem pairwise_unique {α : Type} {lt : α → α → Bool} (hanti : ∀ a b, lt a b = false → lt b a = false → a = b) {l l' : List α} (hp : l.Perm l') (h : l.Pairwise (fun a b => lt b a = false)) (h' : l'.Pairwise (fun a b => lt b a = false)) : l = l' :=
  List.Perm.eq_of_pairwise (le := fun a b => lt b a = false) (fun a b _ _ h1 h2 => hanti a b h2 h1) h h' hp
theorem mergeSort_pairwise {α : Type} [Inhabited α] {lt : α → α → Bool} (hs : SWO lt) (l : List α) : (l.mergeSort fun a b => !lt b a).Pairwise (fun a b => lt b a = false) := by
  have tr : ∀ a b c : α, (!lt b a) = true → (!lt c b) = true → (!lt c a) = true := fun a b c h1 h2 => by
    have h1' : lt b a = false := by simpa using h1
    have h2' : lt c b = false := by simpa using h2
    simpa using hs.ntrans _ _ _ h2' h1'
  have to : ∀ a b : α, ((!lt b a) || (!lt a b)) = true := fun a b => by
    cases h1 : lt b a <;> cases h2 : lt a b <;> simp
    have := hs.trans _ _ _ h1 h2
    rw [hs.irrefl] at this; cases this
  exact (List.pairwise_mergeSort tr to l).imp (fun h => by simpa using h)
def sortN (l : List ByteArray) : List ByteArray := l.mergeSort fun a b => !slt b a
def sortI (l : List Int) : List Int := l.mergeSort fun a b => !ltInt b a
theorem sortN_perm (l : List ByteArray) : (sortN l).Perm l := List.mergeSort_perm _ _
theorem sortI_perm (l : List Int) : (sortI l).Perm l := List.mergeSort_perm _ _
theorem sortN_eq {l ys : List ByteArray} (hp : ys.Perm l) (h : ys.Pairwise (fun a b => slt b a = false)) : ys = sortN l :=
  pairwise_unique (fun a b h1 h2 => slt_eq h1 h2) (hp.trans (sortN_perm l).symm) h (mergeSort_pairwise swo_slt l)
theorem sortI_eq {l ys : List Int} (hp : ys.Perm l) (h : ys.Pairwise (fun a b => ltInt b a = false)) : ys = sortI l :=
  pairwise_unique (fun a b h1 h2 => ltInt_eq h1 h2) (hp.trans (sortI_perm l).symm) h (mergeSort_pairwise swo_ltInt l)

/-- An image: a volume with its blocks, rising. -/
structure ImgV where
  name : ByteArray
  quota : Int
  frozen : Bool
  blocks : List (Int × List Nat)
  deriving DecidableEq
def imgOf (n : ByteArray) (v : VolV) : ImgV := ⟨n, v.quota, v.frozen, (sortI (v.blocks.map (·.1))).map fun k => (k, (mget v.blocks k).getD zeros48)⟩
instance : Inhabited VolV := ⟨⟨0, false, []⟩⟩
def imgsOf (M : St) : List ImgV := (sortN (M.map (·.1))).map fun n => imgOf n ((mget M n).getD default)
def rowB (p : Int × List Nat) : List Value := .int .i64 p.1 :: u8s p.2
def rowI (p : ImgV × Sl) : List Value := [.string p.1.name, .int .i64 p.1.quota, .bool p.1.frozen, p.2.v]
/-- Images in memory. -/
structure ImgsAt (w : World) (s : Sl) (L : List (ImgV × Sl)) : Prop where
  own : Own w s 104 4 (L.flatMap rowI)
  each : ∀ p ∈ L, Own w p.2 199 49 (p.1.blocks.flatMap rowB)
  lens : ∀ p ∈ L, ∀ b ∈ p.1.blocks, b.2.length = 48
def ImgsAt.foot (s : Sl) (L : List (ImgV × Sl)) (k : Nat) : Prop := s.blk k ∨ ∃ p ∈ L, p.2.blk k
theorem ImgsAt.ch {S : Nat → Prop} {w w' : World} {s : Sl} {L : List (ImgV × Sl)} (h : ImgsAt w s L) (hc : Ch S w w') (hs : ∀ k, ImgsAt.foot s L k → ¬ S k) : ImgsAt w' s L :=
  ⟨h.own.ch hc fun k hk => hs k (.inl hk), fun p hp => (h.each p hp).ch hc fun k hk => hs k (.inr ⟨p, hp, hk⟩), h.lens⟩
theorem ImgsAt.ext {w w' : World} {s : Sl} {L : List (ImgV × Sl)} (h : ImgsAt w s L) (hc : Ext w w') : ImgsAt w' s L := h.ch hc fun _ _ => id
theorem rowI_len (L : List (ImgV × Sl)) : (L.flatMap rowI).length = L.length * 4 := flatMap_len L fun _ _ => rfl
theorem rowB_len {l : List (Int × List Nat)} (h : ∀ b ∈ l, b.2.length = 48) : (l.flatMap rowB).length = l.length * 49 := flatMap_len l fun b hb => by simp [rowB, h b hb]
theorem one_int (n : Int) : (Value.int .i64 n).oneCell' = true := rfl
theorem num_fill (n : Int) (b : List Nat) (hb : b.length = 48) : Instr.fill ((#[(0, 1), (1, 48)] : Array (Nat × Nat))[·]?) Try.z199 [(0, .int .i64 n), (1, .agg (u8s b).toArray)] = some (rowB (n, b)).toArray := by
  have e0 : Try.z199 = (Value.int .i64 0 :: u8s zeros48).toArray := rfl
  rw [e0]
  refine (fill_step (cells := (Value.int .i64 0 :: u8s zeros48).toArray) (off := 0) (size := 1) [] [.int .i64 0] (u8s zeros48) rfl rfl rfl rfl rfl).trans ?_
  refine (fill_step (off := 1) (size := 48) [.int .i64 n] (u8s zeros48) [] rfl (by simp [Value.cells]) rfl rfl (by simpa [Value.cells] using hb)).trans ?_
  simp [Instr.fill, rowB, Value.cells]
theorem img_fill (nm : ByteArray) (q : Int) (f : Bool) : Instr.fill ((#[(0, 1), (1, 1), (2, 1), (3, 1)] : Array (Nat × Nat))[·]?) #[.string (ByteArray.mk #[]), .int .i64 0, .bool false, Sl.nil.v] [(0, .string nm), (1, .int .i64 q), (2, .bool f)] = some #[.string nm, .int .i64 q, .bool f, Sl.nil.v] := rfl
theorem at_own {α : Type} {enc : α → Value} {w : World} {s : Sl} {e : TypeId} {l : List α} {i : Nat} (h : Own w s e 1 (l.map enc)) (hi : i < l.length) {K : α → Prop} (k : K l[i]) : Ix s (i : Int) fun p => Ld enc (some (p.add ((i : Int).toNat * 1))) w K := by
  have hs := h.sees
  have hl : l.length = s.len := by have := h.len; simpa using this
  cases ha : s.a with
  | none => have := hs.2.2.1 ha; omega
  | some a => exact ⟨a, ha, by omega, by omega, _, l[i], rfl, (by have := (hs.2.2.2 a ha).2 i (enc l[i]) (by simp [hi]); simpa using this), k⟩

theorem model_Images_spec {w : World} {m rv : Nat} {M : Vols} (hm : MRep w m rv M) (hM : M.length < 1000000) (hB : ∀ p ∈ M.st, p.2.blocks.length < 1000000) {R : Value → World → Prop}
    (k : ∀ (s : Sl) (L : List (ImgV × Sl)) w', ImgsAt w' s L → L.map (·.1) = imgsOf M.st → Ext w w' → (∀ k, ImgsAt.foot s L k → w.heap.size ≤ k) → R s.v w') :
    CallF Try.prog 50 #[.pointer (some ⟨m, 0, none⟩)] w R := by
  refine f50_ok R (some ⟨m, 0, none⟩) w ?_
  unfold f50
  refine ⟨_, rfl, Ld.blk hm.top rfl ?_⟩
  refine keys_Model hm.map (fun p hp => by obtain ⟨q, _, rfl⟩ := List.mem_map.1 hp; exact ⟨_, rfl⟩) _ fun fv w1 hseq hx1 => ?_
  have hl : M.vals.length = M.length := by simp [Vols.vals]
  refine sorted_string hseq (by omega) (fun xs hxs => by rw [hxs.length_eq]; simp) _ fun t xs ys w2 hG hperm hsort hown hx2 hfr => ⟨_, rfl, ?_⟩
  have hkeys : M.vals.map (·.1) = M.st.map (·.1) := by simp [Vols.vals, Vols.st]
  have hys : ys = sortN (M.st.map (·.1)) := sortN_eq ((hperm.trans hG).trans (by rw [hkeys])) hsort
  have hx12 := hx1.trans hx2
  have hm2 := hm.ext hx12
  have hyl : ys.length = t.len := by have := hown.len; simpa using this
  have hyM : ys.length = M.length := by rw [(hperm.trans hG).length_eq]; simp [Vols.vals]
  have hmem : ∀ n ∈ ys, ∃ b r v, mget M n = some (b, r, v) := fun n hn => by
    have h1 : n ∈ M.vals.map (·.1) := (hperm.trans hG).mem_iff.1 hn
    have h2 : n ∈ M.map (·.1) := by simpa [Vols.vals] using h1
    have h3 := (mget_some_iff M n).2 h2
    obtain ⟨⟨b, r, v⟩, h4⟩ := Option.isSome_iff_exists.1 h3
    exact ⟨b, r, v, h4⟩
  have hsz12 := hx12.size
  have hsz1 := hx1.size
  refine Lp.mk (fun q u => ∃ (i : Nat) (out : Sl) (L : List (ImgV × Sl)), q = (some ⟨m, 0, none⟩, out, t, (t.len : Int), (i : Int)) ∧ i ≤ ys.length ∧ Ext w2 u ∧ ImgsAt u out L ∧ L.map (·.1) = (ys.take i).map (fun n => imgOf n ((mget M.st n).getD default)) ∧
      (∀ j, ImgsAt.foot out L j → w2.heap.size ≤ j) ∧ (∀ p ∈ L, ∀ j, p.2.blk j → ¬ out.blk j)) (fun q _ => t.len - q.2.2.2.2.toNat)
    ⟨0, Sl.nil, [], rfl, by omega, Ch.refl _ _, ⟨Own.nil _ _ _, fun p hp => (by cases hp), fun p hp => (by cases hp)⟩, rfl, fun j hj => ?_, fun p hp => (by cases hp)⟩ ?_
  · rcases hj with ⟨_, e, _⟩ | ⟨p, hp, _⟩
    · cases e
    · cases hp
  rintro _ u ⟨i, out, L, rfl, hi, hxu, hA, hLe, hft, hap⟩ ag hag
  show f50_b0 R ag (some ⟨m, 0, none⟩) out t t.len i u
  unfold f50_b0
  have hLl : L.length = i := by have := congrArg List.length hLe; simpa [hi] using this
  refine ⟨fun hlt => ?_, fun hge => ?_⟩
  case refine_2 =>
    have : i = ys.length := by simp at hge; omega
    subst this
    refine k out L u hA ?_ (hx12.trans hxu) fun j hj => by have := hft j hj; omega
    rw [hLe, List.take_length, hys]; rfl
  have hil : i < ys.length := by simp at hlt; omega
  have hmu := hm2.ext hxu
  refine at_own (hown.ext hxu) hil ?_
  refine ⟨_, rfl, Ld.blk hmu.top rfl ?_⟩
  obtain ⟨vb, vr, v, hg⟩ := hmem _ (List.getElem_mem hil)
  refine ⟨_, _, by
    have := lookup_run1 (P := Try.prog) KeyLaw.names Try.underlying163 Try.ti167 hmu.map ys[i]
    rw [Vols.mget_vals, hg] at this
    exact this, ?_⟩
  have hgst : mget M.st ys[i] = some v := by rw [Vols.mget_st, hg]; rfl
  have hva := hmu.vols _ (mget_mem hg)
  simp only at hva
  have hd := Ch.drew u
  have hvd := hva.ext hd
  refine ⟨_, rfl, LdH.blk hvd.top rfl ⟨_, rfl, LdH.blk hvd.top rfl ⟨_, img_fill _ _ _, ?_⟩⟩⟩
  refine New.mk fun x6 w5 hx6 hs5 hblk5 hx5 => ⟨(hvd.ext hx5).top.cell rfl, (hvd.ext hx5).top.cell rfl, ?_⟩
  refine StN.all hblk5 rfl (by simp [Value.oneCell', Sl.v]) rfl ?_
  intro w6 hblk6 hc6 hz6
  have hx26 : Ext u w6 := (hd.trans hx5).step hc6 (fun _ _ h => h.elim) (fun j hj e => by have := hd.size; omega)
  have hv6 := hva.ext hx26
  refine ⟨_, rfl, Ld.blk hv6.top rfl ?_⟩
  have hbl : v.blocks.length < 1000000 := hB _ (mget_mem hgst)
  have hvl : v.vals.length = v.blocks.length := by simp [VolV.vals]
  refine keys_Block hv6.map (fun p hp => by obtain ⟨q, _, rfl⟩ := List.mem_map.1 hp; exact ⟨_, rfl⟩) _ fun fv2 w7 hseq2 hx7 => ?_
  refine sorted_int hseq2 (by omega) (fun xs hxs => by rw [hxs.length_eq]; simp) _ fun t2 xs2 ns w8 hG2 hperm2 hsort2 hown2 hx8 hfr2 => ⟨_, rfl, ?_⟩
  have hkeys2 : v.vals.map (·.1) = v.blocks.map (·.1) := by simp [VolV.vals]
  have hns : ns = sortI (v.blocks.map (·.1)) := sortI_eq ((hperm2.trans hG2).trans (by rw [hkeys2])) hsort2
  have hnl : ns.length = t2.len := by have := hown2.len; simpa using this
  have hnM : ns.length = v.blocks.length := by rw [(hperm2.trans hG2).length_eq]; simp [VolV.vals]
  have hx68 := hx7.trans hx8
  have hx28 := hx26.trans hx68
  have hv8 := hv6.ext hx68
  have hblk8 := hblk6.ext hx68
  have hA8 := hA.ext hx28
  have hx6lt : x6 < w8.heap.size := hblk8.lt
  have hu6 : u.heap.size ≤ x6 := by have := hd.size; omega
  have hsz68 := hx68.size
  have hsz28 := hx28.size
  have hszu := hxu.size
  refine Lp.mk (fun q z => ∃ (j : Nat) (sl : Sl), q = (some ⟨m, 0, none⟩, out, some ⟨vb, 0, none⟩, some ⟨x6, 0, none⟩, t, (t.len : Int), (i : Int), t2, (t2.len : Int), (j : Int)) ∧ j ≤ ns.length ∧ Ch (· = x6) w8 z ∧
      Blk z x6 #[.string ys[i], .int .i64 v.quota, .bool v.frozen, sl.v] 104 ∧ Own z sl 199 49 (((ns.take j).map fun n => (n, (mget v.blocks n).getD zeros48)).flatMap rowB) ∧ (∀ b, sl.blk b → w8.heap.size ≤ b)) (fun q _ => t2.len - q.2.2.2.2.2.2.2.2.2.toNat)
    ⟨0, Sl.nil, rfl, by omega, Ch.refl _ _, hblk8, by simpa using Own.nil _ _ _, fun b ⟨_, e, _⟩ => (by cases e)⟩ ?_
  rintro _ z ⟨j, sl, rfl, hj, hcz, hbz, hoz, hfz⟩ ag3 hag3
  show f50_b1 R ag ag3 (some ⟨m, 0, none⟩) out (some ⟨vb, 0, none⟩) (some ⟨x6, 0, none⟩) t t.len i t2 t2.len j z
  unfold f50_b1
  have hlen48 : ∀ n, ((mget v.blocks n).getD zeros48).length = 48 := fun n => by
    cases hgn : mget v.blocks n with
    | none => exact zeros48_len
    | some b => exact hva.len _ (mget_mem hgn)
  have hslx : ∀ b, sl.blk b → b ≠ x6 := fun b hb e => by have := hfz b hb; omega
  refine ⟨fun hlt2 => ?_, fun hge2 => ?_⟩
  · -- one block more
    have hjl : j < ns.length := by simp at hlt2; omega
    have hv8z := hv8.ch hcz (fun e => by have := hva.top.lt; omega) (fun e => by have := hva.map.lt; omega)
    refine at_own (hown2.ch hcz fun b hb e => by have := hfr2 b hb; have := hx7.size; omega) hjl ?_
    have hdz := Ch.drew z
    have hbz1 := hbz.ext hdz
    refine ⟨_, rfl, LdH.blk hbz1 rfl ⟨_, rfl, Ld.blk (hv8z.ext hdz).top rfl ?_⟩⟩
    refine ⟨(u8s ((mget v.blocks ns[j]).getD zeros48)).toArray, _, by
      have := lookup_run1 (P := Try.prog) KeyLaw.ints Try.underlying168 Try.ti65 (hv8z.ext hdz).map ns[j]
      rw [VolV.mget_vals] at this
      rw [this]
      cases mget v.blocks ns[j] <;> rfl, hbz1.cell rfl, _, num_fill _ _ (hlen48 _), by simp [rowB, hlen48], ?_⟩
    have hslen : sl.len = j := by
      have h1 := hoz.len
      rw [rowB_len (by intro b hb; obtain ⟨n, _, rfl⟩ := List.mem_map.1 hb; exact hlen48 n)] at h1
      simp only [List.length_map, List.length_take] at h1
      omega
    refine New.mk fun a z1 ha hz1 hblka hxa => ⟨(hbz1.ext hxa).cell rfl, ?_⟩
    have hdz1 := hdz.trans hxa
    have hbz2 := hbz1.ext hxa
    refine Ef.append Try.underlying102 Try.ti199 rfl (by decide) (hoz.ext hdz1) (ys := rowB (ns[j], (mget v.blocks ns[j]).getD zeros48)) ?_ ?_ (by show (sl.len + 1) * _ ≤ _; omega) (by show sl.len + 1 ≤ _; omega) ?_
    · have := Sees.ofBlk (n := 1) (size := 49) hblka (by simp [rowB, hlen48])
      simpa using this
    · intro q hq
      rcases List.mem_cons.1 hq with rfl | hq
      · rfl
      · exact u8s_one _ q hq
    intro s' z3 o3 c3 l3 b3
    have hbz3 := hbz2.ch c3 (fun hb => hslx x6 hb rfl)
    have hns' : ∀ b, s'.blk b → w8.heap.size ≤ b := fun b hb => by
      rcases b3 b hb with h | h
      · exact hfz b h
      · have := hcz.size; have := hdz1.size; omega
    refine ⟨_, rfl, ?_⟩
    simp only [addr_add, Nat.zero_add]
    refine St.blk hbz3 (by simp) fun z4 h4 c4 => ?_
    rw [show IntKind.i64.wrap ((j : Int) + 1) = ((j + 1 : Nat) : Int) by rw [wrap_i64e]; omega]
    refine hag3 _ _ ⟨j + 1, s', rfl, by omega, ?_, by simpa using h4, ?_, hns'⟩ (by dsimp only; omega)
    · refine ((hcz.trans (hdz1.mono fun _ _ h => h.elim)).step c3 (fun _ _ h => h) fun b hb h => ?_).step c4 (fun _ _ h => h) (fun _ _ h => h)
      have := hfz b h; omega
    · have := o3.ch c4 (fun b hb e => by have := hns' b hb; have e : b = x6 := e; omega)
      rw [List.take_succ_eq_append_getElem hjl, List.map_append, List.flatMap_append]
      simpa using this
  · -- the image is laid behind the others
    have : j = ns.length := by simp at hge2; omega
    subst this
    rw [List.take_length] at hoz
    refine LdN.all hbz rfl ⟨rfl, ?_⟩
    have hAz : ImgsAt z out L := hA8.ch hcz fun b hb e => by
      have e : b = x6 := e
      subst e
      rcases hb with hb | ⟨p, hp, hb⟩
      · have := hA.own.lt hb; omega
      · have := (hA.each p hp).lt hb; omega
    have hol : out.len = L.length := by have := hA.own.len; rw [rowI_len] at this; omega
    refine New.mk fun a z1 ha hz1 hblka hxa => ?_
    have hAz1 := hAz.ext hxa
    have hbig : (ns.map fun n => (n, (mget v.blocks n).getD zeros48)) = (imgOf ys[i] v).blocks := by simp [imgOf, hns]
    refine Ef.append Try.underlying100 Try.ti104 rfl (by decide) hAz1.own (ys := rowI (imgOf ys[i] v, sl)) ?_ ?_ (by show (out.len + 1) * _ ≤ _; omega) (by show out.len + 1 ≤ _; omega) ?_
    · have := Sees.ofBlk (n := 1) (size := 4) hblka rfl
      simpa [rowI, imgOf] using this
    · intro q hq
      simp only [rowI, List.mem_cons, List.not_mem_nil, or_false] at hq
      rcases hq with rfl | rfl | rfl | rfl <;> rfl
    intro s' z2 o2 c2 l2 b2
    rw [show IntKind.i64.wrap ((i : Int) + 1) = ((i + 1 : Nat) : Int) by rw [wrap_i64e]; omega]
    have hoz1 := hoz.ext hxa
    rw [hbig] at hoz1
    have hzsz := hcz.size
    have hout : ∀ b, out.blk b → b < u.heap.size := fun b hb => hA.own.lt hb
    have hslout : ∀ b, sl.blk b → ¬ out.blk b := fun b hb h => by have := hfz b hb; have := hout b h; omega
    refine hag _ _ ⟨i + 1, s', L ++ [(imgOf ys[i] v, sl)], rfl, by omega, ?_, ⟨?_, ?_, ?_⟩, ?_, ?_, ?_⟩ (by dsimp only; omega)
    · refine (((hxu.trans hx28).step hcz (fun _ _ h => h.elim) fun b hb e => ?_).trans hxa).step c2 (fun _ _ h => h.elim) fun b hb h => ?_
      · have e : b = x6 := e; omega
      · have := hft b (.inl h); omega
    · simpa using o2
    · intro p hp
      rcases List.mem_append.1 hp with hp | hp
      · exact (hAz1.each p hp).ch c2 fun b hb h => hap p hp b hb h
      · simp only [List.mem_singleton] at hp
        subst hp
        exact hoz1.ch c2 hslout
    · intro p hp b hb
      rcases List.mem_append.1 hp with hp | hp
      · exact hA.lens p hp b hb
      · simp only [List.mem_singleton] at hp
        subst hp
        obtain ⟨n, _, rfl⟩ := List.mem_map.1 hb
        exact hlen48 n
    · rw [List.map_append, hLe, List.take_succ_eq_append_getElem hil, List.map_append]
      simp [hgst]
    · rintro b (hb | ⟨p, hp, hb⟩)
      · rcases b2 b hb with h | h
        · exact hft b (.inl h)
        · have := hxa.size; omega
      · rcases List.mem_append.1 hp with hp | hp
        · exact hft b (.inr ⟨p, hp, hb⟩)
        · simp only [List.mem_singleton] at hp
          subst hp
          have := hfz b hb; omega
    · intro p hp b hb h
      rcases b2 b h with h | h
      · rcases List.mem_append.1 hp with hp | hp
        · exact hap p hp b hb h
        · simp only [List.mem_singleton] at hp
          subst hp
          exact hslout b hb h
      · rcases List.mem_append.1 hp with hp | hp
        · have := (hAz1.each p hp).lt hb; omega
        · simp only [List.mem_singleton] at hp
          subst hp
          have := hoz1.lt hb; omega
end Go.Proofs
