/- model.Event: an operation as bytes; sporranref01.Same: are bytes the same? -/
import Derived.Test.YtnjilbgcflbghaaXF0
import Derived.Test.YtnjilbgcflbghaaXPack
import Derived.Test.YtnjilbgcflbghaaXDat
set_option linter.all false
namespace Go.Proofs
open Go Go.X

/-- An operation. -/
structure OpV where
  kind : Int
  name : ByteArray
  other : ByteArray
  number : Int
  quota : Int
  block : List Nat
abbrev isInt (n : Int) : Prop := -9223372036854775808 ≤ n ∧ n ≤ 9223372036854775807
structure OpV.OK (o : OpV) : Prop where
  kind : isInt o.kind
  number : isInt o.number
  quota : isInt o.quota
  block : o.block.length = 48
def OpV.list (o : OpV) : List Value := .int .i64 o.kind :: .string o.name :: .string o.other :: .int .i64 o.number :: .int .i64 o.quota :: u8s o.block
def OpV.cells (o : OpV) : Array Value := o.list.toArray
theorem OpV.size {o : OpV} (h : o.OK) : o.cells.size = 53 := by simp [OpV.cells, OpV.list, h.block]
theorem OpV.blk (o : OpV) (j : Nat) (v : Value) (h : (u8s o.block)[j]? = some v) : o.cells[5 + j]? = some v := by
  simp only [OpV.cells, OpV.list, List.getElem?_toArray]
  rw [show 5 + j = j + 1 + 1 + 1 + 1 + 1 from by omega]
  simpa using h

/-- What an event holds before the block. -/
def evHead (o : OpV) : List Nat := vint (u64n o.kind) ++ (vint (u64n o.number) ++ (vint (u64n o.quota) ++ (vint o.name.size ++ (bs o.name ++ (vint o.other.size ++ bs o.other)))))
def event (o : OpV) : List Nat := vint (u64n o.kind) ++ (vint (u64n o.number) ++ (vint (u64n o.quota) ++ (vint o.name.size ++ (bs o.name ++ (vint o.other.size ++ (bs o.other ++ if o.kind = 3 then o.block else []))))))
theorem event_head (o : OpV) : event o = evHead o ++ if o.kind = 3 then o.block else [] := by simp [event, evHead]
theorem event_inj {a b : OpV} (ha : a.OK) (hb : b.OK) (h : event a = event b) : a.kind = b.kind ∧ a.number = b.number ∧ a.quota = b.quota ∧ a.name = b.name ∧ a.other = b.other ∧ (a.kind = 3 → a.block = b.block) := by
  unfold event at h
  obtain ⟨h1, h⟩ := vint_append _ _ h
  obtain ⟨h2, h⟩ := vint_append _ _ h
  obtain ⟨h3, h⟩ := vint_append _ _ h
  obtain ⟨h4, h⟩ := vint_append _ _ h
  obtain ⟨h5, h⟩ := List.append_inj h (by simpa using h4)
  obtain ⟨h6, h⟩ := vint_append _ _ h
  obtain ⟨h7, h⟩ := List.append_inj h (by simpa using h6)
  have k := u64n_inj ha.kind hb.kind h1
  refine ⟨k, u64n_inj ha.number hb.number h2, u64n_inj ha.quota hb.quota h3, bs_inj h5, bs_inj h7, fun h3 => ?_⟩
  rw [if_pos h3, if_pos (k ▸ h3)] at h
  exact h
theorem event_len (o : OpV) : 5 ≤ (event o).length := by
  have h1 := vint_pos (u64n o.kind)
  have h2 := vint_pos (u64n o.number)
  have h3 := vint_pos (u64n o.quota)
  have h4 := vint_pos o.name.size
  have h5 := vint_pos o.other.size
  simp only [event, List.length_append]
  omega
theorem evHead_len (o : OpV) (h1 : o.name.size ≤ 1073741824) (h2 : o.other.size ≤ 1073741824) : (evHead o).length ≤ 50 + o.name.size + o.other.size := by
  have h1 := vint_len10 (u64n_lt o.kind)
  have h2 := vint_len10 (u64n_lt o.number)
  have h3 := vint_len10 (u64n_lt o.quota)
  have h4 := vint_len10 (show o.name.size < 18446744073709551616 by omega)
  have h5 := vint_len10 (show o.other.size < 18446744073709551616 by omega)
  simp only [evHead, List.length_append, bs_length]
  omega

theorem ref01_Same_spec {w : World} {a b : Sl} {xs ys : List Nat} (ha : Sees w a 1 (u8s xs)) (hb : Sees w b 1 (u8s ys)) (hl : a.len ≤ 1152921504606846976) :
    CallF Try.prog 21 #[a.v, b.v] w fun r w' => r = .bool (decide (xs = ys)) ∧ Ext w w' := by
  have hla : xs.length = a.len := by simpa using ha.1
  have hlb : ys.length = b.len := by simpa using hb.1
  refine sporranref01_Same_ok _ a b w ?_
  unfold sporranref01_Same
  refine ⟨fun hn => ⟨?_, Ch.refl _ _⟩, fun he => ?_⟩
  · have : xs ≠ ys := by
      rintro rfl
      simp at hn
      omega
    simp [this]
  have hab : a.len = b.len := by simp at he; omega
  refine ⟨fun q wr => ∃ i : Nat, q = (a, b, (i : Int)) ∧ i ≤ a.len ∧ Ext w wr ∧ xs.take i = ys.take i, fun q _ => a.len - q.2.2.toNat, ⟨0, rfl, by omega, Ch.refl _ _, by simp⟩, ?_⟩
  rintro _ wr ⟨i, rfl, hi, hc, ht⟩
  refine ⟨fun hlt => ?_, fun hge => ?_⟩
  · have hia : i < a.len := by simp at hlt; omega
    have hix : i < xs.length := by omega
    have hiy : i < ys.length := by omega
    obtain ⟨aa, haa⟩ : ∃ x, a.a = some x := by
      cases h : a.a with
      | none => have := ha.2.2.1 h; omega
      | some x => exact ⟨x, rfl⟩
    obtain ⟨ba, hba⟩ : ∃ x, b.a = some x := by
      cases h : b.a with
      | none => have := hb.2.2.1 h; omega
      | some x => exact ⟨x, rfl⟩
    have hca := (((ha.ext hc).ext (Ch.drew wr)).2.2.2 aa haa).2 i (.int .u8 (xs[i] : Int)) (by simp [u8s, hix])
    have hcb := (((hb.ext hc).ext (Ch.drew wr)).2.2.2 ba hba).2 i (.int .u8 (ys[i] : Int)) (by simp [u8s, hiy])
    refine ⟨aa, haa, by simp, by simpa using hlt, _, (xs[i] : Int), rfl, by simpa using hca, ?_⟩
    refine ⟨ba, hba, by simp, by simp; omega, _, (ys[i] : Int), rfl, by simpa using hcb, ?_⟩
    refine ⟨fun hne => ⟨?_, hc.trans (Ch.drew wr)⟩, fun heq => ?_⟩
    · have : xs ≠ ys := by rintro rfl; simp at hne
      simp [this]
    · have hxy : xs[i] = ys[i] := by simp at heq; omega
      rw [show ((i : Int) + 1) = ((i + 1 : Nat) : Int) from by omega, wrap_i64 (by omega) (by omega)]
      refine ⟨⟨i + 1, rfl, by omega, hc.trans (Ch.drew wr), ?_⟩, by simp; omega⟩
      rw [List.take_succ_eq_append_getElem hix, List.take_succ_eq_append_getElem hiy, ht, hxy]
  · have hia : i = a.len := by simp at hge; omega
    rw [List.take_of_length_le (by omega), List.take_of_length_le (by omega)] at ht
    exact ⟨by simp [ht], hc⟩

/-- What is known behind a row that is being put together. -/
def Made (w : World) (ys : List Nat) (s : Sl) (w' : World) : Prop := Own w' s 5 1 (u8s ys) ∧ Ext w w' ∧ s.len = ys.length ∧ ∀ b, s.blk b → w.heap.size ≤ b
theorem Made.number {w w1 : World} {ys : List Nat} {s : Sl} {v : Int} {K : Value → World → Prop} (n : Nat) (hm : Made w ys s w1) (hv : v = n) (hn : n < 18446744073709551616) (hl : ys.length + 10 ≤ 140737488355328)
    (k : ∀ s' w', Made w (ys ++ vint n) s' w' → Ch s.blk w1 w' → (∀ b, s'.blk b → s.blk b ∨ w1.heap.size ≤ b) → K s'.v w') : CallF Try.prog 125 #[s.v, .int .u64 v] w1 K := by
  obtain ⟨h1, h2, h3, h4⟩ := hm
  refine (pack_Number_spec n hv hn h1 (by omega)).mono ?_
  rintro _ w2 ⟨s', rfl, g1, g2, g3, g4⟩
  refine k s' w2 ⟨by simpa using g1, h2.step g2 (fun _ _ h => h.elim) (fun i hi h => absurd (h4 i h) (by omega)), by simp [g3, h3], fun b hb => ?_⟩ g2 g4
  rcases g4 b hb with h | h
  · exact h4 b h
  · have := h2.size; omega
theorem Made.bytes {w w1 : World} {ys zs : List Nat} {s x : Sl} {K : Value → World → Prop} (hm : Made w ys s w1) (hx : Sees w1 x 1 (u8s zs)) (hd : ∀ k, x.blk k → ¬ s.blk k) (hl : ys.length + zs.length + 10 ≤ 140737488355328)
    (k : ∀ s' w', Made w (ys ++ (vint zs.length ++ zs)) s' w' → Ch s.blk w1 w' → (∀ b, s'.blk b → s.blk b ∨ w1.heap.size ≤ b) → K s'.v w') : CallF Try.prog 126 #[s.v, x.v] w1 K := by
  obtain ⟨h1, h2, h3, h4⟩ := hm
  have hxl : zs.length = x.len := by simpa using hx.1
  refine (pack_Bytes_spec h1 hx hd (by omega)).mono ?_
  rintro _ w2 ⟨s', rfl, g1, g2, g3, g4⟩
  refine k s' w2 ⟨by simpa using g1, h2.step g2 (fun _ _ h => h.elim) (fun i hi h => absurd (h4 i h) (by omega)), by simp [g3, h3], fun b hb => ?_⟩ g2 g4
  rcases g4 b hb with h | h
  · exact h4 b h
  · have := h2.size; omega
theorem Made.ext {w w1 w2 : World} {ys : List Nat} {s : Sl} (h : Made w ys s w1) (hc : Ext w1 w2) : Made w ys s w2 := ⟨h.1.ext hc, h.2.1.trans hc, h.2.2⟩
theorem Made.from {w w1 w2 : World} {ys : List Nat} {s : Sl} (h : Made w1 ys s w2) (hc : Ext w w1) : Made w ys s w2 := ⟨h.1, hc.trans h.2.1, h.2.2.1, fun b hb => Nat.le_trans hc.size (h.2.2.2 b hb)⟩
theorem Made.nil (w : World) : Made w [] Sl.nil w := ⟨Own.nil _ _ _, Ch.refl _ _, rfl, fun b ⟨_, h, _⟩ => by cases h⟩
theorem Made.append {w w1 : World} {ys zs : List Nat} {s x : Sl} {K : Sl → World → Prop} (hm : Made w ys s w1) (hx : Sees w1 x 1 (u8s zs)) (hl : ys.length + zs.length ≤ 140737488355328)
    (k : ∀ s' w', Made w (ys ++ zs) s' w' → Ch s.blk w1 w' → K s' w') : Ef Try.prog (Builtin.append_ #[39, 39] 39 #[s.v, x.v]) Sl.v w1 K := by
  obtain ⟨h1, h2, h3, h4⟩ := hm
  have hxl : zs.length = x.len := by simpa using hx.1
  refine Ef.append Try.underlying39 Try.ti5 rfl (by decide) h1 hx (u8s_one zs) (by omega) (by omega) ?_
  intro s' w2 g1 g2 g3 g4
  refine k s' w2 ⟨by simpa using g1, h2.step g2 (fun _ _ h => h.elim) (fun i hi h => absurd (h4 i h) (by omega)), by simp [g3, h3, hxl], fun b hb => ?_⟩ g2
  rcases g4 b hb with h | h
  · exact h4 b h
  · have := h2.size; omega

def OpV.nums (o : OpV) : List Int := [o.kind, o.number, o.quota]
def OpV.pre (o : OpV) (i : Nat) : List Nat := (o.nums.take i).flatMap fun z => vint (u64n z)
theorem OpV.pre_len (o : OpV) (i : Nat) : (o.pre i).length ≤ 30 := by
  have h1 := vint_len10 (u64n_lt o.kind)
  have h2 := vint_len10 (u64n_lt o.number)
  have h3 := vint_len10 (u64n_lt o.quota)
  unfold OpV.pre OpV.nums
  rcases i with _ | _ | _ | i <;> simp <;> omega

set_option maxHeartbeats 1000000 in
theorem model_Event_spec {w : World} {o : OpV} (ho : o.OK) (hn : o.name.size ≤ 1073741824) (hm : o.other.size ≤ 1073741824) :
    CallF Try.prog 62 #[.agg o.cells] w fun r w' => ∃ s, r = s.v ∧ Made w (event o) s w' := by
  refine model_Event_ok _ o.cells w ?_
  unfold model_Event
  refine New.mk fun b w1 hb hs1 hblk hext => ?_
  have hk : o.cells[0]? = some (.int .i64 o.kind) := rfl
  have hnm : o.cells[1]? = some (.string o.name) := rfl
  have hot : o.cells[2]? = some (.string o.other) := rfl
  have hnu : o.cells[3]? = some (.int .i64 o.number) := rfl
  have hqu : o.cells[4]? = some (.int .i64 o.quota) := rfl
  simp only [addr_add, Nat.zero_add]
  refine Ld.blk hblk hk (Ld.blk hblk hnu (Ld.blk hblk hqu ?_))
  refine ⟨#[.int .i64 o.kind, .int .i64 o.number, .int .i64 o.quota], rfl, ?_⟩
  have hz : ∀ (s : Sl) (wr : World), Made w1 (evHead o) s wr → ∀ ag, model_Event_k1 (fun r w' => ∃ s, r = s.v ∧ Made w (event o) s w') ag (some ⟨b, 0, none⟩) s wr := by
    intro s wr hmd ag
    have hbr := hblk.ext hmd.2.1
    unfold model_Event_k1
    refine ⟨_, rfl, ?_⟩
    simp only [addr_add, Nat.zero_add]
    refine Ld.blk hbr hk ⟨fun h3 => ?_, fun h3 => ⟨s, rfl, ?_⟩⟩
    · have h3' : o.kind = 3 := by simpa using h3
      refine ⟨_, rfl, Cut.all (Nat.le_refl _) (fun a ha => by injection ha with ha; subst ha; rfl) ?_⟩
      refine Made.append hmd (Sees.part hbr (o.blk) (by simp [ho.block])) (by have := evHead_len o hn hm; rw [ho.block]; omega) ?_
      intro s' w' hm' _
      refine ⟨s', rfl, ?_⟩
      rw [event_head, if_pos h3']
      exact hm'.from hext
    · have h3' : ¬ o.kind = 3 := by simpa using h3
      rw [event_head, if_neg h3', List.append_nil]
      exact hmd.from hext
  refine ⟨fun q wr => ∃ (i : Nat) (s : Sl), q = (some ⟨b, 0, none⟩, s, #[.int .i64 o.kind, .int .i64 o.number, .int .i64 o.quota], (i : Int)) ∧ i ≤ 3 ∧ Made w1 (o.pre i) s wr, fun q _ => 3 - q.2.2.2.toNat,
    ⟨0, Sl.nil, rfl, by omega, Made.nil w1⟩, ?_⟩
  rintro _ wr ⟨i, s, rfl, hi, hmd⟩
  refine ⟨fun hlt => ?_, fun hge => ?_⟩
  · have hi3 : i < 3 := by simp at hlt; omega
    have hi' : i < o.nums.length := hi3
    refine ⟨by simp, by simp; omega, o.nums[i], ?_, ?_⟩
    · rcases i with _ | _ | _ | i <;> first | rfl | omega
    · refine Made.number _ hmd (wrap_u64n _) (u64n_lt _) (by have := o.pre_len i; omega) ?_
      intro s' w' hm' _ _
      refine ⟨s', rfl, ?_⟩
      rw [show ((i : Int) + 1) = ((i + 1 : Nat) : Int) from by omega, wrap_i64 (by omega) (by omega)]
      refine ⟨⟨i + 1, s', rfl, by omega, ?_⟩, by simp; omega⟩
      have : o.pre (i + 1) = o.pre i ++ vint (u64n o.nums[i]) := by
        unfold OpV.pre
        rw [List.take_succ_eq_append_getElem hi', List.flatMap_append]
        simp
      rw [this]
      exact hm'
  · have hi3 : i = 3 := by simp at hge; omega
    subst hi3
    have hpl := o.pre_len 3
    have hhead : ∀ ys, ys = o.pre 3 ++ (vint (bs o.name).length ++ bs o.name) ++ (vint (bs o.other).length ++ bs o.other) → ys = evHead o := by
      rintro _ rfl
      simp [evHead, OpV.pre, OpV.nums]
    have hl1 := vint_len10 (show (bs o.name).length < 18446744073709551616 by simp; omega)
    have hmd1 := hmd.ext (Ch.drew wr)
    have hb1 := hblk.ext hmd1.2.1
    refine ⟨_, rfl, ?_⟩
    simp only [addr_add, Nat.zero_add]
    refine LdH.blk hb1 hnm ⟨_, rfl, ?_⟩
    simp only [addr_add, Nat.zero_add]
    refine LdH.blk hb1 hot ?_
    refine ⟨?_, ?_⟩
    · refine Ef.bytes Try.underlying9 Try.underlying39 Try.underlying5 ?_
      intro x1 w5 hx1 he1 hxl1 hxb1 hxs1
      have hmd5 := hmd1.ext he1
      refine ⟨(hblk.ext hmd5.2.1).cell hot, ?_, ?_⟩
      · refine Made.bytes hmd5 hx1 (fun k hk hks => by have := hmd1.1.lt hks; have := hxb1 k hk; omega) (by simp; omega) ?_
        intro s1 w6 hm6 hc6 hs6
        refine ⟨s1, rfl, (hblk.ext hm6.2.1).cell hot, ?_⟩
        refine Ef.bytes Try.underlying9 Try.underlying39 Try.underlying5 ?_
        intro x2 w7 hx2 he2 hxl2 hxb2 hxs2
        refine Made.bytes (hm6.ext he2) hx2 (fun k hk hks => by have := hm6.1.lt hks; have := hxb2 k hk; omega) (by simp at hl1 ⊢; omega) ?_
        intro s2 w8 hm8 hc8 hs8
        exact ⟨s2, rfl, hz s2 w8 (hhead _ rfl ▸ hm8) _⟩
      · refine Ef.bytes Try.underlying9 Try.underlying39 Try.underlying5 ?_
        intro x2 w9 hx2 he2 hxl2 hxb2 hxs2
        refine Made.bytes (hmd5.ext he2) (hx1.ext he2) (fun k hk hks => by have := hmd1.1.lt hks; have := hxb1 k hk; omega) (by simp; omega) ?_
        intro s1 w10 hm10 hc10 hs10
        refine ⟨s1, rfl, ?_⟩
        refine Made.bytes hm10 (hx2.ch hc10 fun k hk hks => by have := hmd5.1.lt hks; have := hxb2 k hk; omega) (fun k hk hks => ?_) (by simp at hl1 ⊢; omega) ?_
        · have h1 := hxb2 k hk
          rcases hs10 k hks with h | h
          · have := hmd5.1.lt h; omega
          · omega
        intro s2 w8 hm8 hc8 hs8
        exact ⟨s2, rfl, hz s2 w8 (hhead _ rfl ▸ hm8) _⟩
    · refine Ef.bytes Try.underlying9 Try.underlying39 Try.underlying5 ?_
      intro x2 w5 hx2 he2 hxl2 hxb2 hxs2
      have hmd5 := hmd1.ext he2
      refine ⟨(hblk.ext hmd5.2.1).cell hnm, ?_⟩
      refine Ef.bytes Try.underlying9 Try.underlying39 Try.underlying5 ?_
      intro x1 w9 hx1 he1 hxl1 hxb1 hxs1
      refine Made.bytes (hmd5.ext he1) hx1 (fun k hk hks => by have := hmd5.1.lt hks; have := hxb1 k hk; omega) (by simp; omega) ?_
      intro s1 w10 hm10 hc10 hs10
      refine ⟨s1, rfl, ?_⟩
      refine Made.bytes hm10 ((hx2.ext he1).ch hc10 fun k hk hks => by have := hmd1.1.lt hks; have := hxb2 k hk; omega) (fun k hk hks => ?_) (by simp at hl1 ⊢; omega) ?_
      · have h1 := hxb2 k hk
        rcases hs10 k hks with h | h
        · have := hmd1.1.lt h; omega
        · omega
      intro s2 w8 hm8 hc8 hs8
      exact ⟨s2, rfl, hz s2 w8 (hhead _ rfl ▸ hm8) _⟩
end Go.Proofs
