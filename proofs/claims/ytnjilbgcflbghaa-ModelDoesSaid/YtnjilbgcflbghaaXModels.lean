/- Laid by program. -/
import Derived.Test.YtnjilbgcflbghaaXF2
import Derived.Test.YtnjilbgcflbghaaXE2
import Derived.Test.YtnjilbgcflbghaaXF0
import Derived.Test.YtnjilbgcflbghaaXF1
/- pack: numbers and bytes, put behind others. -/
set_option linter.all false
namespace Go.Proofs
open Go Go.X

theorem pack_Number_spec {w : World} {s : Sl} {xs : List Value} {v : Int} (n : Nat) (hv : v = n) (hn : n < 18446744073709551616) (ho : Own w s 5 1 xs) (hl : s.len + 10 ≤ 140737488355328) :
    CallF Try.prog 125 #[s.v, .int .u64 v] w fun r w' => ∃ s', r = s'.v ∧ Own w' s' 5 1 (xs ++ u8s (vint n)) ∧ Ch s.blk w w' ∧ s'.len = s.len + (vint n).length ∧ (∀ b, s'.blk b → s.blk b ∨ w.heap.size ≤ b) := by
  subst hv
  refine f125_ok _ s n w ?_
  unfold f125
  refine ⟨fun q wr => ∃ (m : Nat) (ys : List Nat), q.2 = (m : Int) ∧ m < 18446744073709551616 ∧ Own wr q.1 5 1 (xs ++ u8s ys) ∧ Ch s.blk w wr ∧ ys ++ vint m = vint n ∧ q.1.len = s.len + ys.length ∧ (∀ b, q.1.blk b → s.blk b ∨ w.heap.size ≤ b),
    fun q _ => q.2.toNat, ⟨n, [], rfl, hn, by simpa using ho, Ch.refl _ _, rfl, by simp, fun b hb => .inl hb⟩, ?_⟩
  rintro ⟨q, v⟩ wr ⟨m, ys, rfl, hm, ho', hc, he, hql, hqb⟩
  have hlen := vint_len10 hn
  have hys : ys.length + (vint m).length = (vint n).length := by rw [← he]; simp
  have hpos := vint_pos m
  simp only at hql hqb ho'
  refine ⟨fun hb => ?_, fun hb => ?_⟩
  · have h128 : ¬ m < 128 := by simp at hb; omega
    refine Ef.append1 (s := q) Try.underlying39 Try.ti5 rfl (by decide) ho' (n := 1) rfl (by simp [Value.oneCell']) (by omega) (by omega) ?_
    intro s' w' ho2 hc2 hl2 hb2
    rw [show shrK .u64 (m : Int) 7 = ((m / 128 : Nat) : Int) from shrK_nat m 7 (by decide)]
    refine ⟨⟨m / 128, ys ++ [m % 128 + 128], rfl, by omega, ?_, ?_, ?_, ?_, ?_⟩, ?_⟩
    · rw [orK_128] at ho2
      simpa using ho2
    · exact hc.step hc2 (fun _ _ h => h) (fun i hi h => (hqb i h).resolve_right (by omega))
    · rw [← he, vint_big h128]; simp
    · rw [hl2, hql]; simp; omega
    · intro b hb3
      rcases hb2 b hb3 with h | h
      · exact hqb b h
      · right; have := hc.size; omega
    · simp; omega
  · have h128 : m < 128 := by simp at hb; omega
    refine Ef.append1 (s := q) Try.underlying39 Try.ti5 rfl (by decide) ho' (n := 1) rfl (by simp [Value.oneCell']) (by omega) (by omega) ?_
    intro s' w' ho2 hc2 hl2 hb2
    refine ⟨s', rfl, ?_, hc.step hc2 (fun _ _ h => h) (fun i hi h => (hqb i h).resolve_right (by omega)), ?_, ?_⟩
    · rw [wrap8_nat, Nat.mod_eq_of_lt (by omega)] at ho2
      rw [← he, vint_small h128]
      simpa using ho2
    · rw [hl2, hql, ← he, vint_small h128]; simp; omega
    · intro b hb3
      rcases hb2 b hb3 with h | h
      · exact hqb b h
      · right; have := hc.size; omega

theorem pack_Bytes_spec {w : World} {s x : Sl} {xs : List Value} {ys : List Nat} (ho : Own w s 5 1 xs) (hx : Sees w x 1 (u8s ys)) (hd : ∀ k, x.blk k → ¬ s.blk k) (hl : s.len + x.len + 10 ≤ 140737488355328) :
    CallF Try.prog 126 #[s.v, x.v] w fun r w' => ∃ s', r = s'.v ∧ Own w' s' 5 1 (xs ++ u8s (vint ys.length ++ ys)) ∧ Ch s.blk w w' ∧ s'.len = s.len + (vint ys.length ++ ys).length ∧ (∀ b, s'.blk b → s.blk b ∨ w.heap.size ≤ b) := by
  have hxl : ys.length = x.len := by simpa using hx.1
  refine f126_ok _ s x w ?_
  unfold f126
  rw [wrap_u64 (by omega) (by omega)]
  refine (pack_Number_spec x.len rfl (by omega) ho (by omega)).mono ?_
  rintro _ w1 ⟨s1, rfl, ho1, hc1, hl1, hb1⟩
  refine ⟨s1, rfl, ?_⟩
  have hn := vint_len10 (show x.len < 18446744073709551616 by omega)
  refine Ef.append Try.underlying39 Try.ti5 rfl (by decide) ho1 (hx.ch hc1 hd) (u8s_one ys) (by omega) (by omega) ?_
  intro s2 w2 ho2 hc2 hl2 hb2
  refine ⟨s2, rfl, ?_, hc1.step hc2 (fun _ _ h => h) (fun i hi h => (hb1 i h).resolve_right (by omega)), ?_, ?_⟩
  · rw [hxl]; simpa using ho2
  · rw [hl2, hl1, hxl]; simp; omega
  · intro b hb
    rcases hb2 b hb with h | h
    · exact hb1 b h
    · right; have := hc1.size; omega
end Go.Proofs

/- model.Event: an operation as bytes; sporranref01.Same: are bytes the same? -/
set_option linter.all false
namespace Go.Proofs
open Go Go.X

/-- An operation. -/
structure OpV where
  kind : Int
  name : ByteArray
  other : ByteArray
  number : Int
  quota : Int
  block : List Nat
abbrev isInt (n : Int) : Prop := -9223372036854775808 ≤ n ∧ n ≤ 9223372036854775807
structure OpV.OK (o : OpV) : Prop where
  kind : isInt o.kind
  number : isInt o.number
  quota : isInt o.quota
  block : o.block.length = 48
def OpV.list (o : OpV) : List Value := .int .i64 o.kind :: .string o.name :: .string o.other :: .int .i64 o.number :: .int .i64 o.quota :: u8s o.block
def OpV.cells (o : OpV) : Array Value := o.list.toArray
theorem OpV.size {o : OpV} (h : o.OK) : o.cells.size = 53 := by simp [OpV.cells, OpV.list, h.block]
theorem OpV.blk (o : OpV) (j : Nat) (v : Value) (h : (u8s o.block)[j]? = some v) : o.cells[5 + j]? = some v := by
  simp only [OpV.cells, OpV.list, List.getElem?_toArray]
  rw [show 5 + j = j + 1 + 1 + 1 + 1 + 1 from by omega]
  simpa using h

/-- What an event holds before the block. -/
def evHead (o : OpV) : List Nat := vint (u64n o.kind) ++ (vint (u64n o.number) ++ (vint (u64n o.quota) ++ (vint o.name.size ++ (bs o.name ++ (vint o.other.size ++ bs o.other)))))
def event (o : OpV) : List Nat := vint (u64n o.kind) ++ (vint (u64n o.number) ++ (vint (u64n o.quota) ++ (vint o.name.size ++ (bs o.name ++ (vint o.other.size ++ (bs o.other ++ if o.kind = 3 then o.block else []))))))
theorem event_head (o : OpV) : event o = evHead o ++ if o.kind = 3 then o.block else [] := by simp [event, evHead]
theorem event_inj {a b : OpV} (ha : a.OK) (hb : b.OK) (h : event a = event b) : a.kind = b.kind ∧ a.number = b.number ∧ a.quota = b.quota ∧ a.name = b.name ∧ a.other = b.other ∧ (a.kind = 3 → a.block = b.block) := by
  unfold event at h
  obtain ⟨h1, h⟩ := vint_append _ _ h
  obtain ⟨h2, h⟩ := vint_append _ _ h
  obtain ⟨h3, h⟩ := vint_append _ _ h
  obtain ⟨h4, h⟩ := vint_append _ _ h
  obtain ⟨h5, h⟩ := List.append_inj h (by simpa using h4)
  obtain ⟨h6, h⟩ := vint_append _ _ h
  obtain ⟨h7, h⟩ := List.append_inj h (by simpa using h6)
  have k := u64n_inj ha.kind hb.kind h1
  refine ⟨k, u64n_inj ha.number hb.number h2, u64n_inj ha.quota hb.quota h3, bs_inj h5, bs_inj h7, fun h3 => ?_⟩
  rw [if_pos h3, if_pos (k ▸ h3)] at h
  exact h
theorem event_len (o : OpV) : 5 ≤ (event o).length := by
  have h1 := vint_pos (u64n o.kind)
  have h2 := vint_pos (u64n o.number)
  have h3 := vint_pos (u64n o.quota)
  have h4 := vint_pos o.name.size
  have h5 := vint_pos o.other.size
  simp only [event, List.length_append]
  omega
theorem evHead_len (o : OpV) (h1 : o.name.size ≤ 1073741824) (h2 : o.other.size ≤ 1073741824) : (evHead o).length ≤ 50 + o.name.size + o.other.size := by
  have h1 := vint_len10 (u64n_lt o.kind)
  have h2 := vint_len10 (u64n_lt o.number)
  have h3 := vint_len10 (u64n_lt o.quota)
  have h4 := vint_len10 (show o.name.size < 18446744073709551616 by omega)
  have h5 := vint_len10 (show o.other.size < 18446744073709551616 by omega)
  simp only [evHead, List.length_append, bs_length]
  omega

theorem ref01_Same_spec {w : World} {a b : Sl} {xs ys : List Nat} (ha : Sees w a 1 (u8s xs)) (hb : Sees w b 1 (u8s ys)) (hl : a.len ≤ 1152921504606846976) :
    CallF Try.prog 21 #[a.v, b.v] w fun r w' => r = .bool (decide (xs = ys)) ∧ Ext w w' := by
  have hla : xs.length = a.len := by simpa using ha.1
  have hlb : ys.length = b.len := by simpa using hb.1
  refine f21_ok _ a b w ?_
  unfold f21
  refine ⟨fun hn => ⟨?_, Ch.refl _ _⟩, fun he => ?_⟩
  · have : xs ≠ ys := by
      rintro rfl
      simp at hn
      omega
    simp [this]
  have hab : a.len = b.len := by simp at he; omega
  refine ⟨fun q wr => ∃ i : Nat, q = (a, b, (i : Int)) ∧ i ≤ a.len ∧ Ext w wr ∧ xs.take i = ys.take i, fun q _ => a.len - q.2.2.toNat, ⟨0, rfl, by omega, Ch.refl _ _, by simp⟩, ?_⟩
  rintro _ wr ⟨i, rfl, hi, hc, ht⟩
  refine ⟨fun hlt => ?_, fun hge => ?_⟩
  · have hia : i < a.len := by simp at hlt; omega
    have hix : i < xs.length := by omega
    have hiy : i < ys.length := by omega
    obtain ⟨aa, haa⟩ : ∃ x, a.a = some x := by
      cases h : a.a with
      | none => have := ha.2.2.1 h; omega
      | some x => exact ⟨x, rfl⟩
    obtain ⟨ba, hba⟩ : ∃ x, b.a = some x := by
      cases h : b.a with
      | none => have := hb.2.2.1 h; omega
      | some x => exact ⟨x, rfl⟩
    have hca := (((ha.ext hc).ext (Ch.drew wr)).2.2.2 aa haa).2 i (.int .u8 (xs[i] : Int)) (by simp [u8s, hix])
    have hcb := (((hb.ext hc).ext (Ch.drew wr)).2.2.2 ba hba).2 i (.int .u8 (ys[i] : Int)) (by simp [u8s, hiy])
    refine ⟨aa, haa, by simp, by simpa using hlt, _, (xs[i] : Int), rfl, by simpa using hca, ?_⟩
    refine ⟨ba, hba, by simp, by simp; omega, _, (ys[i] : Int), rfl, by simpa using hcb, ?_⟩
    refine ⟨fun hne => ⟨?_, hc.trans (Ch.drew wr)⟩, fun heq => ?_⟩
    · have : xs ≠ ys := by rintro rfl; simp at hne
      simp [this]
    · have hxy : xs[i] = ys[i] := by simp at heq; omega
      rw [show ((i : Int) + 1) = ((i + 1 : Nat) : Int) from by omega, wrap_i64 (by omega) (by omega)]
      refine ⟨⟨i + 1, rfl, by omega, hc.trans (Ch.drew wr), ?_⟩, by simp; omega⟩
      rw [List.take_succ_eq_append_getElem hix, List.take_succ_eq_append_getElem hiy, ht, hxy]
  · have hia : i = a.len := by simp at hge; omega
    rw [List.take_of_length_le (by omega), List.take_of_length_le (by omega)] at ht
    exact ⟨by simp [ht], hc⟩

/-- What is known behind a row that is being put together. -/
def Made (w : World) (ys : List Nat) (s : Sl) (w' : World) : Prop := Own w' s 5 1 (u8s ys) ∧ Ext w w' ∧ s.len = ys.length ∧ ∀ b, s.blk b → w.heap.size ≤ b
theorem Made.number {w w1 : World} {ys : List Nat} {s : Sl} {v : Int} {K : Value → World → Prop} (n : Nat) (hm : Made w ys s w1) (hv : v = n) (hn : n < 18446744073709551616) (hl : ys.length + 10 ≤ 140737488355328)
    (k : ∀ s' w', Made w (ys ++ vint n) s' w' → Ch s.blk w1 w' → (∀ b, s'.blk b → s.blk b ∨ w1.heap.size ≤ b) → K s'.v w') : CallF Try.prog 125 #[s.v, .int .u64 v] w1 K := by
  obtain ⟨h1, h2, h3, h4⟩ := hm
  refine (pack_Number_spec n hv hn h1 (by omega)).mono ?_
  rintro _ w2 ⟨s', rfl, g1, g2, g3, g4⟩
  refine k s' w2 ⟨by simpa using g1, h2.step g2 (fun _ _ h => h.elim) (fun i hi h => absurd (h4 i h) (by omega)), by simp [g3, h3], fun b hb => ?_⟩ g2 g4
  rcases g4 b hb with h | h
  · exact h4 b h
  · have := h2.size; omega
theorem Made.bytes {w w1 : World} {ys zs : List Nat} {s x : Sl} {K : Value → World → Prop} (hm : Made w ys s w1) (hx : Sees w1 x 1 (u8s zs)) (hd : ∀ k, x.blk k → ¬ s.blk k) (hl : ys.length + zs.length + 10 ≤ 140737488355328)
    (k : ∀ s' w', Made w (ys ++ (vint zs.length ++ zs)) s' w' → Ch s.blk w1 w' → (∀ b, s'.blk b → s.blk b ∨ w1.heap.size ≤ b) → K s'.v w') : CallF Try.prog 126 #[s.v, x.v] w1 K := by
  obtain ⟨h1, h2, h3, h4⟩ := hm
  have hxl : zs.length = x.len := by simpa using hx.1
  refine (pack_Bytes_spec h1 hx hd (by omega)).mono ?_
  rintro _ w2 ⟨s', rfl, g1, g2, g3, g4⟩
  refine k s' w2 ⟨by simpa using g1, h2.step g2 (fun _ _ h => h.elim) (fun i hi h => absurd (h4 i h) (by omega)), by simp [g3, h3], fun b hb => ?_⟩ g2 g4
  rcases g4 b hb with h | h
  · exact h4 b h
  · have := h2.size; omega
theorem Made.ext {w w1 w2 : World} {ys : List Nat} {s : Sl} (h : Made w ys s w1) (hc : Ext w1 w2) : Made w ys s w2 := ⟨h.1.ext hc, h.2.1.trans hc, h.2.2⟩
theorem Made.from {w w1 w2 : World} {ys : List Nat} {s : Sl} (h : Made w1 ys s w2) (hc : Ext w w1) : Made w ys s w2 := ⟨h.1, hc.trans h.2.1, h.2.2.1, fun b hb => Nat.le_trans hc.size (h.2.2.2 b hb)⟩
theorem Made.nil (w : World) : Made w [] Sl.nil w := ⟨Own.nil _ _ _, Ch.refl _ _, rfl, fun b ⟨_, h, _⟩ => by cases h⟩
theorem Made.append {w w1 : World} {ys zs : List Nat} {s x : Sl} {K : Sl → World → Prop} (hm : Made w ys s w1) (hx : Sees w1 x 1 (u8s zs)) (hl : ys.length + zs.length ≤ 140737488355328)
    (k : ∀ s' w', Made w (ys ++ zs) s' w' → Ch s.blk w1 w' → K s' w') : Ef Try.prog (Builtin.append_ #[39, 39] 39 #[s.v, x.v]) Sl.v w1 K := by
  obtain ⟨h1, h2, h3, h4⟩ := hm
  have hxl : zs.length = x.len := by simpa using hx.1
  refine Ef.append Try.underlying39 Try.ti5 rfl (by decide) h1 hx (u8s_one zs) (by omega) (by omega) ?_
  intro s' w2 g1 g2 g3 g4
  refine k s' w2 ⟨by simpa using g1, h2.step g2 (fun _ _ h => h.elim) (fun i hi h => absurd (h4 i h) (by omega)), by simp [g3, h3, hxl], fun b hb => ?_⟩ g2
  rcases g4 b hb with h | h
  · exact h4 b h
  · have := h2.size; omega

def OpV.nums (o : OpV) : List Int := [o.kind, o.number, o.quota]
def OpV.pre (o : OpV) (i : Nat) : List Nat := (o.nums.take i).flatMap fun z => vint (u64n z)
theorem OpV.pre_len (o : OpV) (i : Nat) : (o.pre i).length ≤ 30 := by
  have h1 := vint_len10 (u64n_lt o.kind)
  have h2 := vint_len10 (u64n_lt o.number)
  have h3 := vint_len10 (u64n_lt o.quota)
  unfold OpV.pre OpV.nums
  rcases i with _ | _ | _ | i <;> simp <;> omega

set_option maxHeartbeats 1000000 in
theorem model_Event_spec {w : World} {o : OpV} (ho : o.OK) (hn : o.name.size ≤ 1073741824) (hm : o.other.size ≤ 1073741824) :
    CallF Try.prog 62 #[.agg o.cells] w fun r w' => ∃ s, r = s.v ∧ Made w (event o) s w' := by
  refine f62_ok _ o.cells w ?_
  unfold f62
  refine New.mk fun b w1 hb hs1 hblk hext => ?_
  have hk : o.cells[0]? = some (.int .i64 o.kind) := rfl
  have hnm : o.cells[1]? = some (.string o.name) := rfl
  have hot : o.cells[2]? = some (.string o.other) := rfl
  have hnu : o.cells[3]? = some (.int .i64 o.number) := rfl
  have hqu : o.cells[4]? = some (.int .i64 o.quota) := rfl
  simp only [addr_add, Nat.zero_add]
  refine Ld.blk hblk hk (Ld.blk hblk hnu (Ld.blk hblk hqu ?_))
  refine ⟨#[.int .i64 o.kind, .int .i64 o.number, .int .i64 o.quota], rfl, ?_⟩
  have hz : ∀ (s : Sl) (wr : World), Made w1 (evHead o) s wr → ∀ ag, f62_k1 (fun r w' => ∃ s, r = s.v ∧ Made w (event o) s w') ag (some ⟨b, 0, none⟩) s wr := by
    intro s wr hmd ag
    have hbr := hblk.ext hmd.2.1
    unfold f62_k1
    refine ⟨_, rfl, ?_⟩
    simp only [addr_add, Nat.zero_add]
    refine Ld.blk hbr hk ⟨fun h3 => ?_, fun h3 => ⟨s, rfl, ?_⟩⟩
    · have h3' : o.kind = 3 := by simpa using h3
      refine ⟨_, rfl, Cut.all (Nat.le_refl _) (fun a ha => by injection ha with ha; subst ha; rfl) ?_⟩
      refine Made.append hmd (Sees.part hbr (o.blk) (by simp [ho.block])) (by have := evHead_len o hn hm; rw [ho.block]; omega) ?_
      intro s' w' hm' _
      refine ⟨s', rfl, ?_⟩
      rw [event_head, if_pos h3']
      exact hm'.from hext
    · have h3' : ¬ o.kind = 3 := by simpa using h3
      rw [event_head, if_neg h3', List.append_nil]
      exact hmd.from hext
  refine ⟨fun q wr => ∃ (i : Nat) (s : Sl), q = (some ⟨b, 0, none⟩, s, #[.int .i64 o.kind, .int .i64 o.number, .int .i64 o.quota], (i : Int)) ∧ i ≤ 3 ∧ Made w1 (o.pre i) s wr, fun q _ => 3 - q.2.2.2.toNat,
    ⟨0, Sl.nil, rfl, by omega, Made.nil w1⟩, ?_⟩
  rintro _ wr ⟨i, s, rfl, hi, hmd⟩
  refine ⟨fun hlt => ?_, fun hge => ?_⟩
  · have hi3 : i < 3 := by simp at hlt; omega
    have hi' : i < o.nums.length := hi3
    refine ⟨by simp, by simp; omega, o.nums[i], ?_, ?_⟩
    · rcases i with _ | _ | _ | i <;> first | rfl | omega
    · refine Made.number _ hmd (wrap_u64n _) (u64n_lt _) (by have := o.pre_len i; omega) ?_
      intro s' w' hm' _ _
      refine ⟨s', rfl, ?_⟩
      rw [show ((i : Int) + 1) = ((i + 1 : Nat) : Int) from by omega, wrap_i64 (by omega) (by omega)]
      refine ⟨⟨i + 1, s', rfl, by omega, ?_⟩, by simp; omega⟩
      have : o.pre (i + 1) = o.pre i ++ vint (u64n o.nums[i]) := by
        unfold OpV.pre
        rw [List.take_succ_eq_append_getElem hi', List.flatMap_append]
        simp
      rw [this]
      exact hm'
  · have hi3 : i = 3 := by simp at hge; omega
    subst hi3
    have hpl := o.pre_len 3
    have hhead : ∀ ys, ys = o.pre 3 ++ (vint (bs o.name).length ++ bs o.name) ++ (vint (bs o.other).length ++ bs o.other) → ys = evHead o := by
      rintro _ rfl
      simp [evHead, OpV.pre, OpV.nums]
    have hl1 := vint_len10 (show (bs o.name).length < 18446744073709551616 by simp; omega)
    have hmd1 := hmd.ext (Ch.drew wr)
    have hb1 := hblk.ext hmd1.2.1
    refine ⟨_, rfl, ?_⟩
    simp only [addr_add, Nat.zero_add]
    refine LdH.blk hb1 hnm ⟨_, rfl, ?_⟩
    simp only [addr_add, Nat.zero_add]
    refine LdH.blk hb1 hot ?_
    refine ⟨?_, ?_⟩
    · refine Ef.bytes Try.underlying9 Try.underlying39 Try.underlying5 ?_
      intro x1 w5 hx1 he1 hxl1 hxb1 hxs1
      have hmd5 := hmd1.ext he1
      refine ⟨(hblk.ext hmd5.2.1).cell hot, ?_, ?_⟩
      · refine Made.bytes hmd5 hx1 (fun k hk hks => by have := hmd1.1.lt hks; have := hxb1 k hk; omega) (by simp; omega) ?_
        intro s1 w6 hm6 hc6 hs6
        refine ⟨s1, rfl, (hblk.ext hm6.2.1).cell hot, ?_⟩
        refine Ef.bytes Try.underlying9 Try.underlying39 Try.underlying5 ?_
        intro x2 w7 hx2 he2 hxl2 hxb2 hxs2
        refine Made.bytes (hm6.ext he2) hx2 (fun k hk hks => by have := hm6.1.lt hks; have := hxb2 k hk; omega) (by simp at hl1 ⊢; omega) ?_
        intro s2 w8 hm8 hc8 hs8
        exact ⟨s2, rfl, hz s2 w8 (hhead _ rfl ▸ hm8) _⟩
      · refine Ef.bytes Try.underlying9 Try.underlying39 Try.underlying5 ?_
        intro x2 w9 hx2 he2 hxl2 hxb2 hxs2
        refine Made.bytes (hmd5.ext he2) (hx1.ext he2) (fun k hk hks => by have := hmd1.1.lt hks; have := hxb1 k hk; omega) (by simp; omega) ?_
        intro s1 w10 hm10 hc10 hs10
        refine ⟨s1, rfl, ?_⟩
        refine Made.bytes hm10 (hx2.ch hc10 fun k hk hks => by have := hmd5.1.lt hks; have := hxb2 k hk; omega) (fun k hk hks => ?_) (by simp at hl1 ⊢; omega) ?_
        · have h1 := hxb2 k hk
          rcases hs10 k hks with h | h
          · have := hmd5.1.lt h; omega
          · omega
        intro s2 w8 hm8 hc8 hs8
        exact ⟨s2, rfl, hz s2 w8 (hhead _ rfl ▸ hm8) _⟩
    · refine Ef.bytes Try.underlying9 Try.underlying39 Try.underlying5 ?_
      intro x2 w5 hx2 he2 hxl2 hxb2 hxs2
      have hmd5 := hmd1.ext he2
      refine ⟨(hblk.ext hmd5.2.1).cell hnm, ?_⟩
      refine Ef.bytes Try.underlying9 Try.underlying39 Try.underlying5 ?_
      intro x1 w9 hx1 he1 hxl1 hxb1 hxs1
      refine Made.bytes (hmd5.ext he1) hx1 (fun k hk hks => by have := hmd5.1.lt hks; have := hxb1 k hk; omega) (by simp; omega) ?_
      intro s1 w10 hm10 hc10 hs10
      refine ⟨s1, rfl, ?_⟩
      refine Made.bytes hm10 ((hx2.ext he1).ch hc10 fun k hk hks => by have := hmd1.1.lt hks; have := hxb2 k hk; omega) (fun k hk hks => ?_) (by simp at hl1 ⊢; omega) ?_
      · have h1 := hxb2 k hk
        rcases hs10 k hks with h | h
        · have := hmd1.1.lt h; omega
        · omega
      intro s2 w8 hm8 hc8 hs8
      exact ⟨s2, rfl, hz s2 w8 (hhead _ rfl ▸ hm8) _⟩
end Go.Proofs

/- model: volumes in memory; Great, named, New, add, find. -/
set_option linter.all false
namespace Go.Proofs
open Go Go.X

def great (l : List OpV) : Bool := decide (80 < l.length) || l.any fun o => decide (100 < o.name.size) || decide (100 < o.other.size)
theorem OpV.one (o : OpV) : ∀ v ∈ o.cells, v.oneCell' = true := by
  intro v hv
  simp only [OpV.cells, OpV.list, List.mem_toArray, List.mem_cons] at hv
  rcases hv with rfl | rfl | rfl | rfl | rfl | hv <;> first | rfl | exact u8s_one _ v hv
theorem OpV.list_len {o : OpV} (h : o.OK) : o.list.length = 53 := by simp [OpV.list, h.block]

theorem law15_Great_spec {w : World} {s : Sl} {l : List OpV} (hs : Sees w s 53 (l.flatMap OpV.list)) (hl : ∀ o ∈ l, o.OK) :
    CallF Try.prog 35 #[s.v] w fun r w' => r = .bool (great l) ∧ Ext w w' := by
  have hlen : ∀ r ∈ l, r.list.length = 53 := fun r hr => OpV.list_len (hl r hr)
  have hc := hs.count hlen (by decide)
  refine f35_ok _ s w ?_
  unfold f35
  refine ⟨fun hg => ?_, fun hg => ?_⟩
  · have : 80 < l.length := by simp at hg; omega
    exact ⟨by simp [great, this], Ch.refl _ _⟩
  have h80 : ¬ 80 < l.length := by simp at hg; omega
  refine ⟨fun q wr => ∃ i : Nat, q = (s, (s.len : Int), (i : Int)) ∧ i ≤ l.length ∧ Ext w wr ∧ ∀ o ∈ l.take i, (decide (100 < o.name.size) || decide (100 < o.other.size)) = false, fun q _ => s.len - q.2.2.toNat, ⟨0, rfl, by omega, Ch.refl _ _, by simp⟩, ?_⟩
  rintro _ wr ⟨i, rfl, hi, hx, ht⟩
  refine ⟨fun hlt => ?_, fun hge => ?_⟩
  · have hil : i < l.length := by simp at hlt; omega
    obtain ⟨a, ha, hsp, hrow, hsz⟩ := (hs.ext hx).at hlen (by decide) i hil
    refine ⟨a, ha, by simp, by simp; omega, _, _, rfl, hsz, by simpa using hrow, ?_⟩
    refine New.mk fun b w1 hb hs1 hblk hext => ?_
    refine StN.all hblk hsz (OpV.one l[i]) (by decide) ?_
    intro w2 hblk2 hc2 hz2
    have hnm : (l[i].list.toArray)[1]? = some (.string l[i].name) := rfl
    have hot : (l[i].list.toArray)[2]? = some (.string l[i].other) := rfl
    have hx2 : Ext w w2 := (hx.trans hext).step hc2 (fun _ _ h => h.elim) (fun k hk h => by have := hx.size; omega)
    simp only [addr_add, Nat.zero_add]
    have hmem : l[i] ∈ l := List.getElem_mem hil
    have hgo : ∀ t : Bool, t = (decide (100 < l[i].name.size) || decide (100 < l[i].other.size)) → f35_k1 (fun r w' => r = .bool (great l) ∧ Ext w w')
        (fun s' w' => (∃ j : Nat, s' = (s, (s.len : Int), (j : Int)) ∧ j ≤ l.length ∧ Ext w w' ∧ ∀ o ∈ l.take j, (decide (100 < o.name.size) || decide (100 < o.other.size)) = false) ∧ s.len - s'.2.2.toNat < s.len - (i : Int).toNat) s (s.len : Int) (i : Int) t w2 := by
      intro t ht'
      unfold f35_k1
      refine ⟨fun h1 => ⟨?_, hx2⟩, fun h1 => ⟨⟨i + 1, ?_, by omega, hx2, ?_⟩, by simp only [Int.toNat_natCast]; rw [show (i : Int) + 1 = ((i + 1 : Nat) : Int) from by omega, wrap_i64 (by omega) (by omega)]; simp; omega⟩⟩
      · have : l.any (fun o => decide (100 < o.name.size) || decide (100 < o.other.size)) = true := List.any_eq_true.2 ⟨l[i], hmem, by rw [← ht', h1]⟩
        simp [great, this]
      · rw [show (i : Int) + 1 = ((i + 1 : Nat) : Int) from by omega, wrap_i64 (by omega) (by omega)]
      · intro o ho
        rw [List.take_succ_eq_append_getElem hil] at ho
        rcases List.mem_append.1 ho with ho | ho
        · exact ht o ho
        · simp only [List.mem_singleton] at ho
          rw [ho, ← ht', h1]
    refine Ld.blk hblk2 hnm ⟨fun h1 => hgo _ ?_, fun h1 => Ld.blk hblk2 hot (hgo _ ?_)⟩
    · have : 100 < l[i].name.size := by simp at h1; omega
      simp [this]
    · have : ¬ 100 < l[i].name.size := by simp at h1; omega
      simp [this]
      omega
  · have hil : i = l.length := by simp at hge; omega
    subst hil
    rw [List.take_length] at ht
    refine ⟨?_, hx⟩
    have : l.any (fun o => decide (100 < o.name.size) || decide (100 < o.other.size)) = false := List.any_eq_false.2 fun o ho => by simpa using ht o ho
    simp only [great, this, h80, decide_false, Bool.or_false]

/-- May a text be a name? -/
def namedB (s : ByteArray) : Bool := ((bs s).all fun c => decide (32 < c) && decide (c ≤ 126)) && decide (s.size ≠ 0) && decide (s.size ≤ 20)
theorem model_named_spec {w : World} {s : ByteArray} (hl : s.size ≤ 1073741824) : CallF Try.prog 150 #[.string s] w fun r w' => r = .bool (namedB s) ∧ w' = w := by
  refine f150_ok _ s w ?_
  unfold f150
  refine ⟨fun q wr => ∃ i : Nat, q = (s, (s.size : Int), (i : Int)) ∧ i ≤ s.size ∧ wr = w ∧ ∀ c ∈ (bs s).take i, 32 < c ∧ c ≤ 126, fun q _ => s.size - q.2.2.toNat, ⟨0, rfl, by omega, rfl, by simp⟩, ?_⟩
  rintro _ wr ⟨i, rfl, hi, rfl, ht⟩
  refine ⟨fun hlt => ?_, fun hge => ?_⟩
  · have hil : i < s.size := by simp at hlt; omega
    have hib : i < (bs s).length := by simpa using hil
    have hc : (s.data.toList.getD i 0).toNat = (bs s)[i] := by
      have hi' : i < s.data.size := hil
      simp only [bs, List.getElem_map, List.getD, Array.getElem?_toList, Array.getElem?_eq_getElem hi', Option.getD_some, Array.getElem_toList]
    simp only [Int.toNat_natCast, hc]
    refine ⟨by simp, by simp; omega, ?_⟩
    have hgo : ∀ t : Bool, t = !(decide (32 < (bs s)[i]) && decide ((bs s)[i] ≤ 126)) → f150_k1 (fun r w' => r = .bool (namedB s) ∧ w' = wr)
        (fun s' w' => (∃ j : Nat, s' = (s, (s.size : Int), (j : Int)) ∧ j ≤ s.size ∧ w' = wr ∧ ∀ c ∈ (bs s).take j, 32 < c ∧ c ≤ 126) ∧ s.size - s'.2.2.toNat < s.size - (i : Int).toNat) s (s.size : Int) (i : Int) t wr := by
      intro t ht'
      unfold f150_k1
      have hw : IntKind.i64.wrap ((i : Int) + 1) = ((i + 1 : Nat) : Int) := by rw [wrap_i64 (by omega) (by omega)]; omega
      refine ⟨fun h1 => ⟨?_, rfl⟩, fun h1 => ⟨⟨i + 1, by rw [hw], by omega, rfl, ?_⟩, by rw [hw]; simp; omega⟩⟩
      · have : ((bs s).all fun c => decide (32 < c) && decide (c ≤ 126)) = false := by
          rw [List.all_eq_false]
          refine ⟨_, List.getElem_mem hib, ?_⟩
          rw [h1] at ht'
          simp at ht' ⊢
          omega
        simp [namedB, this]
      · intro c hc'
        rw [List.take_succ_eq_append_getElem hib] at hc'
        rcases List.mem_append.1 hc' with hc' | hc'
        · exact ht c hc'
        · simp only [List.mem_singleton] at hc'
          subst hc'
          rw [h1] at ht'
          simp at ht'
          omega
    refine ⟨fun h1 => hgo _ ?_, fun h1 => ⟨by simp, by simp; omega, hgo _ ?_⟩⟩
    · have : ¬ 32 < (bs s)[i] := by simp at h1; omega
      simp [this]
    · have h32 : 32 < (bs s)[i] := by simp at h1; omega
      by_cases h126 : (bs s)[i] ≤ 126
      · have : ¬ ((126 : Int) < ((bs s)[i] : Int)) := by omega
        simp [h32, h126, this]
      · have : ((126 : Int) < ((bs s)[i] : Int)) := by omega
        simp [h32, h126, this]
  · have hil : i = s.size := by simp at hge; omega
    subst hil
    rw [List.take_of_length_le (by simp)] at ht
    have hall : ((bs s).all fun c => decide (32 < c) && decide (c ≤ 126)) = true := by
      rw [List.all_eq_true]
      intro c hc
      have := ht c hc
      simp [this]
    have he : seq s (ByteArray.mk #[]) = decide (s.size = 0) := by
      rw [seq_eq, Bool.eq_iff_iff, decide_eq_true_eq, decide_eq_true_eq]
      constructor
      · rintro rfl; rfl
      · intro h
        cases s with | mk d =>
        have : d.size = 0 := h
        rw [Array.eq_empty_of_size_eq_zero this]
    rw [he]
    refine ⟨fun h1 => ⟨?_, rfl⟩, fun h1 => ⟨?_, rfl⟩⟩
    · have : s.size ≠ 0 := by simpa using h1
      simp only [namedB, hall, this, Bool.true_and, ne_eq, not_false_eq_true, decide_true]
      congr 1
      simp only [decide_eq_decide]
      omega
    · have : s.size = 0 := by simpa using h1
      simp [namedB, this]
end Go.Proofs

/- model: volumes in memory; find, add, block. -/
set_option linter.all false
namespace Go.Proofs
open Go Go.X

structure VolV where
  quota : Int
  frozen : Bool
  blocks : List (Int × List Nat)
def VolV.vals (v : VolV) : List (Int × Value) := v.blocks.map fun p => (p.1, arrV p.2)
/-- A volume in memory. -/
structure VolAt (w : World) (b r : Nat) (v : VolV) : Prop where
  top : Blk w b #[.int .i64 v.quota, .bool v.frozen, .map (some r)] 170
  map : MapB w r (Value.int .i64) v.vals
  len : ∀ p ∈ v.blocks, p.2.length = 48
theorem VolAt.ch {S : Nat → Prop} {w w' : World} {b r : Nat} {v : VolV} (h : VolAt w b r v) (hc : Ch S w w') (h1 : ¬ S b) (h2 : ¬ S r) : VolAt w' b r v := ⟨h.top.ch hc h1, h.map.ch hc h2, h.len⟩
theorem VolAt.ext {w w' : World} {b r : Nat} {v : VolV} (h : VolAt w b r v) (hc : Ext w w') : VolAt w' b r v := h.ch hc id id
/-- Volumes, with their places. -/
abbrev Vols := List (ByteArray × Nat × Nat × VolV)
def Vols.vals (M : Vols) : List (ByteArray × Value) := M.map fun p => (p.1, .pointer (some ⟨p.2.1, 0, none⟩))
def Vols.foot (M : Vols) : List Nat := M.flatMap fun p => [p.2.1, p.2.2.1]
def Vols.st (M : Vols) : List (ByteArray × VolV) := M.map fun p => (p.1, p.2.2.2)
structure MRep (w : World) (m rv : Nat) (M : Vols) : Prop where
  top : Blk w m #[.map (some rv)] 165
  map : MapB w rv Value.string M.vals
  vols : ∀ p ∈ M, VolAt w p.2.1 p.2.2.1 p.2.2.2
  nd : (m :: rv :: M.foot).Nodup
theorem Vols.mem_foot {M : Vols} {k : Nat} : k ∈ M.foot ↔ ∃ p ∈ M, k = p.2.1 ∨ k = p.2.2.1 := by
  simp only [Vols.foot, List.mem_flatMap, List.mem_cons, List.not_mem_nil, or_false]
theorem MRep.ch {S : Nat → Prop} {w w' : World} {m rv : Nat} {M : Vols} (h : MRep w m rv M) (hc : Ch S w w') (hs : ∀ k, k = m ∨ k = rv ∨ k ∈ M.foot → ¬ S k) : MRep w' m rv M :=
  ⟨h.top.ch hc (hs _ (.inl rfl)), h.map.ch hc (hs _ (.inr (.inl rfl))), fun p hp => (h.vols p hp).ch hc (hs _ (.inr (.inr (Vols.mem_foot.2 ⟨p, hp, .inl rfl⟩)))) (hs _ (.inr (.inr (Vols.mem_foot.2 ⟨p, hp, .inr rfl⟩)))), h.nd⟩
theorem MRep.ext {w w' : World} {m rv : Nat} {M : Vols} (h : MRep w m rv M) (hc : Ext w w') : MRep w' m rv M := h.ch hc fun _ _ => id
theorem MRep.lt {w : World} {m rv : Nat} {M : Vols} (h : MRep w m rv M) {k : Nat} (hk : k = m ∨ k = rv ∨ k ∈ M.foot) : k < w.heap.size := by
  rcases hk with rfl | rfl | hk
  · exact h.top.lt
  · exact h.map.lt
  · obtain ⟨p, hp, rfl | rfl⟩ := Vols.mem_foot.1 hk
    · exact (h.vols p hp).top.lt
    · exact (h.vols p hp).map.lt
theorem mget_mem {κ β : Type} [DecidableEq κ] {l : List (κ × β)} {k : κ} {v : β} (h : mget l k = some v) : (k, v) ∈ l := by
  unfold mget at h
  obtain ⟨p, hp, rfl⟩ := Option.map_eq_some_iff.1 h
  have h1 := List.find?_some hp
  have h2 := List.mem_of_find?_eq_some hp
  simp only [decide_eq_true_eq] at h1
  rw [← h1]
  exact h2
theorem Vols.mget_vals (M : Vols) (k : ByteArray) : mget M.vals k = (mget M k).map fun x => .pointer (some ⟨x.1, 0, none⟩) :=
  mget_map M (fun x => .pointer (some ⟨x.1, 0, none⟩)) k
theorem Vols.mget_st (M : Vols) (k : ByteArray) : mget M.st k = (mget M k).map fun x => x.2.2 := by
  unfold Vols.st mget
  induction M with
  | nil => rfl
  | cons p l ih => simp only [List.map_cons, List.find?_cons]; split <;> simp_all
theorem VolV.mget_vals (v : VolV) (k : Int) : mget v.vals k = (mget v.blocks k).map arrV := mget_map v.blocks arrV k
theorem KeyLaw.names : KeyLaw Try.prog 9 Value.string := KeyLaw.string Try.underlying9
theorem KeyLaw.ints : KeyLaw Try.prog 3 (Value.int .i64) := KeyLaw.int Try.underlying3

def findCode (M : Vols) (o : OpV) : Option Nat × Int :=
  match mget M o.name with
  | none => (none, 5)
  | some (b, _, v) => if o.number < 0 ∨ 1048576 ≤ o.number then (none, 2) else if v.frozen = true ∧ o.kind ≠ 5 then (none, 10) else (some b, 0)
theorem model_find_spec {w : World} {m rv : Nat} {M : Vols} {o : OpV} (hm : MRep w m rv M) :
    CallF Try.prog 151 #[.pointer (some ⟨m, 0, none⟩), .agg o.cells] w fun r w' => r = .tuple #[.pointer ((findCode M o).1.map fun b => ⟨b, 0, none⟩), .int .i64 (findCode M o).2] ∧ Ext w w' := by
  refine f151_ok _ (some ⟨m, 0, none⟩) o.cells w ?_
  unfold f151
  refine New.mk fun b w1 hb hs1 hblk hext => ⟨_, rfl, ?_⟩
  have hk : o.cells[0]? = some (.int .i64 o.kind) := rfl
  have hnm : o.cells[1]? = some (.string o.name) := rfl
  have hnu : o.cells[3]? = some (.int .i64 o.number) := rfl
  have hd := Ch.drew w1
  have hm1 := (hm.ext hext).ext hd
  have hb1 := hblk.ext hd
  have hx1 := hext.trans hd
  simp only [addr_add, Nat.zero_add]
  refine Ld.blk hm1.top rfl (Ld.blk hb1 hnm ?_)
  refine ⟨_, _, lookup_run KeyLaw.names Try.underlying163 Try.ti167 hm1.map o.name, ?_⟩
  rw [Vols.mget_vals]
  cases hg : mget M o.name with
  | none =>
    refine ⟨none, false, rfl, fun _ => ⟨?_, hx1⟩, fun h => by cases h⟩
    simp [findCode, hg]
  | some x =>
    obtain ⟨vb, vr, v⟩ := x
    refine ⟨some ⟨vb, 0, none⟩, true, rfl, fun h => (by cases h), fun _ => ?_⟩
    have hv := hm1.vols _ (mget_mem hg)
    simp only at hv
    have hgo : ∀ t : Bool, t = decide (o.number < 0 ∨ 1048576 ≤ o.number) → f151_k0 (fun r w' => r = .tuple #[.pointer ((findCode M o).1.map fun b => ⟨b, 0, none⟩), .int .i64 (findCode M o).2] ∧ Ext w w') (some ⟨b, 0, none⟩) (some ⟨vb, 0, none⟩) t (World.drew w1) := by
      intro t ht
      unfold f151_k0
      refine ⟨fun h1 => ⟨?_, hx1⟩, fun h1 => ⟨_, rfl, ?_⟩⟩
      · rw [h1] at ht
        have ht' : o.number < 0 ∨ 1048576 ≤ o.number := by simpa using ht.symm
        simp [findCode, hg, ht']
      have ht' : ¬ (o.number < 0 ∨ 1048576 ≤ o.number) := by rw [h1] at ht; simpa using ht.symm
      simp only [addr_add, Nat.zero_add]
      have hgo2 : ∀ t : Bool, t = decide (v.frozen = true ∧ o.kind ≠ 5) → f151_k1 (fun r w' => r = .tuple #[.pointer ((findCode M o).1.map fun b => ⟨b, 0, none⟩), .int .i64 (findCode M o).2] ∧ Ext w w') (some ⟨vb, 0, none⟩) t (World.drew w1) := by
        intro t ht
        unfold f151_k1
        refine ⟨fun h1 => ⟨?_, hx1⟩, fun h1 => ⟨?_, hx1⟩⟩
        · rw [h1] at ht
          have h2 : v.frozen = true ∧ o.kind ≠ 5 := by simpa using ht.symm
          simp [findCode, hg, ht', h2]
        · rw [h1] at ht
          have h2 : ¬ (v.frozen = true ∧ o.kind ≠ 5) := by simpa using ht.symm
          simp only [findCode, hg, if_neg ht', if_neg h2]
          rfl
      refine Ld.blk hv.top rfl ⟨fun hf => ⟨_, rfl, ?_⟩, fun hf => hgo2 _ ?_⟩
      · simp only [addr_add, Nat.zero_add]
        refine Ld.blk hb1 hk (hgo2 _ ?_)
        simp [hf]
      · simp [hf]
    refine Ld.blk hb1 hnu ⟨fun h1 => hgo _ ?_, fun h1 => Ld.blk hb1 hnu (hgo _ ?_)⟩
    · have : o.number < 0 := by simpa using h1
      simp [this]
    · have : ¬ o.number < 0 := by simpa using h1
      simp [this]

def addCode (M : Vols) (name : ByteArray) (v : VolV) (code : Int) : Int :=
  if namedB name = false ∨ v.quota < 0 ∨ 1048576 < v.quota then 1 else if code ≠ 0 then code else if (mget M name).isSome then 6 else if v.quota < v.blocks.length then 8 else 0
theorem mset_new {κ β : Type} [DecidableEq κ] {l : List (κ × β)} {k : κ} {v : β} (h : mget l k = none) : mset l k v = l ++ [(k, v)] := by
  unfold mset
  rw [if_neg]
  intro hc
  unfold mget at h
  rw [Option.map_eq_none_iff, List.find?_eq_none] at h
  simp only [List.contains_eq_mem, List.mem_map, decide_eq_true_eq] at hc
  obtain ⟨p, hp, rfl⟩ := hc
  exact h p hp (by simp)
/-- add: a code; when it is 0 the volume is there. -/
theorem model_add_spec {w : World} {m rv b : Nat} {ro : Option Nat} {M : Vols} {name : ByteArray} {v : VolV} {code : Int} (hm : MRep w m rv M) (hv : Blk w b #[.int .i64 v.quota, .bool v.frozen, .map ro] 170)
    (hr : code = 0 → ∃ r, ro = some r ∧ VolAt w b r v ∧ (m :: rv :: (M ++ [(name, b, r, v)] : Vols).foot).Nodup) (hn : name.size ≤ 1073741824) :
    CallF Try.prog 92 #[.pointer (some ⟨m, 0, none⟩), .string name, .pointer (some ⟨b, 0, none⟩), .int .i64 code] w fun c w' =>
      c = .int .i64 (addCode M name v code) ∧ Ch (· = rv) w w' ∧ (addCode M name v code ≠ 0 → MRep w' m rv M) ∧ (addCode M name v code = 0 → ∀ r, ro = some r → MRep w' m rv (M ++ [(name, b, r, v)])) := by
  refine f92_ok _ (some ⟨m, 0, none⟩) name (some ⟨b, 0, none⟩) code w ?_
  unfold f92
  refine ⟨_, rfl, ?_⟩
  simp only [addr_add, Nat.zero_add]
  refine Ld.blk hm.top rfl ⟨_, _, lookup_run KeyLaw.names Try.underlying163 Try.ti167 hm.map name, ?_⟩
  rw [Vols.mget_vals]
  generalize hres : (fun (c : Value) (w' : World) => c = .int .i64 (addCode M name v code) ∧ Ch (· = rv) w w' ∧ (addCode M name v code ≠ 0 → MRep w' m rv M) ∧ (addCode M name v code = 0 → ∀ r, ro = some r → MRep w' m rv (M ++ [(name, b, r, v)]))) = R
  have hgo : ∀ t : Bool, t = decide (namedB name = false ∨ v.quota < 0 ∨ 1048576 < v.quota) → f92_k0 R (some ⟨m, 0, none⟩) name (some ⟨b, 0, none⟩) code (mget M name).isSome t w := by
    intro t ht
    subst hres
    unfold f92_k0
    have hend : ∀ c : Int, addCode M name v code = c → c ≠ 0 → ∀ w', Ext w w' → (Value.int .i64 c = .int .i64 (addCode M name v code) ∧ Ch (· = rv) w w' ∧ (addCode M name v code ≠ 0 → MRep w' m rv M) ∧ (addCode M name v code = 0 → ∀ r, ro = some r → MRep w' m rv (M ++ [(name, b, r, v)]))) := by
      intro c hc h0 w' hx
      subst hc
      exact ⟨rfl, hx.mono fun _ _ h => h.elim, fun _ => hm.ext hx, fun h => absurd h h0⟩
    refine ⟨fun h1 => ?_, fun h1 => ?_⟩
    · rw [h1] at ht
      have ht' := of_decide_eq_true ht.symm
      exact hend 1 (by simp [addCode, ht']) (by decide) w (Ch.refl _ _)
    have ht' : ¬ (namedB name = false ∨ v.quota < 0 ∨ 1048576 < v.quota) := by rw [h1] at ht; exact of_decide_eq_false ht.symm
    refine ⟨fun h2 => ?_, fun h2 => ?_⟩
    · have : code ≠ 0 := by simpa using h2
      exact hend code (by simp only [addCode, if_neg ht', if_pos this]) this w (Ch.refl _ _)
    have hc0 : code = 0 := by simpa using h2
    refine ⟨fun h3 => ?_, fun h3 => ⟨_, rfl, ?_⟩⟩
    · exact hend 6 (by simp only [addCode, if_neg ht', hc0, ne_eq, not_true_eq_false, if_false, h3, if_true]) (by decide) w (Ch.refl _ _)
    have hno : mget M name = none := by simpa using h3
    obtain ⟨r, rfl, hva, hnd⟩ := hr hc0
    have hd := Ch.drew w
    have hva1 := hva.ext hd
    have hm1 := hm.ext hd
    simp only [addr_add, Nat.zero_add]
    refine Ld.blk hva1.top rfl ⟨_, rfl, ?_⟩
    simp only [addr_add, Nat.zero_add]
    refine LdH.blk hva1.top rfl ⟨_, _, len_run Try.underlying168 hva1.map, ?_⟩
    refine ⟨hva1.top.cell rfl, fun h4 => ?_, fun h4 => ⟨_, rfl, ?_⟩⟩
    · have : v.quota < v.blocks.length := by simpa [VolV.vals] using h4
      exact hend 8 (by simp only [addCode, if_neg ht', hc0, ne_eq, not_true_eq_false, if_false, hno, Option.isSome_none, Bool.false_eq_true, if_pos this]) (by decide) _ hd
    · have h4' : ¬ v.quota < v.blocks.length := by simpa [VolV.vals] using h4
      have hcode : addCode M name v code = 0 := by simp only [addCode, if_neg ht', hc0, ne_eq, not_true_eq_false, if_false, hno, Option.isSome_none, Bool.false_eq_true, if_neg h4']
      simp only [addr_add, Nat.zero_add]
      refine Ld.blk hm1.top rfl ?_
      obtain ⟨w', e1, e2, e3, e4⟩ := mapUpdate_run (P := Try.prog) KeyLaw.names Try.underlying163 hm1.map name (.pointer (some ⟨b, 0, none⟩))
      refine ⟨w', e1, ?_⟩
      refine ⟨by rw [hcode], hd.step e3 (fun _ _ h => h.elim) (fun _ _ h => h), fun h => absurd hcode h, fun _ r' hr' => ?_⟩
      obtain rfl : r = r' := by simpa using hr'
      have hnotrv : ∀ k, k = m ∨ k ∈ (M ++ [(name, b, r, v)] : Vols).foot → ¬ k = rv := by
        rintro k hk rfl
        rw [List.nodup_cons, List.nodup_cons] at hnd
        rcases hk with rfl | hk
        · exact hnd.1 (by simp)
        · exact hnd.2.1 hk
      refine ⟨hm1.top.ch e3 (hnotrv _ (.inl rfl)), ?_, fun p hp => ?_, hnd⟩
      · have : mset M.vals name (.pointer (some ⟨b, 0, none⟩)) = (M ++ [(name, b, r, v)] : Vols).vals := by
          rw [mset_new (by rw [Vols.mget_vals, hno]; rfl)]
          simp [Vols.vals]
        rw [← this]
        exact e2
      · have hpf : ∀ k, k = p.2.1 ∨ k = p.2.2.1 → ¬ k = rv := fun k hk => hnotrv k (.inr (Vols.mem_foot.2 ⟨p, hp, hk⟩))
        rcases List.mem_append.1 hp with hp | hp
        · exact (hm1.vols p hp).ch e3 (hpf _ (.inl rfl)) (hpf _ (.inr rfl))
        · simp only [List.mem_singleton] at hp
          subst hp
          exact hva1.ch e3 (hpf _ (.inl rfl)) (hpf _ (.inr rfl))
  have hsome : ∃ pt, (Value.tuple #[((mget M name).map fun x => Value.pointer (some ⟨x.1, 0, none⟩)).getD (.pointer none), .bool ((mget M name).map fun x => Value.pointer (some ⟨x.1, 0, none⟩)).isSome]) = .tuple #[.pointer pt, .bool (mget M name).isSome] := by
    cases mget M name with
    | none => exact ⟨none, rfl⟩
    | some x => exact ⟨_, rfl⟩
  obtain ⟨pt, hpt⟩ := hsome
  refine ⟨pt, (mget M name).isSome, hpt, ?_⟩
  refine (model_named_spec hn).mono ?_
  rintro _ _ ⟨rfl, rfl⟩
  refine ⟨_, rfl, fun h1 => hgo _ ?_, fun h1 => ⟨_, rfl, ?_⟩⟩
  · have : namedB name = false := by simpa using h1
    simp [this]
  have hnb : namedB name = true := by simpa using h1
  simp only [addr_add, Nat.zero_add]
  refine Ld.blk hv rfl ⟨fun h2 => hgo _ ?_, fun h2 => ⟨_, rfl, ?_⟩⟩
  · have : v.quota < 0 := by simpa using h2
    simp [this]
  simp only [addr_add, Nat.zero_add]
  refine Ld.blk hv rfl (hgo _ ?_)
  have : ¬ v.quota < 0 := by simpa using h2
  simp [this, hnb]
end Go.Proofs

/- model: operations on blocks. -/
set_option linter.all false
namespace Go.Proofs
open Go Go.X

/-- An answer's cells. -/
def ansL (err : Int) (there : Bool) (block : List Nat) (names : Value) : List Value := .int .i64 err :: .bool there :: (u8s block ++ [names])
def zeros48 : List Nat := List.replicate 48 0
def nilV : Value := .slice none 0 0
theorem ans_zero : Try.z73 = (ansL 0 false zeros48 nilV).toArray := rfl
abbrev ansP : Nat → Option (Nat × Nat) := ((#[(0, 1), (1, 1), (2, 48), (50, 1)] : Array (Nat × Nat))[·]?)
section
variable {e e' : Int} {t t' : Bool} {b b' : List Nat} {n n' : Value} {rest : List (Nat × Value)}
theorem ans_err : Instr.fill ansP (ansL e t b n).toArray ((0, .int .i64 e') :: rest) = Instr.fill ansP (ansL e' t b n).toArray rest := by
  exact (fill_step (cells := (ansL e t b n).toArray) (off := 0) (size := 1) [] [.int .i64 e] (.bool t :: (u8s b ++ [n])) rfl rfl rfl rfl rfl).trans rfl
theorem ans_there : Instr.fill ansP (ansL e t b n).toArray ((1, .bool t') :: rest) = Instr.fill ansP (ansL e t' b n).toArray rest := by
  exact (fill_step (cells := (ansL e t b n).toArray) (off := 1) (size := 1) [.int .i64 e] [.bool t] (u8s b ++ [n]) rfl rfl rfl rfl rfl).trans rfl
theorem ans_block (hb : b.length = 48) (hb' : b'.length = 48) : Instr.fill ansP (ansL e t b n).toArray ((2, arrV b') :: rest) = Instr.fill ansP (ansL e t b' n).toArray rest := by
  rw [fill_step (off := 2) (size := 48) [.int .i64 e, .bool t] (u8s b) [n] rfl (by simp [ansL]) rfl (by simpa using hb) (by simpa [arrV, Value.cells] using hb')]
  simp [ansL, arrV, Value.cells]
theorem ans_names (hb : b.length = 48) (hn : n'.cells.size = 1) (hn' : n'.cells.toList = [n']) : Instr.fill ansP (ansL e t b n).toArray ((3, n') :: rest) = Instr.fill ansP (ansL e t b n').toArray rest := by
  rw [fill_step (off := 50) (size := 1) (.int .i64 e :: .bool t :: u8s b) [n] [] rfl (by simp [ansL]) (by simp [hb]) rfl hn]
  simp [ansL, hn']
theorem ans_one (hn : n.oneCell' = true) : ∀ v ∈ (ansL e t b n).toArray, v.oneCell' = true := by
  intro v hv
  simp only [ansL, List.mem_toArray, List.mem_cons, List.mem_append, List.not_mem_nil, or_false] at hv
  rcases hv with rfl | rfl | hv | rfl <;> first | rfl | exact u8s_one _ v hv | exact hn
theorem ans_size (hb : b.length = 48) : (ansL e t b n).toArray.size = 51 := by simp [ansL, hb]
end
theorem zeros48_len : zeros48.length = 48 := by simp [zeros48]

/-- One volume changed. -/
def updV (M : Vols) (name : ByteArray) (v : VolV) : Vols := M.map fun p => if p.1 = name then (p.1, p.2.1, p.2.2.1, v) else p
theorem updV_foot (M : Vols) (name : ByteArray) (v : VolV) : (updV M name v).foot = M.foot := by
  unfold Vols.foot updV
  rw [List.flatMap_map, List.flatMap_def, List.flatMap_def]
  congr 1
  apply List.map_congr_left
  intro p _
  by_cases h : p.1 = name <;> simp [h]
theorem updV_vals (M : Vols) (name : ByteArray) (v : VolV) : (updV M name v).vals = M.vals := by
  unfold Vols.vals updV
  rw [List.map_map]
  apply List.map_congr_left
  intro p _
  simp only [Function.comp]
  split <;> rfl
theorem MRep.keys {w : World} {m rv : Nat} {M : Vols} (h : MRep w m rv M) : (M.map (·.1)).Nodup := by
  obtain ⟨es, c, _, _, h3, _⟩ := h.map
  rw [show M.map (·.1) = M.vals.map (·.1) from by rw [Vols.vals, List.map_map]; rfl]
  exact h3
theorem mget_key {β : Type} {l : List (ByteArray × β)} {k : ByteArray} {v : β} (hn : (l.map (·.1)).Nodup) (h : (k, v) ∈ l) : mget l k = some v := by
  induction l with
  | nil => cases h
  | cons p l ih =>
    simp only [List.map_cons, List.nodup_cons] at hn
    unfold mget
    rw [List.find?_cons]
    rcases List.mem_cons.1 h with rfl | h
    · simp
    · have : ¬ p.1 = k := fun e => hn.1 (e ▸ List.mem_map.2 ⟨_, h, rfl⟩)
      simp only [this, decide_false]
      exact ih hn.2 h
theorem MRep.upd {w w' : World} {m rv b r : Nat} {M : Vols} {name : ByteArray} {v v' : VolV} (h : MRep w m rv M) (hg : mget M name = some (b, r, v)) (hc : Ch (· = r) w w') (hmap : MapB w' r (Value.int .i64) v'.vals)
    (hq : v'.quota = v.quota) (hf : v'.frozen = v.frozen) (hl : ∀ p ∈ v'.blocks, p.2.length = 48) : MRep w' m rv (updV M name v') := by
  have hmem := mget_mem hg
  have hrf : r ∈ M.foot := Vols.mem_foot.2 ⟨_, hmem, .inr rfl⟩
  have hnd := h.nd
  rw [List.nodup_cons, List.nodup_cons] at hnd
  have hmr : m ≠ r := fun e => hnd.1 (by simp [e, hrf])
  have hrr : rv ≠ r := fun e => hnd.2.1 (e ▸ hrf)
  refine ⟨h.top.ch hc hmr, by rw [updV_vals]; exact h.map.ch hc hrr, fun p hp => ?_, by rw [updV_foot]; exact h.nd⟩
  -- the blocks of distinct entries are apart
  have hapart : ∀ q ∈ M, q.1 ≠ name → q.2.1 ≠ r ∧ q.2.2.1 ≠ r := by
    intro q hq hqn
    have hsub := hnd.2.2
    have : ∀ (L : Vols), (∀ x ∈ L, x ∈ M) → L.foot.Nodup → q ∈ L → (name, b, r, v) ∈ L → q.2.1 ≠ r ∧ q.2.2.1 ≠ r := by
      intro L
      induction L with
      | nil => intro _ _ h; cases h
      | cons x L ih =>
        intro hx hnd hq hn
        have hft : Vols.foot (x :: L) = [x.2.1, x.2.2.1] ++ Vols.foot L := rfl
        rw [hft, List.nodup_append] at hnd
        rcases List.mem_cons.1 hq with rfl | hq'
        · rcases List.mem_cons.1 hn with hn | hn
          · exact absurd (by rw [← hn]) hqn
          · have hr : r ∈ Vols.foot L := Vols.mem_foot.2 ⟨_, hn, .inr rfl⟩
            exact ⟨hnd.2.2 _ (by simp) _ hr, hnd.2.2 _ (by simp) _ hr⟩
        · rcases List.mem_cons.1 hn with rfl | hn
          · have h1 : q.2.1 ∈ Vols.foot L := Vols.mem_foot.2 ⟨_, hq', .inl rfl⟩
            have h2 : q.2.2.1 ∈ Vols.foot L := Vols.mem_foot.2 ⟨_, hq', .inr rfl⟩
            exact ⟨fun e => hnd.2.2 r (by simp) _ h1 e.symm, fun e => hnd.2.2 r (by simp) _ h2 e.symm⟩
          · exact ih (fun y hy => hx y (List.mem_cons_of_mem _ hy)) hnd.2.1 hq' hn
    exact this M (fun x hx => hx) hsub hq hmem
  obtain ⟨q, hqm, rfl⟩ := List.mem_map.1 hp
  by_cases hqn : q.1 = name
  · have hqe : q.2 = (b, r, v) := by
      have := mget_key h.keys (show (q.1, q.2) ∈ M from hqm)
      rw [hqn, hg] at this
      exact (Option.some.inj this).symm
    simp only [hqn, if_true, hqe]
    have hva := h.vols _ hmem
    have hbr : b ≠ r := by
      intro e
      have : ([b, r] : List Nat).Sublist M.foot := by
        unfold Vols.foot
        have := List.sublist_flatten_of_mem (L := M.map fun p => [p.2.1, p.2.2.1]) (l := [b, r]) (List.mem_map.2 ⟨_, hmem, rfl⟩)
        simpa [List.flatMap] using this
      have := hnd.2.2.sublist this
      simp [e] at this
    refine ⟨?_, hmap, hl⟩
    rw [hq, hf]
    exact hva.top.ch hc hbr
  · simp only [hqn, if_false]
    obtain ⟨h1, h2⟩ := hapart q hqm hqn
    exact (h.vols q hqm).ch hc h1 h2

/-- What an operation on a block does. -/
def blockS (M : Vols) (o : OpV) : Vols × Int × Bool × List Nat :=
  match findCode M o with
  | (none, e) => (M, e, false, zeros48)
  | (some _, _) =>
    match mget M o.name with
    | none => (M, 0, false, zeros48)
    | some (_, _, v) =>
      if o.kind = 5 then (M, 0, (mget v.blocks o.number).isSome, (mget v.blocks o.number).getD zeros48)
      else if o.kind = 4 then (updV M o.name { v with blocks := mdel v.blocks o.number }, 0, false, zeros48)
      else if (mget v.blocks o.number).isSome = false ∧ v.quota ≤ v.blocks.length then (M, 8, false, zeros48)
      else (updV M o.name { v with blocks := mset v.blocks o.number o.block }, 0, false, zeros48)
theorem findCode_none {M : Vols} {o : OpV} {e : Int} (h : findCode M o = (none, e)) : e ≠ 0 := by
  unfold findCode at h
  split at h
  · simp at h; omega
  · split at h
    · simp at h; omega
    · split at h
      · simp at h; omega
      · simp at h
theorem findCode_some {M : Vols} {o : OpV} {b : Nat} {e : Int} (h : findCode M o = (some b, e)) : e = 0 ∧ ∃ r v, mget M o.name = some (b, r, v) := by
  unfold findCode at h
  split at h
  · simp at h
  · rename_i b' r v hg
    split at h
    · simp at h
    · split at h
      · simp at h
      · simp at h
        exact ⟨h.2.symm, r, v, by rw [hg, h.1]⟩
theorem blk_zero : Try.z65 = (u8s zeros48).toArray := rfl
theorem mset_len {v : VolV} {n : Int} {x : List Nat} (h : ∀ p ∈ v.blocks, p.2.length = 48) (hx : x.length = 48) : ∀ p ∈ mset v.blocks n x, p.2.length = 48 := by
  intro p hp
  unfold mset at hp
  split at hp
  · obtain ⟨q, hq, rfl⟩ := List.mem_map.1 hp
    split
    · exact hx
    · exact h q hq
  · rcases List.mem_append.1 hp with hp | hp
    · exact h p hp
    · simp only [List.mem_singleton] at hp
      subst hp; exact hx
def BlockPost (w : World) (m rv : Nat) (M : Vols) (o : OpV) : Value → World → Prop := fun r w' =>
  r = .agg (ansL (blockS M o).2.1 (blockS M o).2.2.1 (blockS M o).2.2.2 nilV).toArray ∧ MRep w' m rv (blockS M o).1 ∧ Ch (· ∈ M.foot) w w' ∧ (blockS M o).2.2.2.length = 48
theorem model_block_spec {w : World} {m rv : Nat} {M : Vols} {o : OpV} (hm : MRep w m rv M) (ho : o.OK) :
    CallF Try.prog 93 #[.pointer (some ⟨m, 0, none⟩), .agg o.cells] w (BlockPost w m rv M o) := by
  refine f93_ok _ (some ⟨m, 0, none⟩) o.cells w ?_
  unfold f93
  have hk : o.cells[0]? = some (.int .i64 o.kind) := rfl
  have hnu : o.cells[3]? = some (.int .i64 o.number) := rfl
  refine New.mk fun b1 w1 hb1 hs1 hblk1 hx1 => New.mk fun b2 w2 hb2 hs2 hblk2 hx2 => ?_
  have hblk1' := hblk1.ext hx2
  have hm2 := (hm.ext hx1).ext hx2
  refine LdN.all hblk1' (OpV.size ho) ?_
  refine (model_find_spec hm2).mono ?_
  rintro _ w3 ⟨rfl, hx3⟩
  have hm3 := hm2.ext hx3
  have hx := (hx1.trans hx2).trans hx3
  have hbk := hblk1'.ext hx3
  have hba := hblk2.ext hx3
  have hsz3 := hx3.size
  refine ⟨_, _, rfl, ?_⟩
  rcases hfc : findCode M o with ⟨op, e⟩
  cases op with
  | none =>
    have he := findCode_none hfc
    refine ⟨fun _ => ?_, fun h => absurd (by simpa using h) he⟩
    refine ⟨(ansL e false zeros48 nilV).toArray, by rw [ans_zero]; exact ans_err, ?_⟩
    refine StN.all hba (ans_size zeros48_len) (ans_one rfl) (by rw [ans_zero]; exact ans_size zeros48_len) ?_
    intro w4 hb4 hc4 hz4
    refine LdN.all hb4 (ans_size zeros48_len) ?_
    have hbs : blockS M o = (M, e, false, zeros48) := by simp only [blockS, hfc]
    unfold BlockPost
    rw [hbs]
    refine ⟨rfl, hm3.ch hc4 fun k hk h => ?_, hx.step hc4 (fun _ _ h => h.elim) (fun k hk h => by have := hx1.size; omega), zeros48_len⟩
    have := hm.lt hk; have := hx1.size; omega
  | some vb =>
    obtain ⟨rfl, vr, v, hg⟩ := findCode_some hfc
    refine ⟨fun h => absurd h (by simp), fun _ => ⟨_, rfl, ?_⟩⟩
    have hva := hm3.vols _ (mget_mem hg)
    simp only at hva
    have hd := Ch.drew w3
    have hvad := hva.ext hd
    simp only [addr_add, Nat.zero_add]
    refine LdH.blk hvad.top rfl (LdH.blk (hbk.ext hd) hnu ?_)
    -- what is behind the look-up
    have hgo : ∀ (w4 : World) (bb : Nat), Ext w3 w4 → w3.heap.size ≤ bb → Blk w4 bb (u8s ((mget v.blocks o.number).getD zeros48)).toArray 65 →
        f93_k0 (BlockPost w m rv M o) (some ⟨b1, 0, none⟩) (some ⟨b2, 0, none⟩) (some ⟨vb, 0, none⟩) (some ⟨bb, 0, none⟩) (mget v.blocks o.number).isSome w4 := by
      intro w4 bb hx4 hbb hbk4
      have hm4 := hm3.ext hx4
      have hva4 := hva.ext hx4
      have ho4 := hbk.ext hx4
      have ha4 := hba.ext hx4
      have hlen : ((mget v.blocks o.number).getD zeros48).length = 48 := by
        cases hq : mget v.blocks o.number with
        | none => exact zeros48_len
        | some x => exact hva.len _ (mget_mem hq)
      have hxx := hx.trans hx4
      unfold f93_k0
      refine ⟨_, rfl, ?_⟩
      simp only [addr_add, Nat.zero_add]
      refine Ld.blk ho4 hk ⟨fun h5 => ?_, fun h5 => ⟨_, rfl, ?_⟩⟩
      · have h5' : o.kind = 5 := by simpa using h5
        refine LdN.all hbk4 (by simpa using hlen) ?_
        refine ⟨(ansL 0 (mget v.blocks o.number).isSome ((mget v.blocks o.number).getD zeros48) nilV).toArray, by rw [ans_zero, ans_there]; exact ans_block zeros48_len hlen, ?_⟩
        refine StN.all ha4 (ans_size hlen) (ans_one rfl) (by rw [ans_zero]; exact ans_size zeros48_len) ?_
        intro w5 hb5 hc5 hz5
        refine LdN.all hb5 (ans_size hlen) ?_
        have hbs : blockS M o = (M, 0, (mget v.blocks o.number).isSome, (mget v.blocks o.number).getD zeros48) := by simp only [blockS, hfc, hg, if_pos h5']
        unfold BlockPost
        rw [hbs]
        refine ⟨rfl, hm4.ch hc5 fun k hk h => ?_, hxx.step hc5 (fun _ _ h => h.elim) (fun k hk h => by have := hx1.size; omega), hlen⟩
        have := hm.lt hk; have := hx1.size; omega
      have h5' : ¬ o.kind = 5 := by simpa using h5
      -- the end of the operations that change
      have hend : ∀ (w5 : World) (M' : Vols) (e : Int), Ch (· ∈ M.foot) w4 w5 → MRep w5 m rv M' → blockS M o = (M', 0, false, zeros48) → M'.foot = M.foot → f93_k1 (BlockPost w m rv M o) (some ⟨b2, 0, none⟩) w5 := by
        intro w5 M' e hc5 hm5 hbs hft
        unfold f93_k1
        have hnf : ¬ b2 ∈ M.foot := fun h => by have := hm.lt (.inr (.inr h)); have := hx1.size; omega
        have ha5 := ha4.ch hc5 hnf
        refine LdN.all ha5 (by rw [ans_zero]; exact ans_size zeros48_len) ?_
        refine StN.all ha5 (by rw [ans_zero]; exact ans_size zeros48_len) (by rw [ans_zero]; exact ans_one rfl) (by rw [ans_zero]; exact ans_size zeros48_len) ?_
        intro w6 hb6 hc6 hz6
        refine LdN.all hb6 (by rw [ans_zero]; exact ans_size zeros48_len) ?_
        unfold BlockPost
        rw [hbs]
        refine ⟨by rw [ans_zero], hm5.ch hc6 fun k hk h => ?_, (hxx.step hc5 (fun _ _ h => h.elim) (fun k _ h => h)).step hc6 (fun _ _ h => h) (fun k hk h => ?_), zeros48_len⟩
        · rw [hft] at hk
          have := hm.lt hk; have := hx1.size; omega
        · have := hx1.size; omega
      simp only [addr_add, Nat.zero_add]
      refine Ld.blk ho4 hk ⟨fun h4 => ⟨_, rfl, ?_⟩, fun h4 => ?_⟩
      · have h4' : o.kind = 4 := by simpa using h4
        have hd4 := Ch.drew w4
        simp only [addr_add, Nat.zero_add]
        refine Ld.blk (hva4.ext hd4).top rfl ⟨_, rfl, ?_⟩
        simp only [addr_add, Nat.zero_add]
        refine Ld.blk (ho4.ext hd4) hnu ?_
        obtain ⟨w5, e1, e2, e3, e4⟩ := delete_run (P := Try.prog) (ts := #[168, 3]) (ty := 0) KeyLaw.ints rfl Try.underlying168 (hva4.ext hd4).map o.number
        refine ⟨_, w5, e1, ?_⟩
        rw [show mdel v.vals o.number = ({ v with blocks := mdel v.blocks o.number } : VolV).vals from mdel_map v.blocks arrV o.number] at e2
        refine hend w5 (updV M o.name { v with blocks := mdel v.blocks o.number }) 0 ?_ ((hm4.ext hd4).upd hg e3 e2 rfl rfl ?_) ?_ (updV_foot _ _ _)
        · exact hd4.step e3 (fun _ _ h => h.elim) (fun k _ h => h ▸ Vols.mem_foot.2 ⟨_, mget_mem hg, .inr rfl⟩)
        · intro p hp
          exact hva.len p (List.mem_filter.1 hp).1
        · simp only [blockS, hfc, hg, if_neg h5', if_pos h4']
      have h4' : ¬ o.kind = 4 := by simpa using h4
      -- a write
      have hgo2 : ∀ (w5 : World) (t : Bool), Ext w4 w5 → t = decide ((mget v.blocks o.number).isSome = false ∧ v.quota ≤ v.blocks.length) → f93_k2 (BlockPost w m rv M o) (some ⟨b1, 0, none⟩) (some ⟨b2, 0, none⟩) (some ⟨vb, 0, none⟩) t w5 := by
        intro w5 t hx5 ht
        have hm5 := hm4.ext hx5
        unfold f93_k2
        refine ⟨fun h1 => ?_, fun h1 => ⟨_, rfl, ?_⟩⟩
        · rw [h1] at ht
          have ht' := of_decide_eq_true ht.symm
          refine ⟨(ansL 8 false zeros48 nilV).toArray, by rw [ans_zero]; exact ans_err, ?_⟩
          refine StN.all (ha4.ext hx5) (ans_size zeros48_len) (ans_one rfl) (by rw [ans_zero]; exact ans_size zeros48_len) ?_
          intro w6 hb6 hc6 hz6
          refine LdN.all hb6 (ans_size zeros48_len) ?_
          have hbs : blockS M o = (M, 8, false, zeros48) := by simp only [blockS, hfc, hg, if_neg h5', if_neg h4', if_pos ht']
          unfold BlockPost
          rw [hbs]
          refine ⟨rfl, hm5.ch hc6 fun k hk h => ?_, (hxx.trans hx5).step hc6 (fun _ _ h => h.elim) (fun k hk h => ?_), zeros48_len⟩
          · have := hm.lt hk; have := hx1.size; omega
          · have := hx1.size; omega
        · rw [h1] at ht
          have ht' := of_decide_eq_false ht.symm
          have hd5 := Ch.drew w5
          have hva5 := (hva4.ext hx5).ext hd5
          have ho5 := (ho4.ext hx5).ext hd5
          simp only [addr_add, Nat.zero_add]
          refine Ld.blk hva5.top rfl ⟨_, rfl, ?_⟩
          simp only [addr_add, Nat.zero_add]
          refine Ld.blk ho5 hnu ⟨_, rfl, ?_⟩
          simp only [addr_add, Nat.zero_add]
          refine LdN.blk (ds := (u8s o.block).toArray) ho5 (fun j v hj => o.blk j v (by simpa using hj)) (by simp [ho.block]) ?_
          obtain ⟨w6, e1, e2, e3, e4⟩ := mapUpdate_run (P := Try.prog) KeyLaw.ints Try.underlying168 hva5.map o.number (arrV o.block)
          refine ⟨w6, e1, ?_⟩
          rw [show mset v.vals o.number (arrV o.block) = ({ v with blocks := mset v.blocks o.number o.block } : VolV).vals from mset_map v.blocks arrV o.number o.block] at e2
          refine hend w6 (updV M o.name { v with blocks := mset v.blocks o.number o.block }) 0 ?_ ((hm5.ext hd5).upd hg e3 e2 rfl rfl (mset_len hva.len ho.block)) ?_ (updV_foot _ _ _)
          · exact (hx5.trans hd5).step e3 (fun _ _ h => h.elim) (fun k _ h => h ▸ Vols.mem_foot.2 ⟨_, mget_mem hg, .inr rfl⟩)
          · simp only [blockS, hfc, hg, if_neg h5', if_neg h4', if_neg ht']
      refine ⟨fun h3 => ⟨_, rfl, ?_⟩, fun h3 => hgo2 _ _ (Ch.drew w4) ?_⟩
      · have hd4 := Ch.drew w4
        have hva5 := hva4.ext hd4
        simp only [addr_add, Nat.zero_add]
        refine Ld.blk hva5.top rfl ⟨_, rfl, ?_⟩
        simp only [addr_add, Nat.zero_add]
        refine LdH.blk hva5.top rfl ⟨_, _, len_run Try.underlying168 hva5.map, ?_⟩
        refine ⟨hva5.top.cell rfl, hgo2 _ _ hd4 ?_⟩
        have h3' : (mget v.blocks o.number).isSome = false := by simpa using h3
        simp [h3', VolV.vals]
      · have h3' : (mget v.blocks o.number).isSome = true := by simpa using h3
        simp [h3']
    have hlk : ∀ w4, Ext w3 w4 → (Instr.lookup 168 (.map (some vr)) (.int .i64 o.number) true).run Try.prog w4 = .ok (.tuple #[arrV ((mget v.blocks o.number).getD zeros48), .bool (mget v.blocks o.number).isSome]) w4 := by
      intro w4 hx4
      have := lookup_run (P := Try.prog) KeyLaw.ints Try.underlying168 Try.ti65 (hva.ext hx4).map o.number
      rw [VolV.mget_vals] at this
      rw [this]
      cases mget v.blocks o.number with
      | none => simp only [Option.map_none, Option.getD_none, Option.isSome_none]; rw [blk_zero]; rfl
      | some x => rfl
    have hlen : ((mget v.blocks o.number).getD zeros48).length = 48 := by
      cases hq : mget v.blocks o.number with
      | none => exact zeros48_len
      | some x => exact hva.len _ (mget_mem hq)
    refine ⟨⟨_, _, hlk _ hd, _, _, rfl, ?_⟩, ?_⟩
    · refine New.mk fun b4 w4 hb4 hs4 hblk4 hx4 => ?_
      refine StN.all hblk4 (by simpa using hlen) (fun v hv => u8s_one _ v (by simpa using hv)) (by decide) ?_
      intro w5 hb5 hc5 hz5
      refine hgo w5 b4 ((hd.trans hx4).step hc5 (fun _ _ h => h.elim) (fun k hk h => ?_)) ?_ hb5
      · have := hd.size; omega
      · have := hd.size; omega
    · refine New.mk fun b4 w4 hb4 hs4 hblk4 hx4 => ?_
      have hx34 := hd.trans hx4
      refine ⟨(hbk.ext hx34).cell hnu, (hva.ext hx34).top.cell rfl, _, _, hlk _ hx34, _, _, rfl, ?_⟩
      refine StN.all hblk4 (by simpa using hlen) (fun v hv => u8s_one _ v (by simpa using hv)) (by decide) ?_
      intro w5 hb5 hc5 hz5
      refine hgo w5 b4 (hx34.step hc5 (fun _ _ h => h.elim) (fun k hk h => ?_)) ?_ hb5
      · have := hd.size; omega
      · have := hd.size; omega
end Go.Proofs

/- model: New, Do (operations of five kinds), Distinct. -/
set_option linter.all false
namespace Go.Proofs
open Go Go.X

theorem model_New_spec {w : World} : CallF Try.prog 36 #[] w fun r w' => ∃ m rv, r = .pointer (some ⟨m, 0, none⟩) ∧ MRep w' m rv [] ∧ Ext w w' ∧ w.heap.size ≤ m ∧ w.heap.size ≤ rv := by
  refine f36_ok _ w ?_
  unfold f36
  obtain ⟨w1, e1, e2, e3, e4⟩ := makeMap_run (P := Try.prog) (w := w) (enc := Value.string) (t := 163)
  refine ⟨some w.heap.size, w1, e1, #[.map (some w.heap.size)], rfl, ?_⟩
  refine New.mk fun b w2 hb hs2 hblk hx2 => ?_
  refine ⟨b, w.heap.size, rfl, ⟨hblk, e2.ext hx2, fun p hp => (by cases hp), ?_⟩, e3.trans hx2, by omega, Nat.le_refl _⟩
  simp [Vols.foot]
  omega

theorem vol_fill (q : Int) (r : Option Nat) : Instr.fill ((#[(0, 1), (1, 1), (2, 1)] : Array (Nat × Nat))[·]?) #[.int .i64 0, .bool false, .map none] [(0, .int .i64 q), (2, .map r)] = some #[.int .i64 q, .bool false, .map r] := rfl
def newVol (o : OpV) : VolV := ⟨o.quota, false, []⟩
theorem model_Do_create {w : World} {m rv : Nat} {M : Vols} {o : OpV} (hm : MRep w m rv M) (ho : o.OK) (hk1 : o.kind = 1) (hn : o.name.size ≤ 1073741824) :
    CallF Try.prog 37 #[.pointer (some ⟨m, 0, none⟩), .agg o.cells] w fun r w' => ∃ b r', r = .agg (ansL (addCode M o.name (newVol o) 0) false zeros48 nilV).toArray ∧
      (addCode M o.name (newVol o) 0 = 0 → MRep w' m rv (M ++ [(o.name, b, r', newVol o)])) ∧ (addCode M o.name (newVol o) 0 ≠ 0 → MRep w' m rv M) ∧ Ch (· = rv) w w' ∧ w.heap.size ≤ b ∧ w.heap.size ≤ r' := by
  refine f37_ok _ (some ⟨m, 0, none⟩) o.cells w ?_
  unfold f37
  have hk : o.cells[0]? = some (.int .i64 o.kind) := rfl
  have hnm : o.cells[1]? = some (.string o.name) := rfl
  have hqu : o.cells[4]? = some (.int .i64 o.quota) := rfl
  refine New.mk fun b1 w1 hb1 hs1 hblk1 hx1 => New.mk fun b2 w2 hb2 hs2 hblk2 hx2 => ?_
  have hblk1' := hblk1.ext hx2
  have hm2 := (hm.ext hx1).ext hx2
  simp only [addr_add, Nat.zero_add]
  refine Ld.blk hblk1' hk ⟨fun _ => Ld.blk hblk1' hnm (Ld.blk hblk1' hqu ?_), fun h => absurd hk1 (by simpa using h)⟩
  obtain ⟨w3, e1, e2, e3, e4⟩ := makeMap_run (P := Try.prog) (w := w2) (enc := Value.int .i64) (t := 168)
  refine ⟨some w2.heap.size, w3, e1, _, vol_fill o.quota (some w2.heap.size), ?_⟩
  refine New.mk fun b4 w4 hb4 hs4 hblk4 hx4 => ?_
  have hx24 := e3.trans hx4
  have hm4 := hm2.ext hx24
  have hva : VolAt w4 b4 w2.heap.size (newVol o) := ⟨hblk4, e2.ext hx4, fun p hp => (by cases hp)⟩
  have hlt : ∀ k, k = m ∨ k = rv ∨ k ∈ M.foot → k < w.heap.size := fun k hk => hm.lt hk
  have hnd : (m :: rv :: (M ++ [(o.name, b4, w2.heap.size, newVol o)] : Vols).foot).Nodup := by
    have h0 := hm.nd
    have hft : (M ++ [(o.name, b4, w2.heap.size, newVol o)] : Vols).foot = M.foot ++ [b4, w2.heap.size] := by simp [Vols.foot]
    rw [hft, show m :: rv :: (M.foot ++ [b4, w2.heap.size]) = (m :: rv :: M.foot) ++ [b4, w2.heap.size] from rfl, List.nodup_append]
    refine ⟨h0, by simp; omega, fun a ha c hc => ?_⟩
    have h1 : a < w.heap.size := hlt a (by simpa using ha)
    have h2 : w.heap.size ≤ c := by
      have hw1 := hx1.size
      have hw2 := hx2.size
      simp only [List.mem_cons, List.not_mem_nil, or_false] at hc
      rcases hc with rfl | rfl <;> omega
    omega
  refine (model_add_spec (ro := some w2.heap.size) hm4 hva.top (fun _ => ⟨_, rfl, hva, hnd⟩) hn).mono ?_
  rintro _ w5 ⟨rfl, hc5, hne, heq⟩
  have hrvlt := hlt rv (.inr (.inl rfl))
  have hw1 := hx1.size
  have hw2 := hx2.size
  have hba := (hblk2.ext hx24).ch hc5 (by omega)
  refine ⟨_, rfl, (ansL (addCode M o.name (newVol o) 0) false zeros48 nilV).toArray, by rw [ans_zero]; exact ans_err, ?_⟩
  refine StN.all hba (ans_size zeros48_len) (ans_one rfl) (by rw [ans_zero]; exact ans_size zeros48_len) ?_
  intro w6 hb6 hc6 hz6
  refine LdN.all hb6 (ans_size zeros48_len) ?_
  have hfresh : ∀ k, k = m ∨ k = rv ∨ k ∈ (M ++ [(o.name, b4, w2.heap.size, newVol o)] : Vols).foot → ¬ k = b2 := by
    intro k hk
    have hft : (M ++ [(o.name, b4, w2.heap.size, newVol o)] : Vols).foot = M.foot ++ [b4, w2.heap.size] := by simp [Vols.foot]
    rw [hft, List.mem_append] at hk
    rcases hk with hk | hk | hk | hk
    · have := hlt k (.inl hk); omega
    · have := hlt k (.inr (.inl hk)); omega
    · have := hlt k (.inr (.inr hk)); omega
    · simp only [List.mem_cons, List.not_mem_nil, or_false] at hk
      rcases hk with rfl | rfl <;> omega
  refine ⟨b4, w2.heap.size, rfl, fun h => (heq h _ rfl).ch hc6 hfresh, fun h => (hne h).ch hc6 fun k hk => ?_, ?_, by omega, by omega⟩
  · exact hfresh k (hk.imp id fun h => h.imp id fun h => by simp [Vols.foot] at h ⊢; exact .inl h)
  · exact (((hx1.trans hx2).trans hx24).step hc5 (fun _ _ h => h.elim) (fun _ _ h => h)).step hc6 (fun _ _ h => h) (fun k hk h => absurd h (by omega))

theorem model_Do_block {w : World} {m rv : Nat} {M : Vols} {o : OpV} (hm : MRep w m rv M) (ho : o.OK) (hk1 : o.kind = 3 ∨ o.kind = 4 ∨ o.kind = 5) :
    CallF Try.prog 37 #[.pointer (some ⟨m, 0, none⟩), .agg o.cells] w (BlockPost w m rv M o) := by
  refine f37_ok _ (some ⟨m, 0, none⟩) o.cells w ?_
  unfold f37
  have hk : o.cells[0]? = some (.int .i64 o.kind) := rfl
  refine New.mk fun b1 w1 hb1 hs1 hblk1 hx1 => New.mk fun b2 w2 hb2 hs2 hblk2 hx2 => ?_
  have hblk1' := hblk1.ext hx2
  have hm2 := (hm.ext hx1).ext hx2
  have hw1 := hx1.size
  have hw2 := hx2.size
  simp only [addr_add, Nat.zero_add]
  have hgo : f37_k0 (BlockPost w m rv M o) (some ⟨m, 0, none⟩) (some ⟨b1, 0, none⟩) (some ⟨b2, 0, none⟩) o.kind true w2 := by
    unfold f37_k0
    refine ⟨fun _ => ?_, fun h => (by cases h)⟩
    refine LdN.all hblk1' (OpV.size ho) ?_
    refine (model_block_spec hm2 ho).mono ?_
    rintro _ w3 ⟨rfl, hm3, hc3, hl3⟩
    have hb2f : ¬ b2 ∈ M.foot := fun h => by have := hm.lt (.inr (.inr h)); omega
    refine ⟨_, rfl, ?_⟩
    refine StN.all (hblk2.ch hc3 hb2f) (ans_size hl3) (ans_one rfl) (by rw [ans_zero]; exact ans_size zeros48_len) ?_
    intro w4 hb4 hc4 hz4
    refine LdN.all hb4 (ans_size hl3) ?_
    have hft : (blockS M o).1.foot = M.foot := by
      unfold blockS
      split
      · rfl
      · split
        · rfl
        · split
          · rfl
          · split
            · exact updV_foot _ _ _
            · split
              · rfl
              · exact updV_foot _ _ _
    refine ⟨rfl, hm3.ch hc4 fun k hk h => ?_, ((hx1.trans hx2).step hc3 (fun _ _ h => h.elim) (fun _ _ h => h)).step hc4 (fun _ _ h => h) (fun k hk h => absurd h (by omega)), hl3⟩
    rw [hft] at hk
    have := hm.lt hk; omega
  refine Ld.blk hblk1' hk ⟨fun h => ?_, fun _ => ⟨fun h => ?_, fun _ => ⟨fun h => ?_, fun h3 => ⟨fun h => ?_, fun h4 => ?_⟩⟩⟩⟩
  · have : o.kind = 1 := by simpa using h
    omega
  · have : o.kind = 2 := by simpa using h
    omega
  · rw [h]; exact hgo
  · rw [h]; exact hgo
  · have h3' : ¬ o.kind = 3 := by simpa using h3
    have h4' : ¬ o.kind = 4 := by simpa using h4
    have : decide (o.kind = 5) = true := by simp; omega
    rw [this]; exact hgo
end Go.Proofs

/- model.Distinct: how many blocks there are. -/
set_option linter.all false
namespace Go.Proofs
open Go Go.X

def blocksOf (M : Vols) : List (List Nat) := M.flatMap fun p => p.2.2.2.blocks.map (·.2)
def bkeys (l : List (Arr 48 × Value)) : List (List Nat) := l.map (·.1.1)
theorem mset_keys {κ β : Type} [DecidableEq κ] (l : List (κ × β)) (k : κ) (v : β) (x : κ) : x ∈ (mset l k v).map (·.1) ↔ x ∈ l.map (·.1) ∨ x = k := by
  unfold mset
  split
  · rename_i h
    have : (l.map fun p => if p.1 = k then (k, v) else p).map (·.1) = l.map (·.1) := by
      rw [List.map_map]
      apply List.map_congr_left
      intro p _
      simp only [Function.comp]
      split
      · rename_i e; simp [e]
      · rfl
    rw [this]
    constructor
    · exact .inl
    · rintro (h' | rfl)
      · exact h'
      · simpa using h
  · simp
theorem bkeys_mset (l : List (Arr 48 × Value)) (k : Arr 48) (v : Value) (x : List Nat) : x ∈ bkeys (mset l k v) ↔ x ∈ bkeys l ∨ x = k.1 := by
  have h : ∀ l : List (Arr 48 × Value), bkeys l = (l.map (·.1)).map (·.1) := fun l => by rw [List.map_map]; rfl
  rw [h, h]
  constructor
  · intro hx
    obtain ⟨y, hy, rfl⟩ := List.mem_map.1 hx
    rcases (mset_keys l k v y).1 hy with h1 | rfl
    · exact .inl (List.mem_map.2 ⟨y, h1, rfl⟩)
    · exact .inr rfl
  · rintro (hx | rfl)
    · obtain ⟨y, hy, rfl⟩ := List.mem_map.1 hx
      exact List.mem_map.2 ⟨y, (mset_keys l k v y).2 (.inl hy), rfl⟩
    · exact List.mem_map.2 ⟨k, (mset_keys l k v k).2 (.inr rfl), rfl⟩
theorem mem_erase {α : Type} {l : List α} {i : Nat} (h : i < l.length) (x : α) : x ∈ l ↔ x = l[i] ∨ x ∈ l.eraseIdx i := by
  rw [List.eraseIdx_eq_take_drop_succ]
  conv => lhs; rw [← List.take_append_drop i l, List.drop_eq_getElem_cons h]
  simp only [List.mem_append, List.mem_cons]
  constructor
  · rintro (h | h | h)
    · exact .inr (.inl h)
    · exact .inl h
    · exact .inr (.inr h)
  · rintro (h | h | h)
    · exact .inr (.inl h)
    · exact .inl h
    · exact .inr (.inr h)
theorem blocksOf_erase {M : Vols} {i : Nat} (h : i < M.length) (x : List Nat) : x ∈ blocksOf M ↔ x ∈ M[i].2.2.2.blocks.map (·.2) ∨ x ∈ blocksOf (M.eraseIdx i) := by
  simp only [blocksOf, List.mem_flatMap]
  constructor
  · rintro ⟨p, hp, hx⟩
    rcases (mem_erase h p).1 hp with rfl | hp
    · exact .inl hx
    · exact .inr ⟨p, hp, hx⟩
  · rintro (hx | ⟨p, hp, hx⟩)
    · exact ⟨_, List.getElem_mem h, hx⟩
    · exact ⟨p, (mem_erase h p).2 (.inr hp), hx⟩
theorem KeyLaw.blocks : KeyLaw Try.prog 65 (fun k : Arr 48 => arrV k.1) := by
  obtain ⟨i, hi, _⟩ := Try.ti5
  exact KeyLaw.arr Try.underlying65 Try.underlying5 hi Try.ti5 (by kernel_rfl) (by kernel_rfl)
abbrev encB : Arr 48 → Value := fun k => arrV k.1

set_option maxHeartbeats 1000000 in
theorem model_Distinct_spec {w : World} {m rv : Nat} {M : Vols} (hm : MRep w m rv M) : CallF Try.prog 64 #[.pointer (some ⟨m, 0, none⟩)] w fun r w' =>
    (∃ ks : List (List Nat), r = .int .i64 ks.length ∧ ks.Nodup ∧ ∀ x, x ∈ ks ↔ x ∈ blocksOf M) ∧ Ext w w' := by
  refine f64_ok _ (some ⟨m, 0, none⟩) w ?_
  unfold f64
  obtain ⟨w1, e1, e2, e3, e4⟩ := makeMap_run (P := Try.prog) (w := w) (enc := encB) (t := 230)
  refine ⟨some w.heap.size, w1, e1, _, rfl, ?_⟩
  have hm1 := hm.ext e3
  simp only [addr_add, Nat.zero_add]
  refine Ld.blk hm1.top rfl ?_
  obtain ⟨w2, f1, f2, f3, f4⟩ := range_run (P := Try.prog) Try.underlying163 hm1.map
  refine ⟨_, w2, f1, ?_⟩
  generalize hra : w.heap.size = ra at *
  generalize hr : w1.heap.size = r at *
  refine ⟨fun q wr => ∃ (l : List (Arr 48 × Value)) (L : Vols), q = (some ra, .pointer (some ⟨r, 0, none⟩)) ∧ Ext w wr ∧ MapB wr ra encB l ∧ RangeB wr r rv Value.string M.vals L.vals ∧ (∀ p ∈ L, p ∈ M) ∧ (∀ x, (x ∈ bkeys l ∨ x ∈ blocksOf L) ↔ x ∈ blocksOf M) ∧ r < wr.heap.size,
    fun q wr => M.length - iterN wr r, ⟨[], M, rfl, e3.trans f3, e2.ext f3, f2, fun _ h => h, by simp [bkeys], by omega⟩, ?_⟩
  rintro _ wr ⟨l, L, rfl, hx, hmap, hran, hsub, hall, hrlt⟩
  have hmr := hm.ext hx
  have hrv : rv < ra := by have := hm.lt (.inr (.inl rfl)); omega
  rcases next_run (P := Try.prog) (ty := 0) hran with ⟨hnil, hnx⟩ | ⟨i, hi, w3, hnx, hent, hran3, hc3, hz3⟩
  · refine ⟨_, wr, hnx, #[.bool false], false, rfl, rfl, fun h => (by cases h), fun _ => ?_⟩
    refine ⟨_, wr, len_run Try.underlying230 hmap, ?_⟩
    have hL : L = [] := by
      have := congrArg List.length hnil
      exact List.eq_nil_of_length_eq_zero (by simpa [Vols.vals] using this)
    subst hL
    refine ⟨⟨bkeys l, by simp [bkeys], ?_, fun x => ?_⟩, hx⟩
    · obtain ⟨_, _, _, _, hnd, _⟩ := hmap
      have : bkeys l = (l.map (·.1)).map (·.1) := by rw [List.map_map]; rfl
      rw [this]
      exact hnd.map _ fun a b hab h => hab (Subtype.ext h)
    · have := hall x
      simp only [blocksOf, List.flatMap_nil, List.not_mem_nil, or_false] at this
      exact this
  · have hiL : i < L.length := by simpa [Vols.vals] using hi
    refine ⟨_, w3, hnx, _, true, rfl, rfl, fun _ => ?_, fun h => (by cases h)⟩
    have hpv : L.vals[i] = (L[i].1, .pointer (some ⟨L[i].2.1, 0, none⟩)) := by simp [Vols.vals]
    rw [hpv] at hent
    refine ⟨_, w3, hent, _, _, rfl, _, rfl, ?_⟩
    have hx3 : Ext w w3 := hx.step hc3 (fun _ _ h => h.elim) (fun k hk h => by have := e3.size; omega)
    have hva := (hm.ext hx3).vols _ (hsub _ (List.getElem_mem hiL))
    simp only [addr_add, Nat.zero_add]
    refine Ld.blk hva.top rfl ?_
    obtain ⟨w4, g1, g2, g3, g4⟩ := range_run (P := Try.prog) Try.underlying168 hva.map
    refine ⟨_, w4, g1, ?_⟩
    have hrvr : ∀ k, k = rv ∨ k = L[i].2.2.1 → k < ra := by
      rintro k (rfl | rfl)
      · exact hrv
      · have := hm.lt (.inr (.inr (Vols.mem_foot.2 ⟨_, hsub _ (List.getElem_mem hiL), .inr rfl⟩))); omega
    have hra1 : ra < r := by omega
    have hev : (L.vals.eraseIdx i) = Vols.vals (L.eraseIdx i) := (Go.ChangeMaps.map_eraseIdx _ L i).symm
    rw [hev] at hran3
    have hmap3 : MapB w3 ra encB l := hmap.ch hc3 (by omega)
    generalize hr2 : w3.heap.size = r2 at *
    have hcnt3 := hran3.count
    have hcnt := hran.count
    refine ⟨fun q wr' => ∃ (l : List (Arr 48 × Value)) (K : List (Int × List Nat)), q = (some ra, .pointer (some ⟨r, 0, none⟩), .pointer (some ⟨r2, 0, none⟩)) ∧ Ext w wr' ∧ MapB wr' ra encB l ∧ RangeB wr' r rv Value.string M.vals (Vols.vals (L.eraseIdx i)) ∧
        RangeB wr' r2 L[i].2.2.1 (Value.int .i64) L[i].2.2.2.vals (K.map fun p => (p.1, arrV p.2)) ∧ (∀ p ∈ K, p ∈ L[i].2.2.2.blocks) ∧ (∀ x, (x ∈ bkeys l ∨ x ∈ K.map (·.2) ∨ x ∈ blocksOf (L.eraseIdx i)) ↔ x ∈ blocksOf M) ∧ r2 < wr'.heap.size,
      fun q wr' => L[i].2.2.2.blocks.length - iterN wr' r2, ⟨l, L[i].2.2.2.blocks, rfl, hx3.trans g3, hmap3.ext g3, hran3.ext g3, g2, fun _ h => h, ?_, by omega⟩, ?_⟩
    · intro x
      rw [← hall x, blocksOf_erase hiL]
    rintro _ wr5 ⟨l5, K, rfl, hx5, hmap5, hranL, hranK, hsubK, hall5, hlt5⟩
    rcases next_run (P := Try.prog) (ty := 0) hranK with ⟨hnil, hnx5⟩ | ⟨j, hj, w6, hnx5, hent6, hran6, hc6, hz6⟩
    · refine ⟨_, wr5, hnx5, #[.bool false], false, rfl, rfl, fun h => (by cases h), fun _ => ?_⟩
      have hK : K = [] := by simpa using hnil
      subst hK
      refine ⟨⟨l5, L.eraseIdx i, rfl, hx5, hmap5, hranL, fun p hp => hsub p (List.mem_of_mem_eraseIdx hp), fun x => ?_, by omega⟩, ?_⟩
      · have := hall5 x
        simpa using this
      · have h5 := hranL.count
        have h6 : (Vols.vals (L.eraseIdx i)).length = L.length - 1 := by simp [Vols.vals, List.length_eraseIdx_of_lt hiL]
        have h7 : L.vals.length = L.length := by simp [Vols.vals]
        have h8 : M.vals.length = M.length := by simp [Vols.vals]
        omega
    · have hjK : j < K.length := by simpa using hj
      refine ⟨_, w6, hnx5, _, true, rfl, rfl, fun _ => ?_, fun h => (by cases h)⟩
      have hpv6 : (K.map fun p => (p.1, arrV p.2))[j] = (K[j].1, arrV K[j].2) := by simp
      rw [hpv6] at hent6
      refine ⟨_, w6, hent6, _, _, rfl, ?_⟩
      have hlen : K[j].2.length = 48 := hva.len _ (hsubK _ (List.getElem_mem hjK))
      refine New.mk fun b7 w7 hb7 hs7 hblk7 hx7 => ?_
      refine StN.all hblk7 (by simpa using hlen) (fun v hv => u8s_one _ v (by simpa using hv)) (by decide) ?_
      intro w8 hb8 hc8 hz8
      refine LdN.all hb8 (by simpa using hlen) ?_
      have hx6 : Ext w w6 := hx5.step hc6 (fun _ _ h => h.elim) (fun k hk h => by omega)
      have hc58 : Ch (fun k => k = r2 ∨ k = b7) wr5 w8 := (hc6.step hx7 (fun _ _ h => .inl h) (fun _ _ h => h.elim)).step hc8 (fun _ _ h => h) (fun _ _ h => .inr h)
      have hb7' : wr5.heap.size ≤ b7 := by omega
      have hmap8 : MapB w8 ra encB l5 := hmap5.ch hc58 (by have := hmap5.lt; omega)
      obtain ⟨w9, k1, k2, k3, k4⟩ := mapUpdate_run (P := Try.prog) KeyLaw.blocks Try.underlying230 hmap8 ⟨K[j].2, hlen⟩ (.bool true)
      refine ⟨w9, k1, ?_⟩
      have hc59 : Ch (fun k => k = r2 ∨ k = b7 ∨ k = ra) wr5 w9 := hc58.step k3 (fun _ _ h => h.imp id .inl) (fun _ _ h => .inr (.inr h))
      have hc69 : Ch (fun k => k = b7 ∨ k = ra) w6 w9 := (hx7.step hc8 (fun _ _ h => h.elim) (fun _ _ h => h)).step k3 (fun _ _ h => .inl h) (fun _ _ h => .inr h)
      have hsz5 := hx5.size
      have hvr := hrvr _ (.inr rfl)
      have hxw9 : Ext w w9 := hx5.step hc59 (fun _ _ h => h.elim) (fun k hk h => by omega)
      have hevK : (K.map fun p => (p.1, arrV p.2)).eraseIdx j = (K.eraseIdx j).map fun p => (p.1, arrV p.2) := (Go.ChangeMaps.map_eraseIdx _ K j).symm
      rw [hevK] at hran6
      have hran9 := hran6.ch hc69 (by omega) (by omega)
      refine ⟨⟨_, K.eraseIdx j, rfl, hxw9, k2, hranL.ch hc59 (by omega) (by omega), hran9, fun p hp => hsubK p (List.mem_of_mem_eraseIdx hp), fun x => ?_, by have := hc59.size; omega⟩, ?_⟩
      · rw [bkeys_mset, ← hall5 x]
        have : x ∈ K.map (·.2) ↔ x = K[j].2 ∨ x ∈ (K.eraseIdx j).map (·.2) := by
          simp only [List.mem_map]
          constructor
          · rintro ⟨p, hp, rfl⟩
            rcases (mem_erase hjK p).1 hp with rfl | hp
            · exact .inl rfl
            · exact .inr ⟨p, hp, rfl⟩
          · rintro (rfl | ⟨p, hp, rfl⟩)
            · exact ⟨_, List.getElem_mem hjK, rfl⟩
            · exact ⟨p, (mem_erase hjK p).2 (.inr hp), rfl⟩
        rw [this]
        constructor
        · rintro ((h | h) | h | h)
          · exact .inl h
          · exact .inr (.inl (.inl h))
          · exact .inr (.inl (.inr h))
          · exact .inr (.inr h)
        · rintro (h | (h | h) | h)
          · exact .inl (.inl h)
          · exact .inl (.inr h)
          · exact .inr (.inl h)
          · exact .inr (.inr h)
      · have h5 := hranK.count
        have h6 := hran9.count
        have h7 : (K.eraseIdx j).length = K.length - 1 := List.length_eraseIdx_of_lt hjK
        simp only [List.length_map, VolV.vals] at h5 h6
        show L[i].2.2.2.blocks.length - iterN w9 r2 < L[i].2.2.2.blocks.length - iterN wr5 r2
        omega
end Go.Proofs

/- sporranlaw15.speaks: the example of the document. -/
set_option linter.all false
namespace Go.Proofs
open Go Go.X

def nameA : ByteArray := ByteArray.mk #[97]
def block7 : List Nat := 7 :: List.replicate 47 0
def opA : OpV := ⟨1, nameA, ByteArray.mk #[], 0, 1, zeros48⟩
def opB : OpV := ⟨3, nameA, ByteArray.mk #[], 0, 0, block7⟩
def opC : OpV := ⟨5, nameA, ByteArray.mk #[], 0, 0, zeros48⟩
theorem opA_ok : opA.OK := ⟨by decide, by decide, by decide, rfl⟩
theorem opB_ok : opB.OK := ⟨by decide, by decide, by decide, rfl⟩
theorem opC_ok : opC.OK := ⟨by decide, by decide, by decide, rfl⟩
theorem addA : addCode [] opA.name (newVol opA) 0 = 0 := by decide
theorem one_of {ks : List (List Nat)} {a : List Nat} (hn : ks.Nodup) (h : ∀ x, x ∈ ks ↔ x = a) : ks.length = 1 := by
  match ks, hn, h with
  | [], _, h => exact absurd ((h a).2 rfl) (by simp)
  | [x], _, _ => rfl
  | x :: y :: l, hn, h =>
    have h1 := (h x).1 (by simp)
    have h2 := (h y).1 (by simp)
    rw [List.nodup_cons] at hn
    exact absurd (by simp [h1, h2]) hn.1

def answered (e : Int) (t : Bool) (b : List Nat) : Array Value := (ansL e t b nilV).toArray
theorem answered_size {e : Int} {t : Bool} {b : List Nat} (h : b.length = 48) : (answered e t b).size = 51 := ans_size h

set_option maxHeartbeats 1000000 in
set_option maxRecDepth 100000 in
theorem law15_speaks_spec {w : World} : CallF Try.prog 34 #[] w fun r w' => r = .bool true ∧ Ext w w' := by
  refine f34_ok _ w ?_
  unfold f34
  refine model_New_spec.mono ?_
  rintro _ w1 ⟨m, rv, rfl, hm1, hx1, hmf, hrf⟩
  refine ⟨_, rfl, opA.cells, rfl, ?_⟩
  refine (model_Do_create hm1 opA_ok rfl (by decide)).mono ?_
  rintro _ w2 ⟨b, r, rfl, hm2, _, hc2, hb, hr⟩
  rw [addA] at hm2
  have hm2 := hm2 rfl
  rw [addA]
  have hx2 : Ext w w2 := hx1.step hc2 (fun _ _ h => h.elim) (fun k hk h => by omega)
  have hs1 := hx1.size
  refine ⟨_, rfl, ?_⟩
  refine New.mk fun b3 w3 hb3 hs3 hblk3 hx3 => ?_
  refine StN.all hblk3 (ans_size zeros48_len) (ans_one rfl) (by rw [ans_zero]; exact ans_size zeros48_len) ?_
  intro w4 hblk4 hc4 hz4
  have hx24 : Ext w2 w4 := hx3.step hc4 (fun _ _ h => h.elim) (fun k hk h => by omega)
  have hm4 := hm2.ext hx24
  refine ⟨(u8s block7).toArray, rfl, opB.cells, rfl, ?_⟩
  generalize hMM : ([] ++ [(opA.name, b, r, newVol opA)] : Vols) = MM at *
  have hMM' : MM = [(nameA, b, r, ⟨1, false, []⟩)] := hMM ▸ rfl
  refine (model_Do_block hm4 opB_ok (.inl rfl)).mono ?_
  rintro _ w5 ⟨rfl, hm5, hc5, hl5⟩
  have hbB : blockS MM opB = ([(nameA, b, r, ⟨1, false, [(0, block7)]⟩)], 0, false, zeros48) := by
    subst hMM'
    simp [blockS, findCode, mget, opB, updV, mset]
  rw [hbB] at hm5 hl5
  rw [hbB]
  have hfoot : MM.foot = [b, r] := by subst hMM'; rfl
  rw [hfoot] at hc5
  have hsz2 := hx2.size
  have hfr : ∀ k, k ∈ [b, r] → w.heap.size ≤ k := by
    intro k hk
    simp only [List.mem_cons, List.not_mem_nil, or_false] at hk
    rcases hk with rfl | rfl <;> omega
  have hbr : ∀ k, k ∈ [b, r] → k < w2.heap.size := fun k hk => hm2.lt (.inr (.inr (hfoot ▸ hk)))
  have hx5 : Ext w w5 := (hx2.trans hx24).step hc5 (fun _ _ h => h.elim) (fun k hk h => by have := hfr k h; omega)
  have h3f : ¬ b3 ∈ [b, r] := fun h => by have := hbr _ h; omega
  have hblk5 := hblk4.ch hc5 h3f
  refine ⟨_, rfl, ?_⟩
  refine New.mk fun b6 w6 hb6 hs6 hblk6 hx6 => ?_
  refine StN.all hblk6 (ans_size zeros48_len) (ans_one rfl) (by rw [ans_zero]; exact ans_size zeros48_len) ?_
  intro w7 hblk7 hc7 hz7
  have hx57 : Ext w5 w7 := hx6.step hc7 (fun _ _ h => h.elim) (fun k hk h => by omega)
  have hm7 := hm5.ext hx57
  refine ⟨opC.cells, rfl, ?_⟩
  refine (model_Do_block hm7 opC_ok (.inr (.inr rfl))).mono ?_
  rintro _ w8 ⟨rfl, hm8, hc8, hl8⟩
  have hbC : blockS [(nameA, b, r, ⟨1, false, [(0, block7)]⟩)] opC = ([(nameA, b, r, ⟨1, false, [(0, block7)]⟩)], 0, true, block7) := by
    simp [blockS, findCode, mget, opC]
  rw [hbC] at hm8 hl8
  rw [hbC]
  have hfoot2 : Vols.foot [(nameA, b, r, ⟨1, false, [(0, block7)]⟩)] = [b, r] := rfl
  rw [hfoot2] at hc8
  have hsz24 := hx24.size
  have hsz5 := hc5.size
  have hsz57 := hx57.size
  have hx8 : Ext w w8 := (hx5.trans hx57).step hc8 (fun _ _ h => h.elim) (fun k hk h => by have := hfr k h; omega)
  have h6f : ¬ b6 ∈ [b, r] := fun h => by have := hbr _ h; omega
  have hblk3' := (hblk5.ext hx57).ch hc8 h3f
  have hblk6' := hblk7.ch hc8 h6f
  refine ⟨_, rfl, ?_⟩
  refine New.mk fun b9 w9 hb9 hs9 hblk9 hx9 => ?_
  refine StN.all hblk9 (ans_size hl8) (ans_one rfl) (by rw [ans_zero]; exact ans_size zeros48_len) ?_
  intro w10 hblk10 hc10 hz10
  have hx810 : Ext w8 w10 := hx9.step hc10 (fun _ _ h => h.elim) (fun k hk h => by omega)
  simp only [addr_add, Nat.zero_add]
  refine Ld.blk (hblk3'.ext hx810) rfl ⟨fun _ => ?_, fun h => absurd h (by simp)⟩
  refine Ld.blk (hblk6'.ext hx810) rfl ⟨fun _ => ?_, fun h => absurd h (by simp)⟩
  refine Ld.blk hblk10 rfl ⟨fun _ => ?_, fun h => absurd h (by simp)⟩
  refine LdN.blk (ds := (u8s block7).toArray) hblk10 (fun j v hj => ?_) rfl ?_
  · have hj' : (u8s block7)[j]? = some v := by simpa using hj
    have hjl : j < (u8s block7).length := (List.getElem?_eq_some_iff.1 hj').1
    rw [show 2 + j = j + 1 + 1 from by omega]
    simp only [ansL, List.getElem?_toArray, List.getElem?_cons_succ]
    rw [List.getElem?_append_left hjl]
    exact hj'
  refine ⟨(u8s block7).toArray, rfl, true, ?_, fun _ => ?_, fun h => (by cases h)⟩
  · obtain ⟨i, hi, _⟩ := Try.ti5
    have := EqOK.u8s (P := Try.prog) (t := 65) (e := 5) (n := 48) (i := i) Try.underlying65 Try.underlying5 hi (by kernel_rfl) (by kernel_rfl) (xs := block7) (ys := block7) rfl rfl
    simpa using this
  refine (model_Distinct_spec (hm8.ext hx810)).mono ?_
  rintro _ w11 ⟨⟨ks, rfl, hnd, hks⟩, hx11⟩
  have h1 : ks.length = 1 := one_of (a := block7) hnd fun x => by rw [hks x]; simp [blocksOf]
  refine ⟨_, rfl, by rw [h1]; rfl, (hx8.trans hx810).trans hx11⟩
end Go.Proofs
