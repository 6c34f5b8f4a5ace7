/- sporranref01: Number, Bytes; sporranref15: Event, Blocks. -/
import Derived.Test.YtnjilbgcflbghaaXF1
import Derived.Test.YtnjilbgcflbghaaXF2
import Derived.Test.YtnjilbgcflbghaaXRefDo3
set_option linter.all false
set_option maxHeartbeats 4000000
set_option maxRecDepth 100000
namespace Go.Proofs
open Go Go.X Go.Sort
theorem ref01_Number_spec {w : World} {s : Sl} {xs : List Value} {v : Int} (n : Nat) (hv : v = n) (hn : n < 18446744073709551616) (ho : Own w s 5 1 xs) (hl : s.len + 10 ≤ 140737488355328) :
    CallF Try.prog 129 #[s.v, .int .u64 v] w fun r w' => ∃ s', r = s'.v ∧ Own w' s' 5 1 (xs ++ u8s (vint n)) ∧ Ch s.blk w w' ∧ s'.len = s.len + (vint n).length ∧ (∀ b, s'.blk b → s.blk b ∨ w.heap.size ≤ b) := by
  subst hv
  refine f129_ok _ s n w ?_
  unfold f129
  refine Lp.mk (fun q wr => ∃ (i m : Nat) (ys : List Nat) (s' : Sl), q = (s', (m : Int), (i : Int)) ∧ i ≤ 10 ∧ m * 128 ^ i ≤ n ∧ (0 < i → 0 < m) ∧ ys.length = i ∧ Own wr s' 5 1 (xs ++ u8s ys) ∧ Ch s.blk w wr ∧ ys ++ vint m = vint n ∧ s'.len = s.len + ys.length ∧ (∀ b, s'.blk b → s.blk b ∨ w.heap.size ≤ b))
    (fun q _ => 10 - q.2.2.toNat) ⟨0, n, [], s, rfl, by omega, by omega, by omega, rfl, by simpa using ho, Ch.refl _ _, rfl, by simp, fun b hb => .inl hb⟩ ?_
  rintro _ wr ⟨i, m, ys, q, rfl, hi, hmn, hm0, hyl, ho', hc, he, hql, hqb⟩ ag hag
  show f129_b0 _ ag q m i wr
  unfold f129_b0
  have hi10 : i < 10 := by
    rcases Nat.lt_or_ge i 10 with h | h
    · exact h
    · have h10 : i = 10 := by omega
      have := hm0 (by omega)
      subst h10
      have : 1 * 128 ^ 10 ≤ m * 128 ^ 10 := Nat.mul_le_mul_right _ this
      omega
  have hmlt : m < 18446744073709551616 := by
    have h0 : 0 < 128 ^ i := Nat.pow_pos (by decide)
    have h1 : m * 1 ≤ m * 128 ^ i := Nat.mul_le_mul_left _ h0
    omega
  have hdiv : IntKind.u64.wrap (Int.tdiv (m : Int) 128) = ((m / 128 : Nat) : Int) := by
    rw [Int.tdiv_eq_ediv_of_nonneg (by omega), wrap_u64 (by omega) (by omega)]; omega
  have hmod : IntKind.u8.wrap (Int.tmod (m : Int) 128) = ((m % 128 : Nat) : Int) := by
    rw [Int.tmod_eq_emod_of_nonneg (by omega), wrap_u8 (by omega) (by omega)]; omega
  have hys : ys.length + (vint m).length = (vint n).length := by rw [← he]; simp
  have hlen := vint_len10 hn
  refine ⟨fun _ => ?_, fun h => by simp at h; omega⟩
  rw [hdiv, hmod]
  refine ⟨fun hb => ?_, fun hb => ?_⟩
  · have h128 : m < 128 := by simp at hb; omega
    refine Ef.append1 (s := q) Try.underlying39 Try.ti5 rfl (by decide) ho' (n := 1) rfl (by simp [Value.oneCell']) (by omega) (by omega) ?_
    intro s' w' ho2 hc2 hl2 hb2
    refine ⟨s', rfl, ?_, hc.step hc2 (fun _ _ h => h) (fun i hi h => (hqb i h).resolve_right (by omega)), ?_, ?_⟩
    · rw [Nat.mod_eq_of_lt h128] at ho2
      rw [← he, vint_small h128]
      simpa using ho2
    · rw [hl2, hql, ← he, vint_small h128]; simp; omega
    · intro b hb3
      rcases hb2 b hb3 with h | h
      · exact hqb b h
      · right; have := hc.size; omega
  · have h128 : ¬ m < 128 := by simp at hb; omega
    have hpos := vint_pos (m / 128)
    refine Ef.append1 (s := q) Try.underlying39 Try.ti5 rfl (by decide) ho' (n := 1) rfl (by simp [Value.oneCell']) (by omega) (by omega) ?_
    intro s' w' ho2 hc2 hl2 hb2
    rw [show IntKind.i64.wrap ((i : Int) + 1) = ((i + 1 : Nat) : Int) by rw [wrap_i64e]; omega]
    refine hag _ _ ⟨i + 1, m / 128, ys ++ [m % 128 + 128], s', rfl, by omega, ?_, by omega, by simp [hyl], ?_, ?_, ?_, ?_, ?_⟩ (by dsimp only; omega)
    · rw [Nat.pow_succ, ← Nat.mul_assoc, Nat.mul_right_comm]
      exact Nat.le_trans (Nat.mul_le_mul_right _ (Nat.div_mul_le_self m 128)) hmn
    · rw [show IntKind.u8.wrap (((m % 128 : Nat) : Int) + 128) = ((m % 128 + 128 : Nat) : Int) by rw [wrap_u8 (by omega) (by omega)]; omega] at ho2
      simpa using ho2
    · exact hc.step hc2 (fun _ _ h => h) (fun i hi h => (hqb i h).resolve_right (by omega))
    · rw [← he, vint_big h128]; simp
    · rw [hl2, hql]; simp; omega
    · intro b hb3
      rcases hb2 b hb3 with h | h
      · exact hqb b h
      · right; have := hc.size; omega
theorem Made.rnumber {w w1 : World} {ys : List Nat} {s : Sl} {v : Int} {K : Value → World → Prop} (n : Nat) (hm : Made w ys s w1) (hv : v = n) (hn : n < 18446744073709551616) (hl : ys.length + 10 ≤ 140737488355328)
    (k : ∀ s' w', Made w (ys ++ vint n) s' w' → Ch s.blk w1 w' → (∀ b, s'.blk b → s.blk b ∨ w1.heap.size ≤ b) → K s'.v w') : CallF Try.prog 129 #[s.v, .int .u64 v] w1 K := by
  obtain ⟨h1, h2, h3, h4⟩ := hm
  refine (ref01_Number_spec n hv hn h1 (by omega)).mono ?_
  rintro _ w2 ⟨s', rfl, g1, g2, g3, g4⟩
  refine k s' w2 ⟨by simpa using g1, h2.step g2 (fun _ _ h => h.elim) (fun i hi h => absurd (h4 i h) (by omega)), by simp [g3, h3], fun b hb => ?_⟩ g2 g4
  rcases g4 b hb with h | h
  · exact h4 b h
  · have := h2.size; omega
theorem Made.rbytes {w w1 : World} {ys zs : List Nat} {s x : Sl} {K : Value → World → Prop} (hm : Made w ys s w1) (hx : Sees w1 x 1 (u8s zs)) (hd : ∀ k, x.blk k → ¬ s.blk k) (hl : ys.length + zs.length + 10 ≤ 140737488355328)
    (k : ∀ s' w', Made w (ys ++ (vint zs.length ++ zs)) s' w' → Ch s.blk w1 w' → K s'.v w') : CallF Try.prog 130 #[s.v, x.v] w1 K := by
  have hxl : zs.length = x.len := by simpa using hx.1
  refine f130_ok _ s x w1 ?_
  unfold f130
  rw [wrap_u64 (by omega) (by omega)]
  refine Made.rnumber x.len hm rfl (by omega) (by omega) fun s1 w2 h1 c1 b1 => ⟨s1, rfl, ?_⟩
  have hn := vint_len10 (show x.len < 18446744073709551616 by omega)
  refine Made.append h1 (hx.ch c1 hd) (by simp; omega) fun s2 w3 h2 c2 => ?_
  have := k s2 w3 (by rw [hxl, ← List.append_assoc]; exact h2) (c1.step c2 (fun _ _ h => h) (fun i hi h => (b1 i h).resolve_right (by omega)))
  exact this
theorem Made.empty {w : World} {b : Nat} {w1 : World} (h : Blk w1 b #[] 5) (hb : w.heap.size ≤ b) (hx : Ext w w1) : Made w [] ⟨some ⟨b, 0, none⟩, 0, 0⟩ w1 :=
  ⟨Own.empty h, hx, rfl, fun k hk => by obtain ⟨ad, e1, e2⟩ := hk; injection e1 with e1; subst e1; subst e2; exact hb⟩
theorem ref15_Event_spec {w : World} {o : OpV} (ho : o.OK) (hn : o.name.size ≤ 1073741824) (hm : o.other.size ≤ 1073741824) {R : Value → World → Prop} (k : ∀ s w', Made w (event o) s w' → R s.v w') :
    CallF Try.prog 67 #[.agg o.cells] w R := by
  refine f67_ok _ o.cells w ?_
  unfold f67
  refine New.mk fun a1 w1 ha1 hs1 hb1 hx1 => New.mk fun a2 w2 ha2 hs2 hb2 hx2 => ?_
  have hm0 : Made w1 [] ⟨some ⟨a2, 0, none⟩, 0, 0⟩ w2 := Made.empty hb2 (by omega) hx2
  have fld : ∀ {α : Type} {enc : α → Value} {u : World} {i : Nat} {x : α} {K : α → Prop}, Ext w1 u → o.cells[i]? = some (enc x) → K x → Ld enc (some ((⟨a1, 0, none⟩ : Addr).add i)) u K := fun hx hv k => by
    simp only [addr_add, Nat.zero_add]
    exact Ld.blk (hb1.ext hx) hv k
  have l1 := vint_len10 (u64n_lt o.kind)
  have l2 := vint_len10 (u64n_lt o.number)
  have l3 := vint_len10 (u64n_lt o.quota)
  have l4 := vint_len10 (show (bs o.name).length < 18446744073709551616 by simp; omega)
  have l5 : (bs o.name).length = o.name.size := by simp
  have l4' := vint_len10 (show o.name.size < 18446744073709551616 by omega)
  have l6 : (bs o.other).length = o.other.size := by simp
  refine fld hm0.2.1 (x := o.kind) rfl ?_
  refine Made.rnumber _ hm0 (wrap_u64n _) (u64n_lt _) (by simp) fun s3 w3 m3 _ _ => ⟨_, rfl, ?_⟩
  refine fld m3.2.1 (x := o.number) rfl ?_
  refine Made.rnumber _ m3 (wrap_u64n _) (u64n_lt _) (by simp; omega) fun s4 w4 m4 _ _ => ⟨_, rfl, ?_⟩
  refine fld m4.2.1 (x := o.quota) rfl ?_
  refine Made.rnumber _ m4 (wrap_u64n _) (u64n_lt _) (by simp; omega) fun s5 w5 m5 _ _ => ⟨_, rfl, ?_⟩
  refine fld m5.2.1 (x := o.name) rfl ?_
  refine Ef.bytes Try.underlying9 Try.underlying39 Try.underlying5 ?_
  intro x6 w6 hx6 he6 hl6 hb6 hs6
  refine Made.rbytes (m5.ext he6) hx6 (fun b hb h => by have := m5.1.lt h; have := hb6 b hb; omega) (by simp; omega) fun s7 w7 m7 _ => ⟨_, rfl, ?_⟩
  refine fld m7.2.1 (x := o.other) rfl ?_
  refine Ef.bytes Try.underlying9 Try.underlying39 Try.underlying5 ?_
  intro x8 w8 hx8 he8 hl8 hb8 hs8
  refine Made.rbytes (m7.ext he8) hx8 (fun b hb h => by have := m7.1.lt h; have := hb8 b hb; omega) (by simp; omega) fun s9 w9 m9 _ => ⟨_, rfl, ?_⟩
  have hhead : ([] ++ vint (u64n o.kind) ++ vint (u64n o.number) ++ vint (u64n o.quota) ++ (vint (bs o.name).length ++ bs o.name) ++ (vint (bs o.other).length ++ bs o.other)) = evHead o := by simp [evHead]
  rw [hhead] at m9
  refine fld m9.2.1 (x := o.kind) rfl ⟨fun h3 => ?_, fun h3 => ?_⟩
  · have h3 : o.kind = 3 := by simpa using h3
    simp only [addr_add, Nat.zero_add]
    refine Cut.all (Nat.le_refl _) (fun a ha => by injection ha with ha; subst ha; rfl) ?_
    refine Made.append m9 (Sees.part (hb1.ext m9.2.1) (o.blk) (by simp [ho.block])) (by have := evHead_len o hn hm; rw [ho.block]; omega) fun s' w' hm' _ => ?_
    unfold f67_k0
    refine k s' w' ?_
    rw [event_head, if_pos h3]
    exact hm'.from hx1
  · have h3 : ¬ o.kind = 3 := by simpa using h3
    unfold f67_k0
    refine k s9 w9 ?_
    rw [event_head, if_neg h3, List.append_nil]
    exact m9.from hx1
/-- All blocks of images. -/
def allB (l : List ImgV) : List (List Nat) := l.flatMap fun x => x.blocks.map (·.2)
theorem ref15_Blocks_spec {w : World} {s : Sl} {L : List (ImgV × Sl)} (h : ImgsSee w s L) (hL : L.length < 1000) (hB : ∀ p ∈ L, p.1.blocks.length < 1000) {R : Value → World → Prop}
    (k : ∀ (s' : Sl) (ks : List (List Nat)) w', s'.len = ks.length → ks.Nodup → (∀ x, x ∈ ks ↔ x ∈ allB (L.map (·.1))) → Ext w w' → R s'.v w') : CallF Try.prog 65 #[s.v] w R := by
  refine f65_ok _ s w ?_
  unfold f65
  refine New.mk fun a1 w1 ha1 hs1 hb1 hx1 => ?_
  have hl := h.len
  have emp : ∀ b, (⟨some ⟨a1, 0, none⟩, 0, 0⟩ : Sl).blk b → w.heap.size ≤ b := fun b hb => by
    obtain ⟨ad, e1, e2⟩ := hb; injection e1 with e1; subst e1; subst e2; omega
  -- what is put together: some blocks, each once
  let Out (z : World) (q : Sl) (ks : List (List Nat)) : Prop := Own z q 65 48 (ks.flatMap u8s) ∧ ks.Nodup ∧ (∀ x ∈ ks, x.length = 48) ∧ (∀ b, q.blk b → w.heap.size ≤ b) ∧ Ext w z
  have outlen : ∀ {z q ks}, Out z q ks → q.len = ks.length := fun {z q ks} ho => by
    have h1 := ho.1.len
    rw [flatMap_len ks (fun r hr => by simpa using ho.2.2.1 r hr)] at h1
    omega
  have outext : ∀ {z z' q ks}, Out z q ks → Ext z z' → Out z' q ks := fun ho hx => ⟨ho.1.ext hx, ho.2.1, ho.2.2.1, ho.2.2.2.1, ho.2.2.2.2.trans hx⟩
  refine Lp.mk (fun q z => ∃ (i : Nat) (out : Sl) (ks : List (List Nat)), q = (s, out, (i : Int)) ∧ i ≤ L.length ∧ Out z out ks ∧ ks.length ≤ i * 1000 ∧ ∀ x, x ∈ ks ↔ x ∈ allB ((L.map (·.1)).take i)) (fun q _ => L.length - q.2.2.toNat)
    ⟨0, _, [], rfl, by omega, ⟨Own.empty hb1, List.nodup_nil, fun x hx => (by cases hx), emp, hx1⟩, by simp, by simp [allB]⟩ ?_
  rintro _ z ⟨i, out, ks, rfl, hi, hO, hkl, hks⟩ ag hag
  show f65_b0 R ag s out i z
  unfold f65_b0
  refine ⟨fun hlt => ?_, fun hge => ?_⟩
  case refine_2 =>
    have : i = L.length := by simp at hge; omega
    subst this
    refine k out ks z (outlen hO) hO.2.1 (fun x => ?_) hO.2.2.2.2
    rw [hks x, List.take_of_length_le (by simp)]
  have hil : i < L.length := by simp at hlt; omega
  have hmem := List.getElem_mem hil
  have hX48 := h.lens _ hmem
  have hXl := hB _ hmem
  have hsucc : ∀ x, x ∈ allB ((L.map (·.1)).take (i + 1)) ↔ x ∈ allB ((L.map (·.1)).take i) ∨ x ∈ L[i].1.blocks.map (·.2) := fun x => by
    rw [List.take_succ_eq_append_getElem (by simpa using hil)]
    simp [allB, List.flatMap_append]
  generalize hX : L[i].1.blocks = X at *
  refine Lp.mk (fun q z => ∃ (j : Nat) (out : Sl) (ks : List (List Nat)), q = (s, out, (i : Int), (j : Int)) ∧ j ≤ X.length ∧ Out z out ks ∧ ks.length ≤ i * 1000 + j ∧ ∀ x, x ∈ ks ↔ x ∈ allB ((L.map (·.1)).take i) ∨ x ∈ (X.take j).map (·.2)) (fun q _ => X.length - q.2.2.2.toNat)
    ⟨0, out, ks, rfl, by omega, hO, by omega, fun x => by rw [hks x]; simp⟩ ?_
  rintro _ z ⟨j, out, ks, rfl, hj, hO, hkl, hks⟩ ag3 hag3
  show f65_b1 R ag ag3 s out i j z
  unfold f65_b1
  have hz := h.ext hO.2.2.2.2
  have hze := hz.each _ hmem
  rw [hX] at hze
  have hrl : ∀ b ∈ X, (rowB b).length = 49 := fun b hb => by simp [rowB, hX48 b hb]
  have hcnt : X.length = L[i].2.len := hze.count hrl (by decide)
  refine hz.ix hil (enc := Sl.v) (j := 3) (x := L[i].2) rfl ⟨fun hlt2 => ?_, fun hge2 => ?_⟩
  case refine_2 =>
    have : j = X.length := by simp at hge2; omega
    subst this
    rw [show IntKind.i64.wrap ((i : Int) + 1) = ((i + 1 : Nat) : Int) by rw [wrap_i64e]; omega]
    exact hag _ _ ⟨i + 1, out, ks, rfl, by omega, hO, by omega, fun x => by rw [hks x, hsucc x, List.take_length]⟩ (by dsimp only; omega)
  have hjX : j < X.length := by simp at hlt2; omega
  have hb48 := hX48 _ (List.getElem_mem hjX)
  refine hz.ix hil (enc := Sl.v) (j := 3) (x := L[i].2) rfl ?_
  obtain ⟨a, h1, h2, h3, _⟩ := hze.at hrl (by decide) j hjX
  refine ⟨a, h1, by omega, by omega, ?_⟩
  refine ⟨_, (u8s X[j].2).toArray, rfl, by simp [hb48], fun i v hv => ?_, ?_⟩
  · have := h3 (1 + i) v (by rw [Nat.add_comm]; simpa [rowB] using hv)
    obtain ⟨ab, ao, asp⟩ := a
    simp only at h2
    subst h2
    simpa [Nat.add_assoc] using this
  refine New.mk fun b z1 hb hsz1 hblk hxz1 => ?_
  refine StN.all hblk (by simp [hb48]) (fun v hv => u8s_one _ v (by simpa using hv)) rfl ?_
  intro z2 hblk2 hc2 hz2
  have hO2 : Out z2 out ks := ⟨(hO.1.ext hxz1).ch hc2 (fun k hk e => by have e : k = b := e; have := hO.1.lt hk; omega), hO.2.1, hO.2.2.1, hO.2.2.2.1, (hO.2.2.2.2.trans hxz1).step hc2 (fun _ _ h => h.elim) fun k hk e => by have e : k = b := e; have := hO.2.2.2.2.size; omega⟩
  have nob : ¬ out.blk b := fun hb' => by have := hO.1.lt hb'; omega
  refine Lp.mk (fun q z => ∃ (m : Nat) (t : Bool), q = (s, out, (i : Int), (j : Int), some ⟨b, 0, none⟩, t, (m : Int)) ∧ m ≤ ks.length ∧ Ext z2 z ∧ t = decide (X[j].2 ∈ ks.take m)) (fun q _ => ks.length - q.2.2.2.2.2.2.toNat)
    ⟨0, false, rfl, by omega, Ch.refl _ _, by simp⟩ ?_
  rintro _ y ⟨m, t, rfl, hm, hxy, ht⟩ ag6 hag6
  show f65_b3 R ag ag3 ag6 s out i j (some ⟨b, 0, none⟩) t m y
  unfold f65_b3
  have hol := outlen hO2
  refine ⟨fun hlt3 => ?_, fun hge3 => ?_⟩
  · have hmk : m < ks.length := by simp at hlt3; omega
    have hxd := hxy.trans (Ch.drew y)
    have hkm : ks[m].length = 48 := hO.2.2.1 _ (List.getElem_mem hmk)
    have step : ∀ t', t' = decide (X[j].2 ∈ ks.take (m + 1)) → f65_k4 R ag ag3 ag6 s out i j (some ⟨b, 0, none⟩) t' m (World.drew y) := fun t' ht' => by
      unfold f65_k4
      rw [show IntKind.i64.wrap ((m : Int) + 1) = ((m + 1 : Nat) : Int) by rw [wrap_i64e]; omega]
      exact hag6 _ _ ⟨m + 1, t', rfl, by omega, hxd, ht'⟩ (by dsimp only; omega)
    have hin : ∀ x, x ∈ ks.take (m + 1) ↔ x ∈ ks.take m ∨ x = ks[m] := fun x => by
      rw [List.take_succ_eq_append_getElem hmk]; simp only [List.mem_append, List.mem_singleton]
    refine ⟨fun htt => ?_, fun htf => ?_⟩
    · rw [htt] at ht
      exact step true (decide_eq_true ((hin _).2 (.inl (of_decide_eq_true ht.symm)))).symm
    · rw [htf] at ht
      have hno := of_decide_eq_false ht.symm
      have hOd := outext hO2 hxd
      obtain ⟨a', g1, g2, g3, g4⟩ := hOd.1.sees.at (enc := u8s) (fun r hr => by simpa using hO.2.2.1 r hr) (by decide) m hmk
      refine ⟨a', g1, by omega, by omega, ⟨_, _, rfl, g4, by simpa using g3, ?_⟩⟩
      refine LdN.all (hblk2.ext hxd) (by simp [hb48]) (agg_u8s hkm hb48 (step _ ?_))
      congr 1
      rw [hin]
      exact propext ⟨fun h => .inr h.symm, fun h => h.elim (fun h => absurd h hno) fun h => h.symm⟩
  · have hmk : m = ks.length := by simp at hge3; omega
    subst hmk
    rw [List.take_length] at ht
    have hOy := outext hO2 hxy
    have hin : ∀ x, x ∈ (X.take (j + 1)).map (·.2) ↔ x ∈ (X.take j).map (·.2) ∨ x = X[j].2 := fun x => by
      rw [List.take_succ_eq_append_getElem hjX]; simp only [List.map_append, List.mem_append, List.map_cons, List.map_nil, List.mem_singleton]
    have next : ∀ (z' : World) (q : Sl) (ks' : List (List Nat)), Out z' q ks' → ks'.length ≤ ks.length + 1 → (∀ x, x ∈ ks' ↔ x ∈ ks ∨ x = X[j].2) → f65_k2 R ag ag3 s q i j z' := fun z' q ks' ho hl' hx' => by
      unfold f65_k2
      rw [show IntKind.i64.wrap ((j : Int) + 1) = ((j + 1 : Nat) : Int) by rw [wrap_i64e]; omega]
      refine hag3 _ _ ⟨j + 1, q, ks', rfl, by omega, ho, by omega, fun x => ?_⟩ (by dsimp only; omega)
      rw [hx' x, hks x, hin x, or_assoc]
    refine ⟨fun htf => ?_, fun htt => ?_⟩
    · have htf : t = false := by simpa using htf
      rw [htf] at ht
      have hno := of_decide_eq_false ht.symm
      refine LdN.all (hblk2.ext hxy) (by simp [hb48]) ⟨by simp [hb48], ?_⟩
      refine New.mk fun c y1 hc hsy1 hblkc hxc => ?_
      have hks1 : ks.length ≤ 1000000 := by
        have : i * 1000 ≤ 1000 * 1000 := Nat.mul_le_mul_right _ (by omega)
        omega
      refine Ef.append Try.underlying126 Try.ti65 rfl (by decide) (hOy.1.ext hxc) (ys := u8s X[j].2) (by have := Sees.ofBlk (n := 1) (size := 48) hblkc (by simp [hb48]); simpa using this) (u8s_one _) (by show (out.len + 1) * _ ≤ _; omega) (by show out.len + 1 ≤ _; omega) ?_
      intro q' y2 o2 c2 l2 b2
      have hsz := hOy.2.2.2.2.size
      refine next y2 q' (ks ++ [X[j].2]) ⟨by simpa [List.flatMap_append] using o2, ?_, ?_, ?_, ?_⟩ (by simp) (fun x => by simp)
      · rw [List.nodup_append]
        exact ⟨hO.2.1, by simp, fun a ha b' hb' e => by simp only [List.mem_singleton] at hb'; subst hb'; subst e; exact hno ha⟩
      · intro x hx
        rcases List.mem_append.1 hx with hx | hx
        · exact hO.2.2.1 x hx
        · simp only [List.mem_singleton] at hx; subst hx; exact hb48
      · intro b' hb'
        rcases b2 b' hb' with h | h
        · exact hO.2.2.2.1 b' h
        · have := hxc.size; omega
      · exact (hOy.2.2.2.2.trans hxc).step c2 (fun _ _ h => h.elim) fun k hk hb' => by have := hO.2.2.2.1 k hb'; omega
    · have htt : t = true := by simpa using htt
      rw [htt] at ht
      have hyes := of_decide_eq_true ht.symm
      exact next y out ks hOy (by omega) fun x => ⟨.inl, fun h => h.elim id fun h => h ▸ hyes⟩
end Go.Proofs
