/- sporranref12: Named; sporranref15: may, add, Changes. -/
import Derived.Test.YtnjilbgcflbghaaXF1
import Derived.Test.YtnjilbgcflbghaaXF2
import Derived.Test.YtnjilbgcflbghaaXRef15
set_option linter.all false
set_option maxHeartbeats 2000000
set_option maxRecDepth 100000
namespace Go.Proofs
open Go Go.X Go.Sort
theorem Own.ofBlk {w : World} {b n size : Nat} {cs : Array Value} {e : TypeId} (h : Blk w b cs e) (hn : cs.size = n * size) (hm : n ≤ 140737488355328) : Own w ⟨some ⟨b, 0, none⟩, n, n⟩ e size cs.toList :=
  ⟨by simpa using hn, .inr ⟨b, n, cs, rfl, Nat.zero_le _, h, Nat.le_refl _, by unfold maxLen; omega, hn, by rw [List.take_of_length_le]; simp [hn]⟩⟩
theorem Own.empty {w : World} {b size : Nat} {e : TypeId} (h : Blk w b #[] e) : Own w ⟨some ⟨b, 0, none⟩, 0, 0⟩ e size [] := by
  have := Own.ofBlk (n := 0) (size := size) h (by simp) (by decide)
  simpa using this
/-- The first rows are cut out. -/
theorem Cut.take {α : Type} {enc : α → List Value} {w : World} {s : Sl} {size : Nat} {l : List α} {i : Nat} (h : Sees w s size (l.flatMap enc)) (hlen : ∀ r ∈ l, (enc r).length = size) (h0 : 0 < size) (hi : i ≤ l.length) {K : Sl → Prop}
    (k : ∀ s', Sees w s' size ((l.take i).flatMap enc) → s'.len = i → K s') : Cut s size none (some (i : Int)) none K := by
  have hc := h.count hlen h0
  have hcap := h.2.1
  refine ⟨0, i, s.cap, rfl, Nat.le_refl _, ⟨rfl, by omega⟩, rfl, Nat.zero_le _, k _ ?_ (by simp)⟩
  have hl2 : ((l.take i).flatMap enc).length = (l.take i).length * size := flatMap_len _ fun r hr => hlen r (List.mem_of_mem_take hr)
  refine ⟨?_, by simp only; omega, fun hn => ?_, fun a ha => ?_⟩
  · rw [hl2, List.length_take, Nat.min_eq_left hi]; rfl
  · simp only at hn ⊢
    have : s.a = none := by
      split at hn
      · exact hn
      · simpa using hn
    have := h.2.2.1 this
    omega
  · have : s.a = some a := by
      simp only at ha
      split at ha
      · exact ha
      · cases hs : s.a with
        | none => rw [hs] at ha; cases ha
        | some b =>
          rw [hs] at ha
          obtain rfl : b.add (0 * size) = a := by simpa using ha
          rw [Nat.zero_mul]
          congr 1
    obtain ⟨h1, h2⟩ := h.2.2.2 a this
    refine ⟨h1, fun j v hj => h2 j v ?_⟩
    rw [← List.take_append_drop i l, List.flatMap_append, List.getElem?_append_left (List.getElem?_eq_some_iff.1 hj).1]
    exact hj
/-- The last rows are cut out. -/
theorem Cut.drop {α : Type} {enc : α → List Value} {w : World} {s : Sl} {size : Nat} {l : List α} {i : Nat} (h : Sees w s size (l.flatMap enc)) (hlen : ∀ r ∈ l, (enc r).length = size) (h0 : 0 < size) (hi : i ≤ l.length) {K : Sl → Prop}
    (k : ∀ s', Sees w s' size ((l.drop i).flatMap enc) → s'.len = l.length - i → K s') : Cut s size (some (i : Int)) none none K := by
  have hc := h.count hlen h0
  have hcap := h.2.1
  refine ⟨i, s.len, s.cap, rfl, Nat.le_refl _, ⟨rfl, rfl⟩, rfl, by omega, k _ ?_ (by simp only; omega)⟩
  have hl2 : ((l.drop i).flatMap enc).length = (l.drop i).length * size := flatMap_len _ fun r hr => hlen r (List.mem_of_mem_drop hr)
  refine ⟨?_, by simp only; omega, fun hn => ?_, fun a ha => ?_⟩
  · rw [hl2, List.length_drop, hc]
  · simp only at hn ⊢
    have : s.a = none := by
      split at hn
      · exact hn
      · simpa using hn
    have := h.2.2.1 this
    omega
  · simp only at ha
    split at ha
    · rename_i he
      obtain ⟨h1, _⟩ := h.2.2.2 a ha
      refine ⟨h1, fun j v hj => ?_⟩
      have : (l.drop i).flatMap enc = [] := by rw [List.drop_eq_nil_of_le (by omega)]; rfl
      rw [this] at hj; cases hj
    · cases hs : s.a with
      | none => rw [hs] at ha; cases ha
      | some b =>
        rw [hs] at ha
        obtain rfl : b.add (i * size) = a := by simpa using ha
        obtain ⟨h1, h2⟩ := h.2.2.2 b hs
        obtain ⟨bb, bo, bp⟩ := b
        simp only at h1
        subst h1
        refine ⟨by simp, fun j v hj => ?_⟩
        have := h2 (i * size + j) v ?_
        · simpa [Nat.add_assoc] using this
        · have hl3 : ((l.take i).flatMap enc).length = i * size := by
            rw [flatMap_len _ fun r hr => hlen r (List.mem_of_mem_take hr), List.length_take, Nat.min_eq_left hi]
          rw [← List.take_append_drop i l, List.flatMap_append, List.getElem?_append_right (by omega), hl3]
          simpa using hj
theorem ref12_Named_spec {w : World} {s : ByteArray} (hl : s.size ≤ 1073741824) {R : Value → World → Prop} (k : R (.bool (namedB s)) w) : CallF Try.prog 134 #[.string s] w R := by
  refine f134_ok _ s w ?_
  unfold f134
  refine Lp.mk (fun q wr => ∃ i : Nat, q = (s, (i : Int)) ∧ i ≤ s.size ∧ wr = w ∧ ∀ c ∈ (bs s).take i, 32 < c ∧ c ≤ 126) (fun q _ => s.size - q.2.toNat) ⟨0, rfl, by omega, rfl, by simp⟩ ?_
  rintro _ wr ⟨i, rfl, hi, rfl, ht⟩ ag hag
  show f134_b0 R ag s i wr
  unfold f134_b0
  refine ⟨fun hlt => ?_, fun hge => ?_⟩
  · have hil : i < s.size := by simp at hlt; omega
    have hib : i < (bs s).length := by simpa using hil
    have hget : (s.data.toList.getD i 0).toNat = (bs s)[i] := by
      have hi' : i < s.data.size := hil
      simp only [bs, List.getElem_map, List.getD, Array.getElem?_toList, Array.getElem?_eq_getElem hi', Option.getD_some, Array.getElem_toList]
    have hall : (bs s)[i] ∈ bs s := List.getElem_mem hib
    have bad : ¬(32 < (bs s)[i] ∧ (bs s)[i] ≤ 126) → namedB s = false := fun h => by
      unfold namedB
      have : ((bs s).all fun c => decide (32 < c) && decide (c ≤ 126)) = false := by
        rw [List.all_eq_false]
        exact ⟨_, hall, by simpa using h⟩
      rw [this]; rfl
    refine ⟨by omega, by omega, ?_⟩
    simp only [Int.toNat_natCast, hget]
    refine ⟨fun h1 => ?_, fun h1 => ⟨by omega, by omega, ?_⟩⟩
    · unfold f134_k1
      refine ⟨fun _ => ?_, fun h => (by cases h)⟩
      rw [bad (by simp at h1; omega)] at k
      exact k
    · unfold f134_k1
      refine ⟨fun h2 => ?_, fun h2 => ?_⟩
      · rw [bad (by simp at h2; omega)] at k
        exact k
      · rw [show IntKind.i64.wrap ((i : Int) + 1) = ((i + 1 : Nat) : Int) by rw [wrap_i64e]; omega]
        refine hag _ _ ⟨i + 1, rfl, by omega, rfl, fun c hc => ?_⟩ (by dsimp only; omega)
        rw [List.take_succ_eq_append_getElem hib] at hc
        rcases List.mem_append.1 hc with hc | hc
        · exact ht c hc
        · simp only [List.mem_singleton] at hc
          subst hc
          simp at h1 h2
          omega
  · have hil : i = s.size := by simp at hge; omega
    subst hil
    have hbl : (bs s).length = s.size := by simp
    rw [List.take_of_length_le (by omega)] at ht
    have hall : ((bs s).all fun c => decide (32 < c) && decide (c ≤ 126)) = true := by
      rw [List.all_eq_true]
      intro c hc
      simpa using ht c hc
    have e : namedB s = (decide (s.size ≠ 0) && decide (s.size ≤ 20)) := by unfold namedB; rw [hall]; simp
    rw [e] at k
    refine ⟨fun h1 => ?_, fun h1 => ?_⟩
    · have : s.size ≠ 0 := by simp at h1; omega
      have e2 : decide ((s.size : Int) ≤ 20) = decide (s.size ≤ 20) := by congr 1; exact propext ⟨fun h => by omega, fun h => by omega⟩
      rw [e2]
      simpa [this] using k
    · have : s.size = 0 := by simp at h1; omega
      simpa [this] using k
theorem ref15_may_spec {w : World} {s : ByteArray} {q : Int} (hl : s.size ≤ 1073741824) {R : Value → World → Prop} (k : R (.bool (mayB s q)) w) : CallF Try.prog 127 #[.string s, .int .i64 q] w R := by
  refine f127_ok _ s q w ?_
  unfold f127
  refine ref12_Named_spec hl ⟨_, rfl, fun h1 => ⟨fun h2 => ?_, fun h2 => ?_⟩, fun h1 => ?_⟩
  · unfold mayB at k
    rw [h1, h2] at k
    simpa using k
  · unfold mayB at k
    rw [h1, h2] at k
    exact k
  · unfold mayB at k
    rw [h1] at k
    exact k
theorem ref15_Changes_spec {w : World} (n : Int) {R : Value → World → Prop} (k : R (.bool (decide (1 ≤ n ∧ n ≤ 7 ∧ n ≠ 5))) w) : CallF Try.prog 66 #[.int .i64 n] w R := by
  refine f66_ok R n w ?_
  unfold f66
  have t : (1 ≤ n ∧ n ≤ 7 ∧ n ≠ 5) → R (.bool true) w := fun h => by rw [decide_eq_true h] at k; exact k
  refine ⟨fun h => t (by simp at h; omega), fun a => ⟨fun h => t (by simp at h; omega), fun b => ⟨fun h => t (by simp at h; omega), fun c => ⟨fun h => t (by simp at h; omega), fun d => ⟨fun h => t (by simp at h; omega), fun e => ?_⟩⟩⟩⟩⟩
  have : decide (n = 7) = decide (1 ≤ n ∧ n ≤ 7 ∧ n ≠ 5) := by
    simp at a b c d e
    congr 1
    exact propext ⟨fun h => by omega, fun h => by omega⟩
  rw [this]; exact k
/-- Names rise. -/
def Rising (l : List ImgV) : Prop := (l.map (·.name)).Pairwise (fun a b => slt a b = true)
theorem insI_at {l : List ImgV} {x : ImgV} {i : Nat} (hr : Rising l) (h1 : ∀ y ∈ l.take i, slt y.name x.name = true) (h2 : ∀ hi : i < l.length, slt l[i].name x.name = false) : insI l x = l.take i ++ x :: l.drop i := by
  have h3 : ∀ y ∈ l.drop i, slt y.name x.name = false := by
    by_cases hi : i < l.length
    · rw [List.drop_eq_getElem_cons hi]
      intro y hy
      rcases List.mem_cons.1 hy with rfl | hy
      · exact h2 hi
      · have hlt : slt l[i].name y.name = true := by
          unfold Rising at hr
          rw [← List.take_append_drop i l, List.drop_eq_getElem_cons hi, List.map_append, List.map_cons, List.pairwise_append] at hr
          exact (List.pairwise_cons.1 hr.2.1).1 _ (List.mem_map.2 ⟨y, hy, rfl⟩)
        cases h : slt y.name x.name with
        | false => rfl
        | true => have := swo_slt.trans _ _ _ hlt h; rw [h2 hi] at this; cases this
    · rw [List.drop_eq_nil_of_le (by omega)]
      intro y hy; cases hy
  have e1 : l.filter (fun y => slt y.name x.name) = l.take i := by
    conv => lhs; rw [← List.take_append_drop i l]
    rw [List.filter_append, List.filter_eq_self.2 h1, List.filter_eq_nil_iff.2 (fun y hy => by rw [h3 y hy]; simp), List.append_nil]
  have e2 : l.filter (fun y => !slt y.name x.name) = l.drop i := by
    conv => lhs; rw [← List.take_append_drop i l]
    rw [List.filter_append, List.filter_eq_nil_iff.2 (fun y hy => by rw [h1 y hy]; simp), List.filter_eq_self.2 (fun y hy => by rw [h3 y hy]; rfl), List.nil_append]
  unfold insI
  rw [e1, e2]
theorem rowI_lens (L : List (ImgV × Sl)) : ∀ r ∈ L, (rowI r).length = 4 := fun _ _ => rfl
theorem ref15_add_spec {w : World} {s xs : Sl} {L : List (ImgV × Sl)} {x : ImgV} (h : ImgsSee w s L) (hr : Rising (L.map (·.1))) (hL : L.length < 1000000) (hx : Sees w xs 49 (x.blocks.flatMap rowB)) (hx48 : ∀ b ∈ x.blocks, b.2.length = 48) {R : Value → World → Prop}
    (k : ∀ s' L' w', ImgsSee w' s' L' → L'.map (·.1) = insI (L.map (·.1)) x → Ext w w' → (∀ b, s'.blk b → w.heap.size ≤ b ∧ b < w'.heap.size) → (∀ p ∈ L', p ∈ L ∨ p.2 = xs) → R s'.v w') :
    CallF Try.prog 128 #[s.v, .agg (rowI (x, xs)).toArray] w R := by
  refine f128_ok R s _ w ?_
  unfold f128
  refine New.mk fun a1 w1 ha1 hs1 hb1 hx1 => ?_
  have hl := h.len
  refine Lp.mk (fun q u => ∃ i : Nat, q = (s, some ⟨a1, 0, none⟩, (i : Int)) ∧ i ≤ L.length ∧ Ext w1 u ∧ ∀ y ∈ (L.map (·.1)).take i, slt y.name x.name = true) (fun q _ => s.len - q.2.2.toNat) ⟨0, rfl, by omega, Ch.refl _ _, by simp⟩ ?_
  rintro _ u ⟨i, rfl, hi, hu, ht⟩ ag hag
  show f128_b0 R ag s (some ⟨a1, 0, none⟩) i u
  unfold f128_b0
  have hd := Ch.drew u
  have hud := hx1.trans (hu.trans hd)
  have g := h.ext hud
  have hb := (hb1.ext hu).ext hd
  -- what is behind the loop
  have out : (∀ hi : i < L.length, slt L[i].1.name x.name = false) → f128_k1 R ag s (some ⟨a1, 0, none⟩) i false (World.drew u) := fun hstop => by
    have hins := insI_at hr ht (fun hi => by simpa using hstop (by simpa using hi))
    unfold f128_k1
    refine ⟨fun h => (by cases h), fun _ => ?_⟩
    refine New.mk fun a2 w2 ha2 hs2 hb2 hx2 => ?_
    have g2 := g.ext hx2
    refine Cut.take g2.sees (rowI_lens L) (by decide) hi fun s3 hs3 hl3 => ?_
    refine Ef.append Try.underlying100 Try.ti104 rfl (by decide) (Own.empty hb2) (ys := (L.take i).flatMap rowI) hs3 ?_ (by show (0 + s3.len) * _ ≤ _; omega) (by show 0 + s3.len ≤ _; omega) ?_
    · intro v hv
      obtain ⟨p, _, hp⟩ := List.mem_flatMap.1 hv
      exact rowI_one p v hp
    intro s4 w4 o4 c4 l4 b4
    have x4 : Ext (World.drew u) w4 := hx2.step c4 (fun _ _ h => h.elim) fun b hb h => by
      obtain ⟨ad, e1, e2⟩ := h
      injection e1 with e1
      subst e1; subst e2
      omega
    have hb4 := hb.ext x4
    refine LdN.all hb4 rfl ⟨rfl, ?_⟩
    refine New.mk fun a6 w6 ha6 hs6 hb6 hx6 => ?_
    have hl4 : s4.len = i := by rw [l4]; show 0 + s3.len = i; omega
    refine Ef.append Try.underlying100 Try.ti104 rfl (by decide) (o4.ext hx6) (ys := rowI (x, xs)) (by have := Sees.ofBlk (n := 1) (size := 4) hb6 rfl; simpa using this) (rowI_one _) (by show (s4.len + 1) * _ ≤ _; omega) (by show s4.len + 1 ≤ _; omega) ?_
    intro s8 w8 o8 c8 l8 b8
    have f4 : ∀ b, s4.blk b → (World.drew u).heap.size ≤ b := fun b hb => by
      rcases b4 b hb with h | h
      · obtain ⟨ad, e1, e2⟩ := h
        injection e1 with e1
        subst e1; subst e2
        omega
      · have := hx2.size; omega
    have x8 : Ext (World.drew u) w8 := (x4.trans hx6).step c8 (fun _ _ h => h.elim) fun b hb h => by have := f4 b h; omega
    have f8 : ∀ b, s8.blk b → (World.drew u).heap.size ≤ b := fun b hb => by
      rcases b8 b hb with h | h
      · exact f4 b h
      · have := x4.size; have := hx6.size; omega
    have g8 := g.ext x8
    have hl8 : s8.len = i + 1 := by rw [l8]; show s4.len + 1 = _; omega
    refine Cut.drop g8.sees (rowI_lens L) (by decide) hi fun s9 hs9 hl9 => ?_
    refine Ef.append Try.underlying100 Try.ti104 rfl (by decide) o8 (ys := (L.drop i).flatMap rowI) hs9 ?_ (by show (s8.len + s9.len) * _ ≤ _; omega) (by show s8.len + s9.len ≤ _; omega) ?_
    · intro v hv
      obtain ⟨p, _, hp⟩ := List.mem_flatMap.1 hv
      exact rowI_one p v hp
    intro s10 w10 o10 c10 l10 b10
    have x10 : Ext (World.drew u) w10 := x8.step c10 (fun _ _ h => h.elim) fun b hb h => by have := f8 b h; omega
    have x0 := hud.trans x10
    have hsu := hud.size
    refine k s10 (L.take i ++ (x, xs) :: L.drop i) w10 ⟨?_, ?_, ?_⟩ ?_ x0 (fun b hb => ?_) ?_
    · have := o10.sees
      simpa [List.flatMap_append, List.flatMap_cons] using this
    · intro p hp
      rcases List.mem_append.1 hp with hp | hp
      · exact (h.each p (List.mem_of_mem_take hp)).ext x0
      · rcases List.mem_cons.1 hp with rfl | hp
        · exact hx.ext x0
        · exact (h.each p (List.mem_of_mem_drop hp)).ext x0
    · intro p hp
      rcases List.mem_append.1 hp with hp | hp
      · exact h.lens p (List.mem_of_mem_take hp)
      · rcases List.mem_cons.1 hp with rfl | hp
        · exact hx48
        · exact h.lens p (List.mem_of_mem_drop hp)
    · rw [hins]
      simp [List.map_take, List.map_drop]
    · have hlt := o10.lt hb
      rcases b10 b hb with h | h
      · have := f8 b h; omega
      · have := x8.size; omega
    · intro p hp
      rcases List.mem_append.1 hp with hp | hp
      · exact .inl (List.mem_of_mem_take hp)
      · rcases List.mem_cons.1 hp with rfl | hp
        · exact .inr rfl
        · exact .inl (List.mem_of_mem_drop hp)
  refine ⟨fun hlt => ?_, fun hge => ?_⟩
  · have hil : i < L.length := by simp at hlt; omega
    refine g.ix hil (enc := Value.string) (j := 0) (x := L[i].1.name) rfl ?_
    refine ⟨_, rfl, ?_⟩
    simp only [addr_add, Nat.zero_add]
    refine Ld.blk hb (x := x.name) rfl ?_
    cases hc : slt L[i].1.name x.name with
    | false => exact out fun _ => hc
    | true =>
      unfold f128_k1
      refine ⟨fun _ => ?_, fun h => (by cases h)⟩
      rw [show IntKind.i64.wrap ((i : Int) + 1) = ((i + 1 : Nat) : Int) by rw [wrap_i64e]; omega]
      refine hag _ _ ⟨i + 1, rfl, by omega, hu.trans hd, fun y hy => ?_⟩ (by dsimp only; omega)
      rw [List.take_succ_eq_append_getElem (by simpa using hil)] at hy
      rcases List.mem_append.1 hy with hy | hy
      · exact ht y hy
      · simp only [List.mem_singleton] at hy
        subst hy
        simpa using hc
  · have : i = L.length := by simp at hge; omega
    exact out fun hi => by omega
end Go.Proofs
