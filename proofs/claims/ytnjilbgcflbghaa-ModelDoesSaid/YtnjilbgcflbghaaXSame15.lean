/- sporranref15: Find, Same (where they are one), SameAnswer (where they are one). -/
import Derived.Test.YtnjilbgcflbghaaXF0
import Derived.Test.YtnjilbgcflbghaaXImages
import Derived.Test.YtnjilbgcflbghaaXAns15
import Derived.Test.YtnjilbgcflbghaaXE3
set_option linter.all false
set_option maxHeartbeats 2000000
set_option maxRecDepth 100000
namespace Go.Proofs
open Go Go.X Go.Sort

/-- Images that slices show. -/
structure ImgsSee (w : World) (s : Sl) (L : List (ImgV × Sl)) : Prop where
  sees : Sees w s 4 (L.flatMap rowI)
  each : ∀ p ∈ L, Sees w p.2 49 (p.1.blocks.flatMap rowB)
  lens : ∀ p ∈ L, ∀ b ∈ p.1.blocks, b.2.length = 48
theorem ImgsAt.see {w : World} {s : Sl} {L : List (ImgV × Sl)} (h : ImgsAt w s L) : ImgsSee w s L := ⟨h.own.sees, fun p hp => (h.each p hp).sees, h.lens⟩
theorem ImgsSee.ext {w w' : World} {s : Sl} {L : List (ImgV × Sl)} (h : ImgsSee w s L) (hc : Ext w w') : ImgsSee w' s L := ⟨h.sees.ext hc, fun p hp => (h.each p hp).ext hc, h.lens⟩
theorem ImgsSee.len {w : World} {s : Sl} {L : List (ImgV × Sl)} (h : ImgsSee w s L) : L.length = s.len := h.sees.count (fun _ _ => rfl) (by decide)
theorem ImgsSee.row {w : World} {s : Sl} {L : List (ImgV × Sl)} (h : ImgsSee w s L) {i : Nat} (hi : i < L.length) : ∃ a, s.a = some a ∧ a.spot = none ∧ (∀ j v, (rowI L[i])[j]? = some v → w.cell? ((a.add (i * 4)).add j) = some v) := by
  obtain ⟨a, h1, h2, h3, _⟩ := h.sees.at (fun _ _ => rfl) (by decide) i hi
  exact ⟨a, h1, h2, fun j v hj => h3 j v (by simpa using hj)⟩
theorem ImgsSee.ix {w : World} {s : Sl} {L : List (ImgV × Sl)} (h : ImgsSee w s L) {i : Nat} (hi : i < L.length) {α : Type} {enc : α → Value} {j : Nat} {x : α} (hx : (rowI L[i])[j]? = some (enc x)) {K : α → Prop} (k : K x) :
    Ix s (i : Int) fun p => Ld enc (some ((p.add ((i : Int).toNat * 4)).add j)) w K := by
  obtain ⟨a, h1, _, h3⟩ := h.row hi
  have := h.len
  exact ⟨a, h1, by omega, by omega, _, x, rfl, h3 j _ hx, k⟩
theorem rowB_at {w : World} {s : Sl} {l : List (Int × List Nat)} (h : Sees w s 49 (l.flatMap rowB)) (hl : ∀ b ∈ l, b.2.length = 48) {i : Nat} (hi : i < l.length) {K : Array Value → Prop} (k : K (rowB l[i]).toArray) :
    Ix s (i : Int) fun p => LdN 49 (some (p.add ((i : Int).toNat * 49))) w K := by
  have hlen : ∀ b ∈ l, (rowB b).length = 49 := fun b hb => by simp [rowB, hl b hb]
  obtain ⟨a, h1, _, h3, h4⟩ := h.at hlen (by decide) i hi
  have := h.count hlen (by decide)
  exact ⟨a, h1, by omega, by omega, _, _, rfl, h4, h3, k⟩
theorem num_eq (n : Int) (b : List Nat) (hb : b.length = 48) : EqOK Try.prog 199 (.agg (rowB (n, b)).toArray) (.agg (rowB (n, b)).toArray) true := by
  obtain ⟨i, hi, _⟩ := Try.ti5
  have h := EqN.struct (P := Try.prog) (t := 199) (n := 2) (xs := (rowB (n, b)).toArray) (ys := (rowB (n, b)).toArray) (bs := [decide (n = n), decide (b = b)]) Try.underlying199 (by kernel_rfl) ⟨⟨by decide, _, _, part_1 Try.underlying3 rfl rfl, part_1 Try.underlying3 rfl rfl, (EqN.int Try.underlying3 n n).mono (by decide)⟩,
    ⟨by decide, (.agg (u8s b).toArray), (.agg (u8s b).toArray), fun w => ?_, fun w => ?_, EqN.u8s Try.underlying65 Try.underlying5 hi (by kernel_rfl) hb hb⟩, trivial⟩
  · have := EqOK.of (by kernel_rfl) h (by decide)
    simpa using this
  all_goals
    rw [part_N Try.underlying65 rfl Try.ti65 w]
    congr 2
    apply Array.ext'
    simp [rowB]
    exact List.take_of_length_le (by simp [hb])

theorem ref15_Find_spec {w : World} {s : Sl} {L : List (ImgV × Sl)} {name : ByteArray} (h : ImgsSee w s L) (hL : L.length < 1000000) {R : Value → World → Prop}
    (k : ∀ w', Ext w w' → R (.int .i64 (match L.findIdx? (fun p => decide (p.1.name = name)) with | some i => (i : Int) | none => -1)) w') : CallF Try.prog 51 #[s.v, .string name] w R := by
  refine f51_ok R s name w ?_
  unfold f51
  have hl := h.len
  refine Lp.mk (fun q u => ∃ i : Nat, q = (s, name, (i : Int)) ∧ i ≤ L.length ∧ Ext w u ∧ ∀ p ∈ L.take i, ¬ p.1.name = name) (fun q _ => s.len - q.2.2.toNat) ⟨0, rfl, by omega, Ch.refl _ _, by simp⟩ ?_
  rintro _ u ⟨i, rfl, hi, hx, hno⟩ ag hag
  show f51_b0 R ag s name i u
  unfold f51_b0
  refine ⟨fun hlt => ?_, fun hge => ?_⟩
  · have hil : i < L.length := by simp at hlt; omega
    refine (h.ext hx).ix hil (enc := Value.string) (j := 0) (x := L[i].1.name) rfl ?_
    rw [seq_eq]
    refine ⟨fun hc => ?_, fun hc => ?_⟩
    · have hn : L[i].1.name = name := by simpa using hc
      have hfi : L.findIdx? (fun p => decide (p.1.name = name)) = some i := by
        rw [List.findIdx?_eq_some_iff_getElem]
        refine ⟨hil, by simp [hn], fun j hj => ?_⟩
        have := hno L[j] (by rw [List.mem_take_iff_getElem]; exact ⟨j, by omega, rfl⟩)
        simpa using this
      have := k u hx
      rw [hfi] at this
      exact this
    · have hn : ¬ L[i].1.name = name := by simpa using hc
      rw [show IntKind.i64.wrap ((i : Int) + 1) = ((i + 1 : Nat) : Int) by rw [wrap_i64e]; omega]
      refine hag _ _ ⟨i + 1, rfl, by omega, hx, fun p hp => ?_⟩ (by dsimp only; omega)
      rw [List.take_succ_eq_append_getElem hil] at hp
      rcases List.mem_append.1 hp with hp | hp
      · exact hno p hp
      · simp only [List.mem_singleton] at hp; subst hp; exact hn
  · have : i = L.length := by simp at hge; omega
    subst this
    rw [List.take_length] at hno
    have hfi : L.findIdx? (fun p => decide (p.1.name = name)) = none := by
      rw [List.findIdx?_eq_none_iff]
      intro p hp
      simpa using hno p hp
    have := k u hx
    rw [hfi] at this
    exact this

/-- Same, of images that are one. -/
theorem ref15_Same_spec {w : World} {s s' : Sl} {L L' : List (ImgV × Sl)} (h : ImgsSee w s L) (h' : ImgsSee w s' L') (he : L.map (·.1) = L'.map (·.1)) (hL : L.length < 1000000) (hB : ∀ p ∈ L, p.1.blocks.length < 1000000) {R : Value → World → Prop}
    (k : ∀ w', Ext w w' → R (.bool true) w') : CallF Try.prog 52 #[s.v, s'.v] w R := by
  refine f52_ok R s s' w ?_
  unfold f52
  have hl := h.len
  have hl' := h'.len
  have hll : L.length = L'.length := by have := congrArg List.length he; simpa using this
  have hat : ∀ i (hi : i < L.length) (hi' : i < L'.length), L[i].1 = L'[i].1 := fun i hi hi' => by
    have := congrArg (fun x => x[i]?) he
    simpa [hi, hi'] using this
  refine ⟨fun hc => ?_, fun _ => ?_⟩
  · have : s.len ≠ s'.len := by simp at hc; omega
    omega
  refine Lp.mk (fun q u => ∃ i : Nat, q = (s, s', (i : Int)) ∧ i ≤ L.length ∧ Ext w u) (fun q _ => s.len - q.2.2.toNat) ⟨0, rfl, by omega, Ch.refl _ _⟩ ?_
  rintro _ u ⟨i, rfl, hi, hx⟩ ag hag
  show f52_b0 R ag s s' i u
  unfold f52_b0
  refine ⟨fun hlt => ?_, fun _ => k u hx⟩
  have hil : i < L.length := by simp at hlt; omega
  have hil' : i < L'.length := by omega
  have hd := Ch.drew u
  have hxd := hx.trans hd
  have g := h.ext hxd
  have g' := h'.ext hxd
  have e := hat i hil hil'
  refine g.ix hil (enc := Value.string) (j := 0) (x := L[i].1.name) rfl ?_
  refine g'.ix hil' (enc := Value.string) (j := 0) (x := L'[i].1.name) rfl ?_
  rw [seq_eq]
  refine ⟨fun hc => by rw [e] at hc; simp at hc, fun _ => ?_⟩
  refine g.ix hil (enc := Value.int .i64) (j := 1) (x := L[i].1.quota) rfl ?_
  refine g'.ix hil' (enc := Value.int .i64) (j := 1) (x := L'[i].1.quota) rfl ?_
  refine ⟨fun hc => by rw [e] at hc; simp at hc, fun _ => ?_⟩
  refine g.ix hil (enc := Value.bool) (j := 2) (x := L[i].1.frozen) rfl ?_
  refine g'.ix hil' (enc := Value.bool) (j := 2) (x := L'[i].1.frozen) rfl ?_
  refine ⟨fun hc => by rw [e] at hc; simp at hc, fun _ => ?_⟩
  refine g.ix hil (enc := Sl.v) (j := 3) (x := L[i].2) rfl ?_
  refine g'.ix hil' (enc := Sl.v) (j := 3) (x := L'[i].2) rfl ?_
  have hmem := List.getElem_mem hil
  have hmem' := List.getElem_mem hil'
  have rl : ∀ b ∈ L[i].1.blocks, (rowB b).length = 49 := fun b hb => by simp [rowB, h.lens _ hmem b hb]
  have rl' : ∀ b ∈ L'[i].1.blocks, (rowB b).length = 49 := fun b hb => by simp [rowB, h'.lens _ hmem' b hb]
  have c1 := (h.each _ hmem).count rl (by decide)
  have c2 := (h'.each _ hmem').count rl' (by decide)
  have c3 : L[i].1.blocks.length = L'[i].1.blocks.length := by rw [e]
  have hbb := hB _ hmem
  unfold f52_k1
  refine ⟨fun hc => ?_, fun _ => ?_⟩
  · have : L[i].2.len ≠ L'[i].2.len := by simp at hc; omega
    omega
  refine Lp.mk (fun q z => ∃ j : Nat, q = (s, s', (i : Int), (j : Int)) ∧ j ≤ L[i].1.blocks.length ∧ Ext w z) (fun q _ => L[i].2.len - q.2.2.2.toNat) ⟨0, rfl, by omega, hxd⟩ ?_
  rintro _ z ⟨j, rfl, hj, hz⟩ ag6 hag6
  show f52_b2 R ag ag6 s s' i j z
  unfold f52_b2
  refine (h.ext hz).ix hil (enc := Sl.v) (j := 3) (x := L[i].2) rfl ?_
  refine ⟨fun hlt2 => ?_, fun _ => ?_⟩
  · have hjl : j < L[i].1.blocks.length := by simp at hlt2; omega
    have hjl' : j < L'[i].1.blocks.length := by omega
    have hzd := hz.trans (Ch.drew z)
    refine (h.ext hzd).ix hil (enc := Sl.v) (j := 3) (x := L[i].2) rfl ?_
    refine rowB_at ((h.ext hzd).each _ hmem) (h.lens _ hmem) hjl ?_
    refine (h'.ext hzd).ix hil' (enc := Sl.v) (j := 3) (x := L'[i].2) rfl ?_
    refine rowB_at ((h'.ext hzd).each _ hmem') (h'.lens _ hmem') hjl' ?_
    have eb : L'[i].1.blocks[j] = L[i].1.blocks[j] := by congr 1; rw [e]
    rw [eb]
    refine ⟨true, num_eq _ _ (h.lens _ hmem _ (List.getElem_mem hjl)), fun hc => (by cases hc), fun _ => ?_⟩
    rw [show IntKind.i64.wrap ((j : Int) + 1) = ((j + 1 : Nat) : Int) by rw [wrap_i64e]; omega]
    exact hag6 _ _ ⟨j + 1, rfl, by omega, hzd⟩ (by dsimp only; omega)
  · rw [show IntKind.i64.wrap ((i : Int) + 1) = ((i + 1 : Nat) : Int) by rw [wrap_i64e]; omega]
    exact hag _ _ ⟨i + 1, rfl, by omega, hz⟩ (by dsimp only; omega)

/-- SameAnswer, of answers that are one. -/
theorem ref15_SameAnswer_spec {w : World} {e : Int} {t : Bool} {b : List Nat} {s s' : Sl} {ys : List ByteArray} (hb : b.length = 48) (h : Sees w s 1 (ys.map Value.string)) (h' : Sees w s' 1 (ys.map Value.string)) (hy : ys.length < 1000000) {R : Value → World → Prop}
    (k : ∀ w', Ext w w' → R (.bool true) w') : CallF Try.prog 54 #[.agg (ansL e t b s.v).toArray, .agg (ansL e t b s'.v).toArray] w R := by
  refine f54_ok R _ _ w ?_
  unfold f54
  refine New.mk fun a1 w1 ha1 hs1 hb1 hx1 => New.mk fun a2 w2 ha2 hs2 hb2 hx2 => ?_
  have hx := hx1.trans hx2
  have hb1 := hb1.ext hx2
  have hn : ∀ (s : Sl), (ansL e t b s.v).toArray[50]? = some s.v := fun s => by
    have : (ansL e t b s.v)[50]? = some s.v := by
      simp only [ansL, List.getElem?_cons_succ]
      rw [List.getElem?_append_right (by simp [hb])]
      simp [hb]
    simpa using this
  have hl : ys.length = s.len := by have := h.1; simpa using this
  have hl' : ys.length = s'.len := by have := h'.1; simpa using this
  simp only [addr_add, Nat.zero_add]
  refine Ld.blk hb1 rfl (Ld.blk hb2 rfl ⟨fun hc => by simp at hc, fun _ => ?_⟩)
  refine Ld.blk hb1 rfl (Ld.blk hb2 rfl ⟨fun hc => by simp at hc, fun _ => ?_⟩)
  refine ans_blk hb1 hb (ans_blk hb2 hb (agg_u8s hb hb ⟨fun hc => by simp at hc, fun _ => ?_⟩))
  refine Ld.blk hb1 (hn s) (Ld.blk hb2 (hn s') ?_)
  unfold f54_k0
  refine ⟨fun hc => ?_, fun _ => ?_⟩
  · have : s.len ≠ s'.len := by simp at hc; omega
    omega
  refine Lp.mk (fun q u => ∃ i : Nat, q = (some ⟨a1, 0, none⟩, some ⟨a2, 0, none⟩, (i : Int)) ∧ i ≤ ys.length ∧ Ext w2 u) (fun q _ => s.len - q.2.2.toNat) ⟨0, rfl, by omega, Ch.refl _ _⟩ ?_
  rintro _ u ⟨i, rfl, hi, hu⟩ ag hag
  show f54_b1 R ag (some ⟨a1, 0, none⟩) (some ⟨a2, 0, none⟩) i u
  unfold f54_b1
  refine ⟨_, rfl, ?_⟩
  simp only [addr_add, Nat.zero_add]
  refine Ld.blk (hb1.ext hu) (hn s) ⟨fun hlt => ?_, fun _ => k u (hx.trans hu)⟩
  have hil : i < ys.length := by simp at hlt; omega
  have hud := hu.trans (Ch.drew u)
  have rd : ∀ (s : Sl) (hs : Sees w s 1 (ys.map Value.string)) (hsl : ys.length = s.len) {K : ByteArray → Prop}, K ys[i] → Ix s (i : Int) fun p => Ld Value.string (some (p.add ((i : Int).toNat * 1))) (World.drew u) K := by
    intro s hs hsl K hk
    have g := hs.ext (hx.trans hud)
    cases ha : s.a with
    | none => have := g.2.2.1 ha; omega
    | some a => exact ⟨a, ha, by omega, by omega, _, ys[i], rfl, (by have := (g.2.2.2 a ha).2 i (.string ys[i]) (by simp [hil]); simpa using this), hk⟩
  refine ⟨_, rfl, Ld.blk (hb1.ext hud) (hn s) (rd s h hl ⟨_, rfl, Ld.blk (hb2.ext hud) (hn s') (rd s' h' hl' ?_)⟩)⟩
  rw [seq_eq]
  refine ⟨fun hc => by simp at hc, fun _ => ?_⟩
  rw [show IntKind.i64.wrap ((i : Int) + 1) = ((i + 1 : Nat) : Int) by rw [wrap_i64e]; omega]
  exact hag _ _ ⟨i + 1, rfl, by omega, hud⟩ (by dsimp only; omega)
theorem model_Changes_spec {w : World} (n : Int) {R : Value → World → Prop} (k : R (.bool (decide (1 ≤ n ∧ n ≤ 7 ∧ n ≠ 5))) w) : CallF Try.prog 53 #[.int .i64 n] w R := by
  refine f53_ok R n w ?_
  unfold f53
  refine ⟨fun h1 => ⟨fun h2 => ?_, fun h2 => ?_⟩, fun h1 => ?_⟩
  · have a : 1 ≤ n := by simpa using h1
    have b : n ≤ 7 := by simpa using h2
    rw [show (decide (1 ≤ n ∧ n ≤ 7 ∧ n ≠ 5)) = !decide (n = 5) by simp [a, b]] at k
    exact k
  · have b : ¬ n ≤ 7 := by simpa using h2
    rw [show (decide (1 ≤ n ∧ n ≤ 7 ∧ n ≠ 5)) = false by simp [b]] at k
    exact k
  · have a : ¬ 1 ≤ n := by simpa using h1
    rw [show (decide (1 ≤ n ∧ n ≤ 7 ∧ n ≠ 5)) = false by simp [a]] at k
    exact k
end Go.Proofs
