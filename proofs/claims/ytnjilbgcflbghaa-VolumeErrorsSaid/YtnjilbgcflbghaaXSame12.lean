/- sporranref12: Find, Same (where they are one). -/
import Derived.Test.YtnjilbgcflbghaaXF0
import Derived.Test.YtnjilbgcflbghaaXVol4
import Derived.Test.YtnjilbgcflbghaaXE3
set_option linter.all false
set_option maxHeartbeats 2000000
set_option maxRecDepth 100000
namespace Go.Proofs
open Go Go.X Go.Sort

/-- Images that slices show. -/
structure VolsSee (w : World) (s : Sl) (L : List (ImgV × Sl)) : Prop where
  sees : Sees w s 4 (L.flatMap rowI)
  each : ∀ p ∈ L, Sees w p.2 33 (p.1.blocks.flatMap rowB)
  lens : ∀ p ∈ L, ∀ b ∈ p.1.blocks, b.2.length = 32
theorem AllAt.see {w : World} {s : Sl} {L : List (ImgV × Sl)} (h : AllAt w s L) : VolsSee w s L := ⟨h.own.sees, fun p hp => (h.each p hp).sees, h.lens⟩
theorem VolsSee.ext {w w' : World} {s : Sl} {L : List (ImgV × Sl)} (h : VolsSee w s L) (hc : Ext w w') : VolsSee w' s L := ⟨h.sees.ext hc, fun p hp => (h.each p hp).ext hc, h.lens⟩
theorem VolsSee.len {w : World} {s : Sl} {L : List (ImgV × Sl)} (h : VolsSee w s L) : L.length = s.len := h.sees.count (fun _ _ => rfl) (by decide)
theorem VolsSee.row {w : World} {s : Sl} {L : List (ImgV × Sl)} (h : VolsSee w s L) {i : Nat} (hi : i < L.length) : ∃ a, s.a = some a ∧ a.spot = none ∧ (∀ j v, (rowI L[i])[j]? = some v → w.cell? ((a.add (i * 4)).add j) = some v) := by
  obtain ⟨a, h1, h2, h3, _⟩ := h.sees.at (fun _ _ => rfl) (by decide) i hi
  exact ⟨a, h1, h2, fun j v hj => h3 j v (by simpa using hj)⟩
theorem VolsSee.ix {w : World} {s : Sl} {L : List (ImgV × Sl)} (h : VolsSee w s L) {i : Nat} (hi : i < L.length) {α : Type} {enc : α → Value} {j : Nat} {x : α} (hx : (rowI L[i])[j]? = some (enc x)) {K : α → Prop} (k : K x) :
    Ix s (i : Int) fun p => Ld enc (some ((p.add ((i : Int).toNat * 4)).add j)) w K := by
  obtain ⟨a, h1, _, h3⟩ := h.row hi
  have := h.len
  exact ⟨a, h1, by omega, by omega, _, x, rfl, h3 j _ hx, k⟩
theorem rowC_at {w : World} {s : Sl} {l : List (Int × List Nat)} (h : Sees w s 33 (l.flatMap rowB)) (hl : ∀ b ∈ l, b.2.length = 32) {i : Nat} (hi : i < l.length) {K : Array Value → Prop} (k : K (rowB l[i]).toArray) :
    Ix s (i : Int) fun p => LdN 33 (some (p.add ((i : Int).toNat * 33))) w K := by
  have hlen : ∀ b ∈ l, (rowB b).length = 33 := fun b hb => by simp [rowB, hl b hb]
  obtain ⟨a, h1, _, h3, h4⟩ := h.at hlen (by decide) i hi
  have := h.count hlen (by decide)
  exact ⟨a, h1, by omega, by omega, _, _, rfl, h4, h3, k⟩
theorem cell_eq (n : Int) (b : List Nat) (hb : b.length = 32) : EqOK Try.prog 98 (.agg (rowB (n, b)).toArray) (.agg (rowB (n, b)).toArray) true := by
  obtain ⟨i, hi, _⟩ := Try.ti5
  have h := EqN.struct (P := Try.prog) (t := 98) (n := 2) (xs := (rowB (n, b)).toArray) (ys := (rowB (n, b)).toArray) (bs := [decide (n = n), decide (b = b)]) Try.underlying98 (by kernel_rfl) ⟨⟨by decide, _, _, part_1 Try.underlying3 rfl rfl, part_1 Try.underlying3 rfl rfl, (EqN.int Try.underlying3 n n).mono (by decide)⟩,
    ⟨by decide, (.agg (u8s b).toArray), (.agg (u8s b).toArray), fun w => ?_, fun w => ?_, EqN.u8s Try.underlying24 Try.underlying5 hi (by kernel_rfl) hb hb⟩, trivial⟩
  · have := EqOK.of (by kernel_rfl) h (by decide)
    simpa using this
  all_goals
    rw [part_N Try.underlying24 rfl Try.ti24 w]
    congr 2
    apply Array.ext'
    simp [rowB]
    exact List.take_of_length_le (by simp [hb])

theorem ref12_Find_spec {w : World} {s : Sl} {L : List (ImgV × Sl)} {name : ByteArray} (h : VolsSee w s L) (hL : L.length < 1000000) {R : Value → World → Prop}
    (k : ∀ w', Ext w w' → R (.int .i64 (match L.findIdx? (fun p => decide (p.1.name = name)) with | some i => (i : Int) | none => -1)) w') : CallF Try.prog 48 #[s.v, .string name] w R := by
  refine f48_ok R s name w ?_
  unfold f48
  have hl := h.len
  refine Lp.mk (fun q u => ∃ i : Nat, q = (s, name, (i : Int)) ∧ i ≤ L.length ∧ Ext w u ∧ ∀ p ∈ L.take i, ¬ p.1.name = name) (fun q _ => s.len - q.2.2.toNat) ⟨0, rfl, by omega, Ch.refl _ _, by simp⟩ ?_
  rintro _ u ⟨i, rfl, hi, hx, hno⟩ ag hag
  show f48_b0 R ag s name i u
  unfold f48_b0
  refine ⟨fun hlt => ?_, fun hge => ?_⟩
  · have hil : i < L.length := by simp at hlt; omega
    refine (h.ext hx).ix hil (enc := Value.string) (j := 0) (x := L[i].1.name) rfl ?_
    rw [seq_eq]
    refine ⟨fun hc => ?_, fun hc => ?_⟩
    · have hn : L[i].1.name = name := by simpa using hc
      have hfi : L.findIdx? (fun p => decide (p.1.name = name)) = some i := by
        rw [List.findIdx?_eq_some_iff_getElem]
        refine ⟨hil, by simp [hn], fun j hj => ?_⟩
        have := hno L[j] (by rw [List.mem_take_iff_getElem]; exact ⟨j, by omega, rfl⟩)
        simpa using this
      have := k u hx
      rw [hfi] at this
      exact this
    · have hn : ¬ L[i].1.name = name := by simpa using hc
      rw [show IntKind.i64.wrap ((i : Int) + 1) = ((i + 1 : Nat) : Int) by rw [wrap_i64e]; omega]
      refine hag _ _ ⟨i + 1, rfl, by omega, hx, fun p hp => ?_⟩ (by dsimp only; omega)
      rw [List.take_succ_eq_append_getElem hil] at hp
      rcases List.mem_append.1 hp with hp | hp
      · exact hno p hp
      · simp only [List.mem_singleton] at hp; subst hp; exact hn
  · have : i = L.length := by simp at hge; omega
    subst this
    rw [List.take_length] at hno
    have hfi : L.findIdx? (fun p => decide (p.1.name = name)) = none := by
      rw [List.findIdx?_eq_none_iff]
      intro p hp
      simpa using hno p hp
    have := k u hx
    rw [hfi] at this
    exact this

/-- Same, of images that are one. -/
theorem ref12_Same_spec {w : World} {s s' : Sl} {L L' : List (ImgV × Sl)} (h : VolsSee w s L) (h' : VolsSee w s' L') (he : L.map (·.1) = L'.map (·.1)) (hL : L.length < 1000000) (hB : ∀ p ∈ L, p.1.blocks.length < 1000000) {R : Value → World → Prop}
    (k : ∀ w', Ext w w' → R (.bool true) w') : CallF Try.prog 47 #[s.v, s'.v] w R := by
  refine f47_ok R s s' w ?_
  unfold f47
  have hl := h.len
  have hl' := h'.len
  have hll : L.length = L'.length := by have := congrArg List.length he; simpa using this
  have hat : ∀ i (hi : i < L.length) (hi' : i < L'.length), L[i].1 = L'[i].1 := fun i hi hi' => by
    have := congrArg (fun x => x[i]?) he
    simpa [hi, hi'] using this
  refine ⟨fun hc => ?_, fun _ => ?_⟩
  · have : s.len ≠ s'.len := by simp at hc; omega
    omega
  refine Lp.mk (fun q u => ∃ i : Nat, q = (s, s', (i : Int)) ∧ i ≤ L.length ∧ Ext w u) (fun q _ => s.len - q.2.2.toNat) ⟨0, rfl, by omega, Ch.refl _ _⟩ ?_
  rintro _ u ⟨i, rfl, hi, hx⟩ ag hag
  show f47_b0 R ag s s' i u
  unfold f47_b0
  refine ⟨fun hlt => ?_, fun _ => k u hx⟩
  have hil : i < L.length := by simp at hlt; omega
  have hil' : i < L'.length := by omega
  have hd := Ch.drew u
  have hxd := hx.trans hd
  have g := h.ext hxd
  have g' := h'.ext hxd
  have e := hat i hil hil'
  refine g.ix hil (enc := Value.string) (j := 0) (x := L[i].1.name) rfl ?_
  refine g'.ix hil' (enc := Value.string) (j := 0) (x := L'[i].1.name) rfl ?_
  rw [seq_eq]
  refine ⟨fun hc => by rw [e] at hc; simp at hc, fun _ => ?_⟩
  refine g.ix hil (enc := Value.int .i64) (j := 1) (x := L[i].1.quota) rfl ?_
  refine g'.ix hil' (enc := Value.int .i64) (j := 1) (x := L'[i].1.quota) rfl ?_
  refine ⟨fun hc => by rw [e] at hc; simp at hc, fun _ => ?_⟩
  refine g.ix hil (enc := Value.bool) (j := 2) (x := L[i].1.frozen) rfl ?_
  refine g'.ix hil' (enc := Value.bool) (j := 2) (x := L'[i].1.frozen) rfl ?_
  refine ⟨fun hc => by rw [e] at hc; simp at hc, fun _ => ?_⟩
  refine g.ix hil (enc := Sl.v) (j := 3) (x := L[i].2) rfl ?_
  refine g'.ix hil' (enc := Sl.v) (j := 3) (x := L'[i].2) rfl ?_
  have hmem := List.getElem_mem hil
  have hmem' := List.getElem_mem hil'
  have rl : ∀ b ∈ L[i].1.blocks, (rowB b).length = 33 := fun b hb => by simp [rowB, h.lens _ hmem b hb]
  have rl' : ∀ b ∈ L'[i].1.blocks, (rowB b).length = 33 := fun b hb => by simp [rowB, h'.lens _ hmem' b hb]
  have c1 := (h.each _ hmem).count rl (by decide)
  have c2 := (h'.each _ hmem').count rl' (by decide)
  have c3 : L[i].1.blocks.length = L'[i].1.blocks.length := by rw [e]
  have hbb := hB _ hmem
  unfold f47_k1
  refine ⟨fun hc => ?_, fun _ => ?_⟩
  · have : L[i].2.len ≠ L'[i].2.len := by simp at hc; omega
    omega
  refine Lp.mk (fun q z => ∃ j : Nat, q = (s, s', (i : Int), (j : Int)) ∧ j ≤ L[i].1.blocks.length ∧ Ext w z) (fun q _ => L[i].2.len - q.2.2.2.toNat) ⟨0, rfl, by omega, hxd⟩ ?_
  rintro _ z ⟨j, rfl, hj, hz⟩ ag6 hag6
  show f47_b2 R ag ag6 s s' i j z
  unfold f47_b2
  refine (h.ext hz).ix hil (enc := Sl.v) (j := 3) (x := L[i].2) rfl ?_
  refine ⟨fun hlt2 => ?_, fun _ => ?_⟩
  · have hjl : j < L[i].1.blocks.length := by simp at hlt2; omega
    have hjl' : j < L'[i].1.blocks.length := by omega
    have hzd := hz.trans (Ch.drew z)
    refine (h.ext hzd).ix hil (enc := Sl.v) (j := 3) (x := L[i].2) rfl ?_
    refine rowC_at ((h.ext hzd).each _ hmem) (h.lens _ hmem) hjl ?_
    refine (h'.ext hzd).ix hil' (enc := Sl.v) (j := 3) (x := L'[i].2) rfl ?_
    refine rowC_at ((h'.ext hzd).each _ hmem') (h'.lens _ hmem') hjl' ?_
    have eb : L'[i].1.blocks[j] = L[i].1.blocks[j] := by congr 1; rw [e]
    rw [eb]
    refine ⟨true, cell_eq _ _ (h.lens _ hmem _ (List.getElem_mem hjl)), fun hc => (by cases hc), fun _ => ?_⟩
    rw [show IntKind.i64.wrap ((j : Int) + 1) = ((j + 1 : Nat) : Int) by rw [wrap_i64e]; omega]
    exact hag6 _ _ ⟨j + 1, rfl, by omega, hzd⟩ (by dsimp only; omega)
  · rw [show IntKind.i64.wrap ((i : Int) + 1) = ((i + 1 : Nat) : Int) by rw [wrap_i64e]; omega]
    exact hag _ _ ⟨i + 1, rfl, by omega, hz⟩ (by dsimp only; omega)

end Go.Proofs
