/- sporranref15: Do, whatever the operation. -/
import Derived.Test.YtnjilbgcflbghaaXRefDo2
set_option linter.all false
set_option maxHeartbeats 4000000
set_option maxRecDepth 100000
namespace Go.Proofs
open Go Go.X Go.Sort
theorem opkind_ld {w u : World} {a1 a2 : Nat} {o : OpV} {s : Sl} {L : List (ImgV × Sl)} (c : DoCtx w u a1 a2 o s L) {K : Int → Prop} (k : K o.kind) : NotNil (some ⟨a1, 0, none⟩) fun p => Ld (Value.int .i64) (some (p.add 0)) u K := LdO c.b1 (x := o.kind) rfl k
theorem getB_at {X : List (Int × List Nat)} (h : RiseB X) {j : Nat} (hj : j < X.length) : getB X X[j].1 = some X[j] := by
  unfold getB
  refine List.find?_eq_some_iff_getElem.2 ⟨by simp, j, hj, rfl, fun i hi => ?_⟩
  have := (rise_split h hj).1 X[i] (List.mem_take_iff_getElem.2 ⟨i, by omega, rfl⟩)
  simp; omega
theorem getB_none {X : List (Int × List Nat)} {n : Int} (h : ∀ y ∈ X, ¬ y.1 = n) : getB X n = none := by
  unfold getB
  rw [List.find?_eq_none]
  intro x hx
  simpa using h x hx
/-- Reads, writes and trims of a volume that there is, at a number that there may be. -/
theorem do_k4 {w u : World} {a1 a2 : Nat} {o : OpV} {s : Sl} {L : List (ImgV × Sl)} {R : Value → World → Prop} (hk : RK w s L o R) (c : DoCtx w u a1 a2 o s L) {i : Nat} (hi : i < L.length) (hn : L[i].1.name = o.name) (hg : getI (L.map (·.1)) o.name = some L[i].1) (h345 : o.kind = 3 ∨ o.kind = 4 ∨ o.kind = 5) (hr : ¬(o.number < 0 ∨ 1048576 ≤ o.number)) :
    f63_k4 R s (some ⟨a1, 0, none⟩) (some ⟨a2, 0, none⟩) (i : Int) false u := by
  have hmem := List.getElem_mem hi
  have hX48 : ∀ b ∈ L[i].1.blocks, b.2.length = 48 := c.see.lens _ hmem
  have hXr := c.riseB _ hmem
  have hXl := c.lenB _ hmem
  have hdo : refDo (L.map (·.1)) o = (if o.kind = 5 then (L.map (·.1), 0, (getB L[i].1.blocks o.number).isSome, ((getB L[i].1.blocks o.number).map (·.2)).getD zeros48)
      else if L[i].1.frozen = true then (L.map (·.1), 10, false, zeros48)
      else if o.kind = 3 ∧ (getB L[i].1.blocks o.number).isSome = false ∧ L[i].1.quota ≤ L[i].1.blocks.length then (L.map (·.1), 8, false, zeros48)
      else (setI (L.map (·.1)) o.name (if o.kind = 4 then delB L[i].1.blocks o.number else insB L[i].1.blocks o.number o.block), 0, false, zeros48)) := by
    unfold refDo
    rw [if_neg (show ¬ o.kind = 1 by omega), if_neg (show ¬ o.kind = 8 by omega), if_neg (show ¬ (o.kind = 6 ∨ o.kind = 7) by omega), if_neg (show ¬ (o.kind < 1 ∨ 8 < o.kind) by omega), hg]
    dsimp only
    rw [if_neg (show ¬ o.kind = 2 by omega), if_neg hr]
  unfold f63_k4
  refine ⟨fun h => (by cases h), fun _ => ?_⟩
  generalize hX : L[i].1.blocks = X at *
  refine Lp.mk (fun q z => ∃ (k : Nat) (had : Int), q = (s, some ⟨a1, 0, none⟩, some ⟨a2, 0, none⟩, (i : Int), had, (k : Int)) ∧ k ≤ X.length ∧ DoCtx w z a1 a2 o s L ∧
      ((had = -1 ∧ ∀ y ∈ X.take k, ¬ y.1 = o.number) ∨ ∃ j, ∃ hj : j < X.length, had = (j : Int) ∧ X[j].1 = o.number))
    (fun q _ => X.length - q.2.2.2.2.2.toNat) ⟨0, -1, rfl, by omega, c, .inl ⟨rfl, by simp⟩⟩ ?_
  rintro _ z ⟨k, had, rfl, hkl, cz, hhad⟩ ag hag
  show f63_b5 R ag s (some ⟨a1, 0, none⟩) (some ⟨a2, 0, none⟩) (i : Int) had (k : Int) z
  unfold f63_b5
  have hcz := (cz.here.each _ hmem)
  rw [hX] at hcz
  have hrl : ∀ b ∈ X, (rowB b).length = 49 := fun b hb => by simp [rowB, hX48 b hb]
  have hcnt : X.length = L[i].2.len := hcz.count hrl (by decide)
  have czd := cz.more (Ch.drew z)
  have hczd := hcz.ext (Ch.drew z)
  refine ix_row cz hi ⟨fun hlt => ?_, fun hge => ?_⟩
  · have hkX : k < X.length := by simp at hlt; omega
    refine ix_row czd hi ?_
    obtain ⟨a, h1, h2, h3, _⟩ := hczd.at hrl (by decide) k hkX
    refine ⟨a, h1, by omega, by omega, ?_⟩
    refine ⟨_, X[k].1, rfl, h3 0 _ (by simp [rowB]), ?_⟩
    refine opnum_ld czd ⟨fun he => ?_, fun hne => ?_⟩
    · have he : X[k].1 = o.number := by simpa using he
      unfold f63_k6
      rw [show IntKind.i64.wrap ((k : Int) + 1) = ((k + 1 : Nat) : Int) by rw [wrap_i64e]; omega]
      exact hag _ _ ⟨k + 1, _, rfl, by omega, czd, .inr ⟨k, hkX, rfl, he⟩⟩ (by dsimp only; omega)
    · have hne : ¬ X[k].1 = o.number := by simpa using hne
      unfold f63_k6
      rw [show IntKind.i64.wrap ((k : Int) + 1) = ((k + 1 : Nat) : Int) by rw [wrap_i64e]; omega]
      refine hag _ _ ⟨k + 1, had, rfl, by omega, czd, ?_⟩ (by dsimp only; omega)
      rcases hhad with ⟨h1, h2⟩ | h
      · refine .inl ⟨h1, fun y hy => ?_⟩
        rw [List.take_succ_eq_append_getElem hkX] at hy
        rcases List.mem_append.1 hy with hy | hy
        · exact h2 y hy
        · simp only [List.mem_singleton] at hy; subst hy; exact hne
      · exact .inr h
  · have hkX : k = X.length := by simp at hge; omega
    subst hkX
    rw [List.take_length] at hhad
    have hget : (had < 0 ∧ getB X o.number = none) ∨ ∃ j, ∃ hj : j < X.length, had = (j : Int) ∧ getB X o.number = some X[j] := by
      rcases hhad with ⟨h1, h2⟩ | ⟨j, hj, h1, h2⟩
      · exact .inl ⟨by omega, getB_none h2⟩
      · exact .inr ⟨j, hj, h1, by rw [← h2]; exact getB_at hXr hj⟩
    clear hhad
    refine opkind_ld cz ⟨fun h5 => ?_, fun h5 => ?_⟩
    · have h5 : o.kind = 5 := by simpa using h5
      rw [if_pos h5] at hdo
      rcases hget with ⟨h1, h2⟩ | ⟨j, hj, h1, h2⟩
      · refine ⟨fun _ => ⟨_, ans_fillE, ?_⟩, fun h => by simp at h; omega⟩
        rw [h2] at hdo
        exact do_same hk cz zeros48_len hdo (by omega)
      · subst h1
        refine ⟨fun h => by simp at h; omega, fun _ => ?_⟩
        refine ix_row czd hi ?_
        obtain ⟨a, h3, h4, h6, _⟩ := hczd.at hrl (by decide) j hj
        refine ⟨a, h3, by omega, by omega, ?_⟩
        have hbl := hX48 _ (List.getElem_mem hj)
        refine ⟨_, (u8s X[j].2).toArray, rfl, by simp [hbl], fun i v hv => ?_, ?_⟩
        · have := h6 (1 + i) v (by rw [Nat.add_comm]; simpa [rowB] using hv)
          obtain ⟨ab, ao, asp⟩ := a
          simp only at h4
          subst h4
          simpa [Nat.add_assoc] using this
        · refine ⟨(ansL 0 true X[j].2 nilV).toArray, by rw [ans_zero, ans_there]; exact ans_block zeros48_len hbl, ?_⟩
          rw [h2] at hdo
          exact do_same hk czd hbl hdo (by omega)
    · have h5 : ¬ o.kind = 5 := by simpa using h5
      rw [if_neg h5] at hdo
      refine cz.here.ix hi (enc := Value.bool) (j := 2) (x := L[i].1.frozen) rfl ⟨fun hf => ?_, fun hf => ?_⟩
      · rw [if_pos hf] at hdo
        exact do_err hk cz 10 hdo (by omega)
      · rw [if_neg (by rw [hf]; simp)] at hdo
        have fin : ∀ z', DoCtx w z' a1 a2 o s L → ¬(o.kind = 3 ∧ (getB X o.number).isSome = false ∧ L[i].1.quota ≤ X.length) → f63_k7 R ag s (some ⟨a1, 0, none⟩) (some ⟨a2, 0, none⟩) (i : Int) false z' := fun z' c' hno => by
          rw [if_neg hno] at hdo
          refine do_k7 hk c' hi hn (h345.elim .inl fun h => h.elim .inr fun h => absurd h h5) ?_
          rw [hX]; exact hdo
        refine opkind_ld czd ⟨fun h3 => ?_, fun h3 => ?_⟩
        · have h3 : o.kind = 3 := by simpa using h3
          rcases hget with ⟨h1, h2⟩ | ⟨j, hj, h1, h2⟩
          · refine ⟨fun _ => ?_, fun h => by simp at h; omega⟩
            refine ix_row czd hi ?_
            refine czd.here.ix hi (enc := Value.int .i64) (j := 1) (x := L[i].1.quota) rfl ?_
            cases hq : decide (L[i].1.quota ≤ (L[i].2.len : Int)) with
            | true =>
              have hq : L[i].1.quota ≤ (L[i].2.len : Int) := by simpa using hq
              rw [if_pos ⟨h3, by rw [h2]; rfl, by omega⟩] at hdo
              unfold f63_k7
              exact ⟨fun _ => do_err hk czd 8 hdo (by omega), fun h => (by cases h)⟩
            | false =>
              have hq : ¬ L[i].1.quota ≤ (L[i].2.len : Int) := by simpa using hq
              exact fin _ czd fun h => by have := h.2.2; omega
          · subst h1
            refine ⟨fun h => by simp at h; omega, fun _ => fin _ czd fun h => by have := h.2.1; rw [h2] at this; cases this⟩
        · have h3 : ¬ o.kind = 3 := by simpa using h3
          exact fin _ czd fun h => h3 h.1

/-- Where a name is: told by its place, or -1. -/
theorem do_k3 {w u : World} {a1 a2 : Nat} {o : OpV} {s : Sl} {L : List (ImgV × Sl)} {R : Value → World → Prop} (hk : RK w s L o R) (c : DoCtx w u a1 a2 o s L) {i6 : Int} (h16 : o.kind ≠ 1) (h8 : o.kind ≠ 8) (h67 : ¬(o.kind = 6 ∨ o.kind = 7))
    (hi6 : (i6 = -1 ∧ getI (L.map (·.1)) o.name = none) ∨ ∃ i, ∃ hi : i < L.length, i6 = (i : Int) ∧ getI (L.map (·.1)) o.name = some L[i].1 ∧ L[i].1.name = o.name) {t : Bool} (ht : t = decide (o.kind < 1 ∨ 8 < o.kind)) :
    f63_k3 R s (some ⟨a1, 0, none⟩) (some ⟨a2, 0, none⟩) i6 t u := by
  have hdo : refDo (L.map (·.1)) o = (if o.kind < 1 ∨ 8 < o.kind then (L.map (·.1), (1 : Int), false, zeros48) else match getI (L.map (·.1)) o.name with
    | none => (L.map (·.1), 5, false, zeros48)
    | some x =>
      if o.kind = 2 then (delI (L.map (·.1)) o.name, 0, false, zeros48)
      else if o.number < 0 ∨ 1048576 ≤ o.number then (L.map (·.1), 2, false, zeros48)
      else if o.kind = 5 then (L.map (·.1), 0, (getB x.blocks o.number).isSome, ((getB x.blocks o.number).map (·.2)).getD zeros48)
      else if x.frozen = true then (L.map (·.1), 10, false, zeros48)
      else if o.kind = 3 ∧ (getB x.blocks o.number).isSome = false ∧ x.quota ≤ x.blocks.length then (L.map (·.1), 8, false, zeros48)
      else (setI (L.map (·.1)) o.name (if o.kind = 4 then delB x.blocks o.number else insB x.blocks o.number o.block), 0, false, zeros48)) := by
    unfold refDo
    rw [if_neg h16, if_neg h8, if_neg h67]
    rfl
  unfold f63_k3
  refine ⟨fun h => ?_, fun h => ?_⟩
  · rw [h] at ht
    rw [if_pos (of_decide_eq_true ht.symm)] at hdo
    exact do_err hk c 1 hdo h8
  rw [h] at ht
  have hrange := of_decide_eq_false ht.symm
  rw [if_neg hrange] at hdo
  rcases hi6 with ⟨rfl, hg⟩ | ⟨i, hi, rfl, hg, hn⟩
  · refine ⟨fun _ => ?_, fun h => by simp at h⟩
    rw [hg] at hdo
    exact do_err hk c 5 hdo h8
  refine ⟨fun h => by simp at h; omega, fun _ => ?_⟩
  rw [hg] at hdo
  dsimp only at hdo
  refine opkind_ld c ⟨fun h2 => ?_, fun h2 => ?_⟩
  · have h2 : o.kind = 2 := by simpa using h2
    rw [if_pos h2] at hdo
    have cd := c.more (Ch.drew u)
    have hl := c.see.len
    have hLl := c.len
    refine Cut.take cd.here.sees (rowI_lens L) (by decide) (Nat.le_of_lt hi) fun s3 hs3 hl3 => ?_
    rw [show IntKind.i64.wrap ((i : Int) + 1) = ((i + 1 : Nat) : Int) by rw [wrap_i64e]; omega]
    refine Cut.drop cd.here.sees (rowI_lens L) (by decide) hi fun s4 hs4 hl4 => ?_
    refine ⟨_, ans_fillE, ?_⟩
    refine New.mk fun a w2 ha hs2 hb2 hx2 => ?_
    have ha1 := cd.b1.lt
    obtain ⟨cs2, _, hb22⟩ := cd.b2
    have ha2 := hb22.lt
    have hu := cd.ext.size
    have c2 := cd.more hx2
    have e2 : ∀ b, (⟨some ⟨a, 0, none⟩, 0, 0⟩ : Sl).blk b → w.heap.size ≤ b ∧ b ≠ a1 ∧ b ≠ a2 := fun b hb => by
      obtain ⟨ad, e1, e2⟩ := hb
      injection e1 with e1
      subst e1; subst e2
      try dsimp only
      omega
    refine Ef.append Try.underlying100 Try.ti104 rfl (by decide) (Own.empty hb2) (ys := (L.take i).flatMap rowI) (hs3.ext hx2) ?_ (by show (0 + s3.len) * _ ≤ _; omega) (by show 0 + s3.len ≤ _; omega) ?_
    · intro v hv
      obtain ⟨p, _, hp⟩ := List.mem_flatMap.1 hv
      exact rowI_one p v hp
    intro s5 w5 o5 c5 l5 b5
    have cc5 := c2.step c5 e2
    have f5 : ∀ b, s5.blk b → w.heap.size ≤ b ∧ b ≠ a1 ∧ b ≠ a2 := fun b hb => by
      rcases b5 b hb with h | h
      · exact e2 b h
      · omega
    have hx5 : Ext (World.drew u) w5 := hx2.step c5 (fun _ _ h => h.elim) fun j hj hb => by
      obtain ⟨ad, e1, e2⟩ := hb
      injection e1 with e1
      subst e1; subst e2
      try dsimp only at hj
      omega
    have s5f : ∀ b, s5.blk b → (World.drew u).heap.size ≤ b := fun b hb => by
      rcases b5 b hb with h | h
      · obtain ⟨ad, e1, e2⟩ := h
        injection e1 with e1
        subst e1; subst e2
        try dsimp only
        omega
      · omega
    refine Ef.append Try.underlying100 Try.ti104 rfl (by decide) o5 (ys := (L.drop (i + 1)).flatMap rowI) (hs4.ext hx5) ?_ (by show (s5.len + s4.len) * _ ≤ _; rw [l5]; show (0 + s3.len + s4.len) * _ ≤ _; omega) (by show s5.len + s4.len ≤ _; rw [l5]; show 0 + s3.len + s4.len ≤ _; omega) ?_
    · intro v hv
      obtain ⟨p, _, hp⟩ := List.mem_flatMap.1 hv
      exact rowI_one p v hp
    intro s6 w6 o6 c6 l6 b6
    have cc6 := cc5.step c6 f5
    have hx6 : Ext (World.drew u) w6 := hx5.step c6 (fun _ _ h => h.elim) fun j hj hb => by have := s5f j hb; omega
    have hi' : i < (L.map (·.1)).length := by simpa using hi
    have hdel := delI_at c.rise hi'
    simp only [List.getElem_map, hn] at hdel
    refine do_ret hk cc6 zeros48_len (L' := L.take i ++ L.drop (i + 1)) ⟨?_, fun p hp => ?_, fun p hp => ?_⟩ ?_ ?_ h8
    · have := o6.sees
      simpa [List.flatMap_append] using this
    · have hp : p ∈ L := by
        rcases List.mem_append.1 hp with hp | hp
        · exact List.mem_of_mem_take hp
        · exact List.mem_of_mem_drop hp
      exact cc6.here.each p hp
    · have hp : p ∈ L := by
        rcases List.mem_append.1 hp with hp | hp
        · exact List.mem_of_mem_take hp
        · exact List.mem_of_mem_drop hp
      exact c.see.lens p hp
    · rw [hdo, hdel, List.map_append, List.map_take, List.map_drop]
    · rintro b (hb | ⟨p, hp, hb⟩)
      · have hlt := o6.lt hb
        rcases b6 b hb with h | h
        · have := f5 b h
          exact .inr ⟨this.1, this.2.2, hlt⟩
        · have := hx5.size
          exact .inr ⟨by omega, by omega, hlt⟩
      · have hp : p ∈ L := by
          rcases List.mem_append.1 hp with hp | hp
          · exact List.mem_of_mem_take hp
          · exact List.mem_of_mem_drop hp
        exact .inl (.inr ⟨p, hp, hb⟩)
  · have h2 : ¬ o.kind = 2 := by simpa using h2
    rw [if_neg h2] at hdo
    refine opnum_ld c ⟨fun h0 => ?_, fun h0 => ?_⟩
    · have h0 : o.number < 0 := by simpa using h0
      rw [if_pos (.inl h0)] at hdo
      unfold f63_k4
      exact ⟨fun _ => do_err hk c 2 hdo h8, fun h => (by cases h)⟩
    · have h0 : ¬ o.number < 0 := by simpa using h0
      refine opnum_ld c ?_
      cases hm : decide ((1048576 : Int) ≤ o.number) with
      | true =>
        rw [if_pos (.inr (of_decide_eq_true hm))] at hdo
        unfold f63_k4
        exact ⟨fun _ => do_err hk c 2 hdo h8, fun h => (by cases h)⟩
      | false =>
        have hm := of_decide_eq_false hm
        exact do_k4 hk c hi hn hg (by omega) (by omega)
/-- A copy. -/
theorem do_k2 {w u : World} {a1 a2 : Nat} {o : OpV} {s : Sl} {L : List (ImgV × Sl)} {R : Value → World → Prop} (hk : RK w s L o R) (c : DoCtx w u a1 a2 o s L) {i6 q : Int} (h67 : o.kind = 6 ∨ o.kind = 7) (hos : o.other.size ≤ 1073741824)
    (hi6 : (i6 = -1 ∧ getI (L.map (·.1)) o.name = none) ∨ ∃ i, ∃ hi : i < L.length, i6 = (i : Int) ∧ getI (L.map (·.1)) o.name = some L[i].1 ∧ L[i].1.name = o.name)
    (hq : q = if o.kind = 6 then ((getI (L.map (·.1)) o.name).map (·.quota)).getD 0 else o.quota) :
    f63_k2 R s (some ⟨a1, 0, none⟩) (some ⟨a2, 0, none⟩) i6 q u := by
  have h8 : o.kind ≠ 8 := by omega
  have hdo : refDo (L.map (·.1)) o = (if mayB o.other q = false then (L.map (·.1), (1 : Int), false, zeros48) else
      match getI (L.map (·.1)) o.name with
      | none => (L.map (·.1), 5, false, zeros48)
      | some x =>
        if (getI (L.map (·.1)) o.other).isSome then (L.map (·.1), 6, false, zeros48)
        else if (if o.kind = 6 then x.quota else o.quota) < x.blocks.length then (L.map (·.1), 8, false, zeros48)
        else (insI (L.map (·.1)) ⟨o.other, if o.kind = 6 then x.quota else o.quota, decide (o.kind = 6), x.blocks⟩, 0, false, zeros48)) := by
    unfold refDo
    rw [if_neg (show ¬ o.kind = 1 by omega), if_neg h8, if_pos h67, ← hq]
    rfl
  unfold f63_k2
  refine LdO c.b1 (x := o.other) rfl ?_
  refine ref15_may_spec hos ⟨_, rfl, fun hm => ?_, fun hm => ?_⟩
  · have hm : mayB o.other q = false := by simpa using hm
    rw [if_pos hm] at hdo
    exact do_err hk c 1 hdo h8
  have hm : mayB o.other q = true := by simpa using hm
  rw [if_neg (by rw [hm]; simp)] at hdo
  rcases hi6 with ⟨rfl, hg⟩ | ⟨i, hi, rfl, hg, hn⟩
  · refine ⟨fun _ => ?_, fun h => by simp at h⟩
    rw [hg] at hdo
    exact do_err hk c 5 hdo h8
  refine ⟨fun h => by simp at h; omega, fun _ => ?_⟩
  have hmem := List.getElem_mem hi
  have hLl := c.len
  rw [hg] at hdo hq
  simp only [Option.map_some, Option.getD_some] at hdo hq
  rw [← hq] at hdo
  refine LdO c.b1 (x := o.other) rfl ?_
  refine ref15_Find_spec c.here (by omega) fun u1 hx1 => ⟨_, rfl, ?_⟩
  have c1 := c.more hx1
  rcases find_cases L o.other with ⟨j, hj, hf, hgo, _⟩ | ⟨hf, hgo⟩
  · rw [hf]
    refine ⟨fun _ => ?_, fun h => by simp at h⟩
    rw [hgo] at hdo
    exact do_err hk c1 6 hdo h8
  rw [hf]
  refine ⟨fun h => by simp at h, fun _ => ?_⟩
  rw [hgo] at hdo
  simp only [Option.isSome_none, Bool.false_eq_true, if_false] at hdo
  have hX48 : ∀ b ∈ L[i].1.blocks, b.2.length = 48 := c.see.lens _ hmem
  have hcnt : L[i].1.blocks.length = L[i].2.len := (c1.here.each _ hmem).count (fun b hb => by simp [rowB, hX48 b hb]) (by decide)
  refine ix_row c1 hi ⟨fun hlt => ?_, fun hge => ?_⟩
  · have hlt : q < (L[i].2.len : Int) := by simpa using hlt
    rw [if_pos (by omega)] at hdo
    exact do_err hk c1 8 hdo h8
  have hge : ¬ q < (L[i].2.len : Int) := by simpa using hge
  rw [if_neg (by omega)] at hdo
  have cd := c1.more (Ch.drew u1)
  refine LdO cd.b1 (x := o.other) rfl (opkind_ld cd (ix_row cd hi ?_))
  refine ⟨(rowI (⟨o.other, q, decide (o.kind = 6), L[i].1.blocks⟩, L[i].2)).toArray, rfl, _, ans_fillE, ?_⟩
  refine ref15_add_spec cd.here c.rise (by omega) (x := ⟨o.other, q, decide (o.kind = 6), L[i].1.blocks⟩) (cd.here.each _ hmem) hX48 fun s' L' w' hsee hL' hx hf hsub => ⟨_, rfl, ?_⟩
  have cz := cd.more hx
  have hu := cd.ext.size
  have ha2 := (c.b2.choose_spec).2.lt
  have hu1 := hx1.size
  have hud := (Ch.drew u1).size
  refine do_ret hk cz zeros48_len hsee (by rw [hdo, hL']) ?_ h8
  rintro b (hb | ⟨p, hp, hb⟩)
  · obtain ⟨h1, h2⟩ := hf b hb
    exact .inr ⟨by omega, by omega, h2⟩
  · left
    rcases hsub p hp with h | h
    · exact .inr ⟨p, h, hb⟩
    · exact .inr ⟨L[i], hmem, by rw [← h]; exact hb⟩

def idxI : Option Nat → Int
  | some i => i
  | none => -1
theorem ref15_Find_spec2 {w : World} {s : Sl} {L : List (ImgV × Sl)} {name : ByteArray} (h : ImgsSee w s L) (hL : L.length < 1000000) {R : Value → World → Prop}
    (k : ∀ w', Ext w w' → R (.int .i64 (idxI (L.findIdx? (fun p => decide (p.1.name = name))))) w') : CallF Try.prog 51 #[s.v, .string name] w R := by
  refine ref15_Find_spec h hL fun w' hx => ?_
  have := k w' hx
  cases hf : L.findIdx? (fun p => decide (p.1.name = name)) with
  | none => rw [hf] at this; exact this
  | some i => rw [hf] at this; exact this
theorem name_row (n : ByteArray) : (Value.string n).oneCell' = true := rfl
/-- The document's Do, whatever the operation. -/
theorem ref15_Do_spec {w : World} {o : OpV} {s : Sl} {L : List (ImgV × Sl)} {R : Value → World → Prop} (hk : RK w s L o R) (hsee : ImgsSee w s L) (hlt : ∀ b, ImgsAt.foot s L b → b < w.heap.size) (ok : o.OK) (hnm : o.name.size ≤ 1073741824) (hos : o.other.size ≤ 1073741824)
    (rise : Rising (L.map (·.1))) (riseB : ∀ p ∈ L, RiseB p.1.blocks) (len : L.length < 1000) (lenB : ∀ p ∈ L, p.1.blocks.length < 1000) :
    CallF Try.prog 63 #[s.v, .agg o.cells] w R := by
  refine f63_ok R s _ w ?_
  unfold f63
  refine New.mk fun a1 w1 ha1 hs1 hb1 hx1 => New.mk fun a2 w2 ha2 hs2 hb2 hx2 => ?_
  have c : DoCtx w w2 a1 a2 o s L := ⟨hsee, hlt, hx1.trans hx2, hb1.ext hx2, ⟨_, by rw [ans_zero]; exact ans_size zeros48_len, hb2⟩, by omega, by omega, by omega, ok, rise, riseB, len, lenB⟩
  have fld : ∀ {α : Type} {enc : α → Value} {u : World} {i : Nat} {x : α} {K : α → Prop}, DoCtx w u a1 a2 o s L → o.cells[i]? = some (enc x) → K x → Ld enc (some ((⟨a1, 0, none⟩ : Addr).add i)) u K := fun c hv k => by
    simp only [addr_add, Nat.zero_add]
    exact Ld.blk c.b1 hv k
  refine fld c (x := o.name) rfl ?_
  refine ref15_Find_spec2 c.here (by omega) fun w3 hx3 => ⟨_, rfl, ?_⟩
  have c3 := c.more hx3
  have hi6 : ((idxI (L.findIdx? (fun p => decide (p.1.name = o.name)))) = -1 ∧ getI (L.map (·.1)) o.name = none) ∨
      ∃ i, ∃ hi : i < L.length, (idxI (L.findIdx? (fun p => decide (p.1.name = o.name)))) = (i : Int) ∧ getI (L.map (·.1)) o.name = some L[i].1 ∧ L[i].1.name = o.name := by
    rcases find_cases L o.name with ⟨i, hi, hf, hg, hn⟩ | ⟨hf, hg⟩
    · rw [hf]; exact .inr ⟨i, hi, rfl, hg, hn⟩
    · rw [hf]; exact .inl ⟨rfl, hg⟩
  generalize (idxI (L.findIdx? (fun p => decide (p.1.name = o.name)))) = i6 at hi6 ⊢
  refine fld c3 (x := o.kind) rfl ⟨fun h1 => ?_, fun h1 => ?_⟩
  · -- a new volume
    have h1 : o.kind = 1 := by simpa using h1
    have h8 : o.kind ≠ 8 := by omega
    have hdo : refDo (L.map (·.1)) o = (if mayB o.name o.quota = false then (L.map (·.1), (1 : Int), false, zeros48) else if (getI (L.map (·.1)) o.name).isSome then (L.map (·.1), 6, false, zeros48) else (insI (L.map (·.1)) ⟨o.name, o.quota, false, []⟩, 0, false, zeros48)) := by
      unfold refDo
      rw [if_pos h1]
    refine fld c3 (x := o.name) rfl (fld c3 (x := o.quota) rfl ?_)
    refine ref15_may_spec hnm ⟨_, rfl, fun hm => ?_, fun hm => ?_⟩
    · have hm : mayB o.name o.quota = false := by simpa using hm
      rw [if_pos hm] at hdo
      exact do_err hk c3 1 hdo h8
    have hm : mayB o.name o.quota = true := by simpa using hm
    rw [if_neg (by rw [hm]; simp)] at hdo
    rcases hi6 with ⟨rfl, hg⟩ | ⟨i, hi, rfl, hg, hn⟩
    · refine ⟨fun h => by simp at h, fun _ => ?_⟩
      rw [hg] at hdo
      simp only [Option.isSome_none, Bool.false_eq_true, if_false] at hdo
      refine fld c3 (x := o.name) rfl (fld c3 (x := o.quota) rfl ?_)
      refine ⟨(rowI (⟨o.name, o.quota, false, []⟩, Sl.nil)).toArray, rfl, ?_⟩
      refine ref15_add_spec c3.here c.rise (by omega) (x := ⟨o.name, o.quota, false, []⟩) (Sees.nil _ _) (fun b hb => by cases hb) fun s' L' w' hsee' hL' hx hf hsub => ⟨_, rfl, _, ans_fillE, ?_⟩
      have cz := c3.more hx
      have hu := c3.ext.size
      have ha2 := (c3.b2.choose_spec).2.lt
      refine do_ret hk cz zeros48_len hsee' (by rw [hdo, hL']) ?_ h8
      rintro b (hb | ⟨p, hp, hb⟩)
      · obtain ⟨h1, h2⟩ := hf b hb
        exact .inr ⟨by omega, by omega, h2⟩
      · rcases hsub p hp with h | h
        · exact .inl (.inr ⟨p, h, hb⟩)
        · rw [h] at hb; obtain ⟨_, e, _⟩ := hb; cases e
    · refine ⟨fun _ => ?_, fun h => by simp at h⟩
      rw [hg] at hdo
      exact do_err hk c3 6 hdo h8
  have h1 : ¬ o.kind = 1 := by simpa using h1
  refine fld c3 (x := o.kind) rfl ⟨fun h8 => ?_, fun h8 => ?_⟩
  · -- the names
    have h8 : o.kind = 8 := by simpa using h8
    have hdo : refDo (L.map (·.1)) o = (L.map (·.1), 0, false, zeros48) := by
      unfold refDo
      rw [if_neg h1, if_pos h8]
    refine ⟨_, ans_fillE, ?_⟩
    refine New.mk fun a4 w4 ha4 hs4 hb4 hx4 => ?_
    refine StN.all hb4 (ans_size zeros48_len) (ans_one rfl) (by rw [ans_zero]; exact ans_size zeros48_len) ?_
    intro w5 hb5 hc5 hz5
    have c4 := c3.more hx4
    have hu := c3.ext.size
    have l1 := c3.b1.lt
    obtain ⟨_, _, l2'⟩ := c3.b2
    have l2 := l2'.lt
    have c5 := c4.step hc5 fun b hb => by have hb : b = a4 := hb; omega
    have hl := hsee.len
    refine Lp.mk (fun q z => ∃ (k : Nat) (sn : Sl), q = (s, some ⟨a2, 0, none⟩, some ⟨a4, 0, none⟩, (k : Int)) ∧ k ≤ L.length ∧ DoCtx w z a1 a2 o s L ∧ Blk z a4 (ansL 0 false zeros48 sn.v).toArray 73 ∧ Own z sn 9 1 (((L.map (·.1.name)).take k).map Value.string) ∧ (∀ b, sn.blk b → w3.heap.size < b))
      (fun q _ => L.length - q.2.2.2.toNat) ⟨0, Sl.nil, rfl, by omega, c5, hb5, Own.nil _ _ _, fun b ⟨_, e, _⟩ => by cases e⟩ ?_
    rintro _ z ⟨k, sn, rfl, hkl, cz, hbz, on, fn⟩ ag hag
    show f63_b0 R ag s (some ⟨a2, 0, none⟩) (some ⟨a4, 0, none⟩) k z
    unfold f63_b0
    have cd := cz.more (Ch.drew z)
    have hbd := hbz.ext (Ch.drew z)
    refine ⟨fun hlt' => ?_, fun hge => ?_⟩
    · have hkL : k < L.length := by simp at hlt'; omega
      refine ⟨_, rfl, ?_⟩
      simp only [addr_add, Nat.zero_add]
      have e50 : (ansL 0 false zeros48 sn.v).toArray[50]? = some sn.v := rfl
      refine LdH.blk hbd e50 ?_
      refine cd.here.ix hkL (enc := Value.string) (j := 0) (x := L[k].1.name) rfl ?_
      refine New.mk fun a z1 ha hsz1 hblka hxa => ⟨(hbd.ext hxa).cell e50, ?_⟩
      have hsn : sn.len = k := by
        have := on.len
        simp at this; omega
      refine Ef.append Try.underlying71 Try.ti9 rfl (by decide) ((on.ext (Ch.drew z)).ext hxa) (ys := [Value.string L[k].1.name]) (by have := Sees.ofBlk (n := 1) (size := 1) hblka rfl; simpa using this) (by intro v hv; simp only [List.mem_singleton] at hv; subst hv; rfl) (by show (sn.len + 1) * _ ≤ _; omega) (by show sn.len + 1 ≤ _; omega) ?_
      intro s' z2 o2 cc2 l2 b2
      have hzw := cz.ext.size
      have hzd : (World.drew z).heap.size = z.heap.size := rfl
      have ha4z := hbz.lt
      have fn2 : ∀ b, sn.blk b → w.heap.size ≤ b ∧ b ≠ a1 ∧ b ≠ a2 := fun b hb => by have := fn b hb; omega
      have cz2 := (cd.more hxa).step cc2 fn2
      have hb2z := (hbd.ext hxa).ch cc2 fun hb => by have := fn a4 hb; omega
      refine ⟨_, rfl, ?_⟩
      simp only [addr_add, Nat.zero_add]
      refine Go.X.St.blk hb2z (by rw [ans_size zeros48_len]; decide) fun z3 hb3 cc3 => ?_
      rw [show IntKind.i64.wrap ((k : Int) + 1) = ((k + 1 : Nat) : Int) by rw [wrap_i64e]; omega]
      have fs' : ∀ b, s'.blk b → w3.heap.size < b := fun b hb => by
        rcases b2 b hb with h | h
        · exact fn b h
        · omega
      refine hag _ _ ⟨k + 1, s', rfl, by omega, cz2.step cc3 (fun b hb => by have hb : b = a4 := hb; omega), ?_, ?_, fs'⟩ (by dsimp only; omega)
      · have : (ansL 0 false zeros48 sn.v).toArray.setIfInBounds 50 s'.v = (ansL 0 false zeros48 s'.v).toArray := rfl
        rw [this] at hb3; exact hb3
      · have h9 := o2.ch cc3 fun b hb e => by have e : b = a4 := e; have := fs' b hb; omega
        rw [List.take_succ_eq_append_getElem (by simpa using hkL), List.map_append]
        simpa using h9
    · have hkL : k = L.length := by simp at hge; omega
      subst hkL
      rw [List.take_of_length_le (by simp)] at on
      refine LdN.all hbd (ans_size zeros48_len) ?_
      obtain ⟨cs, hcs, hb2z⟩ := cd.b2
      refine StN.all hb2z (ans_size zeros48_len) (ans_one rfl) hcs ?_
      intro z1 hb21 hc1 hz1
      refine LdN.all hb21 (ans_size zeros48_len) ?_
      have hzw := cz.ext.size
      have f2 := c.f2
      have hzd : (World.drew z).heap.size = z.heap.size := rfl
      have := hk s L z1 sn (L.map (·.1.name)) (cd.here.ch hc1 fun b hb e => by have e : b = a2 := e; have := hlt b hb; omega) (by rw [hdo]) (cd.ext.step hc1 (fun _ _ h => h.elim) fun j hj e => by have e : j = a2 := e; omega)
        (fun b hb => ⟨.inl hb, by have := hlt b hb; omega⟩) ((on.ext (Ch.drew z)).ch hc1 fun b hb e => by have e : b = a2 := e; have := fn b hb; omega).sees (fun b hb => ⟨by have := fn b hb; omega, by have := on.lt hb; omega⟩) (fun _ => rfl) (fun h => absurd h8 h) (by rw [hdo]; exact zeros48_len)
      rw [hdo] at this
      exact this
  have h8 : ¬ o.kind = 8 := by simpa using h8
  have k1 : ∀ t : Bool, t = decide (o.kind = 6 ∨ o.kind = 7) → f63_k1 R s (some ⟨a1, 0, none⟩) (some ⟨a2, 0, none⟩) i6 t w3 := by
    intro t ht
    unfold f63_k1
    refine ⟨fun h => ?_, fun h => ?_⟩
    · rw [h] at ht
      have h67 := of_decide_eq_true ht.symm
      refine LdO c3.b1 (x := o.quota) rfl (opkind_ld c3 ⟨fun h6 => ?_, fun h6 => ?_⟩)
      · have h6 : o.kind = 6 := by simpa using h6
        rcases hi6 with ⟨rfl, hg⟩ | ⟨i, hi, rfl, hg, hn⟩
        · refine ⟨fun h => by simp at h, fun _ => do_k2 hk c3 h67 hos (.inl ⟨rfl, hg⟩) (by rw [if_pos h6, hg]; rfl)⟩
        · refine ⟨fun _ => ?_, fun h => by simp at h⟩
          refine c3.here.ix hi (enc := Value.int .i64) (j := 1) (x := L[i].1.quota) rfl ?_
          exact do_k2 hk c3 h67 hos (.inr ⟨i, hi, rfl, hg, hn⟩) (by rw [if_pos h6, hg]; rfl)
      · have h6 : ¬ o.kind = 6 := by simpa using h6
        exact do_k2 hk c3 h67 hos hi6 (by rw [if_neg h6])
    · rw [h] at ht
      have h67 := of_decide_eq_false ht.symm
      refine opkind_ld c3 ⟨fun hlo => ?_, fun hlo => ?_⟩
      · have hlo : o.kind < 1 := by simpa using hlo
        exact do_k3 hk c3 h1 h8 h67 hi6 (decide_eq_true (.inl hlo)).symm
      · have hlo : ¬ o.kind < 1 := by simpa using hlo
        refine opkind_ld c3 (do_k3 hk c3 h1 h8 h67 hi6 ?_)
        congr 1
        exact propext ⟨.inr, fun h => h.resolve_left hlo⟩
  refine fld c3 (x := o.kind) rfl ⟨fun h6 => ?_, fun h6 => ?_⟩
  · have h6 : o.kind = 6 := by simpa using h6
    exact k1 true (decide_eq_true (.inl h6)).symm
  · have h6 : ¬ o.kind = 6 := by simpa using h6
    refine fld c3 (x := o.kind) rfl (k1 _ ?_)
    congr 1
    exact propext ⟨.inr, fun h => h.resolve_left h6⟩
end Go.Proofs
