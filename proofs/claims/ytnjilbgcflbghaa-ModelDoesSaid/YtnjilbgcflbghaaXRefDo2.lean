/- sporranref15: Do: a write, a trim. -/
import Derived.Test.YtnjilbgcflbghaaXRefDo
set_option linter.all false
set_option maxHeartbeats 4000000
set_option maxRecDepth 100000
namespace Go.Proofs
open Go Go.X Go.Sort
theorem Own.st {w : World} {s : Sl} {e size : Nat} {xs : List Value} (h : Own w s e size xs) {i : Nat} (hi : i < xs.length) : ∃ g, s.a = some ⟨g, 0, none⟩ ∧ ∀ (v : Value) (K : World → Prop), (∀ w', Own w' s e size (xs.set i v) → Ch (· = g) w w' → K w') → Go.X.St (some ⟨g, i, none⟩) v w K := by
  rcases h.2 with ⟨hv, hn⟩ | ⟨g, cap, cur, hv, hb, hg, hnc, hcm, hsz, ht⟩
  · have := h.1; rw [hn] at this; simp at this; subst this; simp at hi
  · have ha : s.a = some ⟨g, 0, none⟩ := by
      obtain ⟨a, l, c⟩ := s
      simp only [Sl.v, Value.slice.injEq] at hv
      exact hv.1
    refine ⟨g, ha, fun v K k => ?_⟩
    have hi' : i < cur.size := by
      have := congrArg List.length ht
      rw [List.length_take] at this
      simp at this; omega
    refine Go.X.St.blk (show Blk w g cur e from hg) hi' fun w' hb' hc' => k w' ⟨by simpa using h.1, .inr ⟨g, cap, _, hv, hb, hb', hnc, hcm, by simpa using hsz, ?_⟩⟩ hc'
    rw [Array.toList_setIfInBounds, List.take_set, ht]
theorem app_num {z : World} {sb : Sl} {B : List (Int × List Nat)} {p : Int × List Nat} (hp : p.2.length = 48) (ho : Own z sb 199 49 (B.flatMap rowB)) (hB : sb.len < 1000000) {K : Sl → World → Prop}
    (k : ∀ sb' z', Own z' sb' 199 49 ((B ++ [p]).flatMap rowB) → Ch sb.blk z z' → (∀ b, sb'.blk b → sb.blk b ∨ z.heap.size ≤ b) → sb'.len = sb.len + 1 → K sb' z') :
    New (rowB p).toArray 199 z fun a w1 => Ef Try.prog (Builtin.append_ #[102, 102] 102 #[(Sl.v sb), (Sl.v ⟨some a, 1, 1⟩)]) Sl.v w1 K := by
  refine New.mk fun a z1 ha hz1 hblka hxa => ?_
  refine Ef.append Try.underlying102 Try.ti199 rfl (by decide) (ho.ext hxa) (ys := rowB p) ?_ ?_ (by show (sb.len + 1) * _ ≤ _; omega) (by show sb.len + 1 ≤ _; omega) ?_
  · have := Sees.ofBlk (n := 1) (size := 49) hblka (by simp [rowB, hp])
    simpa using this
  · intro q hq
    rcases List.mem_cons.1 hq with rfl | hq
    · rfl
    · exact u8s_one _ q hq
  intro s' z3 o3 c3 l3 b3
  refine k s' z3 (by simpa [List.flatMap_append] using o3) ((hxa.mono fun _ _ h => h.elim).trans c3) (fun b hb => ?_) l3
  rcases b3 b hb with h | h
  · exact .inl h
  · right; omega
theorem DoCtx.step {S : Nat → Prop} {w u u' : World} {a1 a2 : Nat} {o : OpV} {s : Sl} {L : List (ImgV × Sl)} (c : DoCtx w u a1 a2 o s L) (hc : Ch S u u') (hS : ∀ b, S b → w.heap.size ≤ b ∧ b ≠ a1 ∧ b ≠ a2) : DoCtx w u' a1 a2 o s L :=
  { c with ext := c.ext.step hc (fun _ _ h => h.elim) (fun j hj e => by have := (hS j e).1; omega), b1 := c.b1.ch hc (fun e => (hS _ e).2.1 rfl), b2 := c.b2.imp fun _ h => ⟨h.1, h.2.ch hc (fun e => (hS _ e).2.2 rfl)⟩ }
theorem opnum_ld {w u : World} {a1 a2 : Nat} {o : OpV} {s : Sl} {L : List (ImgV × Sl)} (c : DoCtx w u a1 a2 o s L) {K : Int → Prop} (k : K o.number) : NotNil (some ⟨a1, 0, none⟩) fun p => Ld (Value.int .i64) (some (p.add 3)) u K := LdO c.b1 (x := o.number) rfl k
theorem opblk_ld {w u : World} {a1 a2 : Nat} {o : OpV} {s : Sl} {L : List (ImgV × Sl)} (c : DoCtx w u a1 a2 o s L) {K : Array Value → Prop} (k : K (u8s o.block).toArray) : NotNil (some ⟨a1, 0, none⟩) fun p => LdN 48 (some (p.add 5)) u K :=
  ⟨_, rfl, by simp only [addr_add, Nat.zero_add]; exact op_blk c.b1 c.ok k⟩
theorem ix_row {w u : World} {a1 a2 : Nat} {o : OpV} {s : Sl} {L : List (ImgV × Sl)} (c : DoCtx w u a1 a2 o s L) {i : Nat} (hi : i < L.length) {K : Sl → Prop} (k : K L[i].2) : Ix s (i : Int) fun p => Ld Sl.v (some ((p.add ((i : Int).toNat * 4)).add 3)) u K :=
  c.here.ix hi (enc := Sl.v) (j := 3) (x := L[i].2) rfl k

/-- The blocks are laid into a copy of the images. -/
theorem do_k12 {w u : World} {a1 a2 : Nat} {o : OpV} {s : Sl} {L : List (ImgV × Sl)} {R : Value → World → Prop} {ag ag2} (hk : RK w s L o R) (c : DoCtx w u a1 a2 o s L) {i : Nat} (hi : i < L.length) (hn : L[i].1.name = o.name) (h8 : o.kind ≠ 8)
    {B : List (Int × List Nat)} (hr : refDo (L.map (·.1)) o = (setI (L.map (·.1)) o.name B, 0, false, zeros48)) (hB : ∀ b ∈ B, b.2.length = 48) {sb : Sl} (ob : Own u sb 199 49 (B.flatMap rowB)) (fb : ∀ b, sb.blk b → w.heap.size ≤ b ∧ b ≠ a1 ∧ b ≠ a2) :
    f63_k12 R ag ag2 s (some ⟨a2, 0, none⟩) (i : Int) sb u := by
  unfold f63_k12
  have hl := c.see.len
  refine New.mk fun a w2 ha hs2 hb2 hx2 => ?_
  have c2 := c.more hx2
  refine Ef.append Try.underlying100 Try.ti104 rfl (by decide) (Own.empty hb2) (ys := L.flatMap rowI) c2.here.sees ?_ (by show (0 + s.len) * _ ≤ _; have := c.len; omega) (by show 0 + s.len ≤ _; have := c.len; omega) ?_
  · intro v hv
    obtain ⟨p, _, hp⟩ := List.mem_flatMap.1 hv
    exact rowI_one p v hp
  intro s4 w4 o4 c4 l4 b4
  have hu := c.ext.size
  have ha1 := c.b1.lt
  obtain ⟨cs2, _, hb22⟩ := c.b2
  have ha2 := hb22.lt
  have e4 : ∀ b, (⟨some ⟨a, 0, none⟩, 0, 0⟩ : Sl).blk b → w.heap.size ≤ b ∧ b ≠ a1 ∧ b ≠ a2 := fun b hb => by
    obtain ⟨ad, e1, e2⟩ := hb
    injection e1 with e1
    subst e1; subst e2
    try dsimp only
    omega
  have cc := c2.step c4 e4
  have f4 : ∀ b, s4.blk b → u.heap.size ≤ b := fun b hb => by
    rcases b4 b hb with h | h
    · obtain ⟨ad, e1, e2⟩ := h
      injection e1 with e1
      subst e1; subst e2
      try dsimp only
      omega
    · omega
  have hlen : (L.flatMap rowI).length = L.length * 4 := rowI_len L
  have hl4 : s4.len = L.length := by rw [l4]; show 0 + s.len = _; omega
  obtain ⟨g, hg, hst⟩ := Own.st o4 (i := i * 4 + 3) (by simp only [List.nil_append]; omega)
  have hgf := f4 g ⟨_, hg, rfl⟩
  refine ⟨⟨g, 0, none⟩, hg, by omega, by omega, ?_⟩
  have ea : ((⟨g, 0, none⟩ : Addr).add ((i : Int).toNat * 4)).add 3 = ⟨g, i * 4 + 3, none⟩ := by simp
  simp only [ea]
  refine hst _ _ fun w5 o5 c5 => ?_
  have c5' := cc.step c5 fun b hb => by have hb : b = g := hb; subst hb; omega
  refine ⟨_, ans_fillE, ?_⟩
  -- the images now
  have hx4 : Ext u w4 := hx2.step c4 (fun _ _ h => h.elim) fun j hj hb => by
    obtain ⟨ad, e1, e2⟩ := hb
    injection e1 with e1
    subst e1; subst e2
    try dsimp only at hj
    omega
  have hx45 : Ext u w5 := hx4.step c5 (fun _ _ h => h.elim) fun j hj hb => by have hb : j = g := hb; omega
  have hrow : (L.flatMap rowI).set (i * 4 + 3) sb.v = (L.set i ({ L[i].1 with blocks := B }, sb)).flatMap rowI := by
    apply List.ext_getElem?
    intro j
    have hl2 : ((L.set i ({ L[i].1 with blocks := B }, sb)).flatMap rowI).length = L.length * 4 := by rw [rowI_len]; simp
    by_cases hj : j < L.length * 4
    · have e1 : j = j / 4 * 4 + j % 4 := by omega
      have hj4 : j % 4 < 4 := by omega
      have hjL : j / 4 < L.length := by omega
      have g1 := flatMap_at (enc := rowI) (n := 4) L (j / 4) (rowI_lens L) hjL (j % 4) hj4
      have g2 := flatMap_at (enc := rowI) (n := 4) (L.set i ({ L[i].1 with blocks := B }, sb)) (j / 4) (rowI_lens _) (by simpa using hjL) (j % 4) hj4
      rw [← e1] at g1 g2
      rw [g2, List.getElem?_set, List.getElem_set]
      by_cases hij : i = j / 4
      · rw [if_pos hij]
        subst hij
        by_cases h3 : j / 4 * 4 + 3 = j
        · rw [if_pos h3, if_pos (by omega)]
          rw [show j % 4 = 3 by omega]; rfl
        · rw [if_neg h3, g1]
          have : j % 4 = 0 ∨ j % 4 = 1 ∨ j % 4 = 2 := by omega
          rcases this with h | h | h <;> rw [h] <;> rfl
      · rw [if_neg hij, if_neg (by omega), g1]
    · rw [List.getElem?_eq_none (by rw [List.length_set]; omega), List.getElem?_eq_none (by omega)]
  have see5 : ImgsSee w5 s4 (L.set i ({ L[i].1 with blocks := B }, sb)) := ⟨?_, fun p hp => ?_, fun p hp => ?_⟩
  refine do_ret hk c5' zeros48_len (L' := L.set i ({ L[i].1 with blocks := B }, sb)) see5 ?_ ?_ h8
  · rw [hr]
    have hi' : i < (L.map (·.1)).length := by simpa using hi
    have := setI_at c.rise hi' B
    simp only [List.getElem_map, hn] at this
    rw [this]
    congr 1
    rw [List.map_set, List.set_eq_take_append_cons_drop, if_pos hi']
    show _ = _ ++ (⟨L[i].1.name, L[i].1.quota, L[i].1.frozen, B⟩ : ImgV) :: _
    rw [hn]
  · rintro b (hb | ⟨p, hp, hb⟩)
    · have := f4 b hb
      have := o5.lt hb
      exact .inr ⟨by omega, by omega, this⟩
    · rcases List.mem_or_eq_of_mem_set hp with hp | rfl
      · exact .inl (.inr ⟨p, hp, hb⟩)
      · have h1 := fb b hb
        have h2 := ob.lt hb
        have := hx45.size
        exact .inr ⟨h1.1, h1.2.2, by omega⟩
  · have := o5.sees
    rw [List.nil_append, hrow] at this
    exact this
  · rcases List.mem_or_eq_of_mem_set hp with hp | rfl
    · exact (c.here.each p hp).ext hx45
    · exact ob.sees.ext hx45
  · rcases List.mem_or_eq_of_mem_set hp with hp | rfl
    · exact c.see.lens p hp
    · exact hB

/-- A write or a trim, behind all that may be wrong. -/
theorem do_k7 {w u : World} {a1 a2 : Nat} {o : OpV} {s : Sl} {L : List (ImgV × Sl)} {R : Value → World → Prop} {ag} (hk : RK w s L o R) (c : DoCtx w u a1 a2 o s L) {i : Nat} (hi : i < L.length) (hn : L[i].1.name = o.name) (h34 : o.kind = 3 ∨ o.kind = 4)
    (hr : refDo (L.map (·.1)) o = (setI (L.map (·.1)) o.name (if o.kind = 4 then delB L[i].1.blocks o.number else insB L[i].1.blocks o.number o.block), 0, false, zeros48)) :
    f63_k7 R ag s (some ⟨a1, 0, none⟩) (some ⟨a2, 0, none⟩) (i : Int) false u := by
  have hmem := List.getElem_mem hi
  have hX48 : ∀ b ∈ L[i].1.blocks, b.2.length = 48 := c.see.lens _ hmem
  have hXr := c.riseB _ hmem
  have hXl := c.lenB _ hmem
  unfold f63_k7
  refine ⟨fun h => (by cases h), fun _ => ?_⟩
  refine New.mk fun a w2 ha hs2 hb2 hx2 => ?_
  have c2 := c.more hx2
  refine LdO c2.b1 (x := o.kind) rfl ?_
  have ha1 := c.b1.lt
  obtain ⟨cs2, _, hb22⟩ := c.b2
  have ha2 := hb22.lt
  have hu := c.ext.size
  generalize hX : L[i].1.blocks = X at *
  refine Lp.mk (fun q z => ∃ (k : Nat) (sb : Sl), q = (s, some ⟨a1, 0, none⟩, some ⟨a2, 0, none⟩, (i : Int), sb, doneB o (X.take k), (k : Int)) ∧ k ≤ X.length ∧ DoCtx w z a1 a2 o s L ∧ Own z sb 199 49 ((outB o (X.take k)).flatMap rowB) ∧ (∀ b, sb.blk b → w.heap.size ≤ b ∧ b ≠ a1 ∧ b ≠ a2))
    (fun q _ => X.length - q.2.2.2.2.2.2.toNat) ⟨0, ⟨some ⟨a, 0, none⟩, 0, 0⟩, ?_, by omega, c2, ?_, fun b hb => ?_⟩ ?_
  · have : doneB o (X.take 0) = decide (o.kind = 4) := by simp [doneB]
    rw [this]; rfl
  · have : outB o (X.take 0) = [] := by unfold outB delB; simp
    rw [this]; exact Own.empty hb2
  · obtain ⟨ad, e1, e2⟩ := hb
    injection e1 with e1
    subst e1; subst e2
    try dsimp only
    omega
  rintro _ z ⟨k, sb, rfl, hkl, cz, ob, fb⟩ ag2 hag
  show f63_b8 R ag ag2 s (some ⟨a1, 0, none⟩) (some ⟨a2, 0, none⟩) (i : Int) sb (doneB o (X.take k)) (k : Int) z
  unfold f63_b8
  have hcz := (cz.here.each _ hmem)
  rw [hX] at hcz
  have hcnt : X.length = L[i].2.len := hcz.count (fun b hb => by simp [rowB, hX48 b hb]) (by decide)
  have lenO : ∀ {z : World} {sb : Sl} {B : List (Int × List Nat)}, Own z sb 199 49 (B.flatMap rowB) → (∀ b ∈ B, b.2.length = 48) → sb.len = B.length := fun h h48 => by
    have h1 := h.len
    rw [rowB_len h48] at h1
    omega
  have h48k : ∀ k, ∀ b ∈ outB o (X.take k), b.2.length = 48 := fun k => outB_48 c.ok fun b hb => hX48 b (List.mem_of_mem_take hb)
  have small : ∀ k, (outB o (X.take k)).length ≤ 2001 := fun k => by
    have h1 := outB_len o (X.take k)
    have h2 : (X.take k).length ≤ X.length := List.length_take_le' _ _
    omega
  refine ix_row cz hi ⟨fun hlt => ?_, fun hge => ?_⟩
  · have hkX : k < X.length := by simp at hlt; omega
    obtain ⟨hd1, ho1⟩ := outB_step h34 hXr hkX
    refine ix_row cz hi ?_
    have hx48 := hX48 _ (List.getElem_mem hkX)
    refine rowB_at hcz hX48 hkX ?_
    refine New.mk fun b z1 hb hsz1 hblk hx1 => ?_
    refine StN.all hblk (by simp [rowB, hx48]) (by
      intro v hv
      have hv : v ∈ rowB X[k] := by simpa using hv
      rcases List.mem_cons.1 hv with rfl | hv
      · rfl
      · exact u8s_one _ v hv) rfl ?_
    intro z2 hblk2 hc2 hz2
    have hzw := cz.ext.size
    have hz12 := hx1.size
    have cz2 := (cz.more hx1).step hc2 fun j hj => by
      have hj : j = b := hj
      have := cz.b1.lt
      obtain ⟨_, _, h2⟩ := cz.b2
      have := h2.lt
      omega
    have ob2 : Own z2 sb 199 49 ((outB o (X.take k)).flatMap rowB) := (ob.ext hx1).ch hc2 fun j hj e => by
      have e : j = b := e
      have := ob.lt hj; omega
    have hzz2 : z.heap.size ≤ z2.heap.size := by omega
    -- what is behind the put
    have tail : ∀ (z3 : World) (sb3 : Sl) (B3 : List (Int × List Nat)) (d : Bool), DoCtx w z3 a1 a2 o s L → Own z3 sb3 199 49 (B3.flatMap rowB) → (∀ b ∈ B3, b.2.length = 48) → B3.length ≤ 2002 → (∀ b, sb3.blk b → w.heap.size ≤ b ∧ b ≠ a1 ∧ b ≠ a2) → Blk z3 b (rowB X[k]).toArray 199 → ¬ sb3.blk b →
        d = doneB o (X.take (k + 1)) → outB o (X.take (k + 1)) = B3 ++ (if X[k].1 = o.number then [] else [X[k]]) → f63_k10 R ag ag2 s (some ⟨a1, 0, none⟩) (some ⟨a2, 0, none⟩) (i : Int) sb3 d (k : Int) (some ⟨b, 0, none⟩) z3 := by
      intro z3 sb3 B3 d c3 ob3 h483 hl3 fb3 hb3 hnb hd ho
      unfold f63_k10
      refine LdO hb3 (x := X[k].1) rfl (opnum_ld c3 ⟨fun hne => ?_, fun he => ?_⟩)
      · have hne : ¬ X[k].1 = o.number := by simpa using hne
        rw [if_neg hne] at ho
        refine LdN.all hb3 (by simp [rowB, hx48]) ⟨by simp [rowB, hx48], ?_⟩
        refine app_num hx48 ob3 (by rw [lenO ob3 h483]; omega) fun sb4 z4 o4 c4 b4 l4 => ?_
        unfold f63_k9
        have c3w := c3.ext.size
        rw [show IntKind.i64.wrap ((k : Int) + 1) = ((k + 1 : Nat) : Int) by rw [wrap_i64e]; omega]
        refine hag _ _ ⟨k + 1, sb4, by rw [hd], by omega, c3.step c4 fb3, by rw [ho]; exact o4, fun j hj => ?_⟩ (by dsimp only; omega)
        rcases b4 j hj with h | h
        · exact fb3 j h
        · have := c3.b1.lt
          obtain ⟨_, _, h2⟩ := c3.b2
          have := h2.lt
          omega
      · have he : X[k].1 = o.number := by simpa using he
        rw [if_pos he, List.append_nil] at ho
        unfold f63_k9
        rw [show IntKind.i64.wrap ((k : Int) + 1) = ((k + 1 : Nat) : Int) by rw [wrap_i64e]; omega]
        exact hag _ _ ⟨k + 1, sb3, by rw [hd], by omega, c3, by rw [ho]; exact ob3, fb3⟩ (by dsimp only; omega)
    have nob : ¬ sb.blk b := fun h => by have := ob.lt h; omega
    have put : ∀ t : Bool, t = (!doneB o (X.take k) && decide (o.number ≤ X[k].1)) → f63_k11 R ag ag2 s (some ⟨a1, 0, none⟩) (some ⟨a2, 0, none⟩) (i : Int) sb (doneB o (X.take k)) (k : Int) (some ⟨b, 0, none⟩) t z2 := by
      intro t ht
      unfold f63_k11
      refine ⟨fun h => ?_, fun h => ?_⟩
      · rw [h] at ht
        have ht1 : doneB o (X.take k) = false := by
          cases hd : doneB o (X.take k) with
          | false => rfl
          | true => rw [hd] at ht; simp at ht
        have ht2 : o.number ≤ X[k].1 := by rw [ht1] at ht; simpa using ht
        refine opnum_ld cz2 (opblk_ld cz2 ⟨_, num_fill _ _ c.ok.block, by simp [rowB, c.ok.block], ?_⟩)
        refine app_num (p := (o.number, o.block)) c.ok.block ob2 (by rw [lenO ob2 (h48k k)]; have := small k; omega) fun sb4 z4 o4 c4 b4 l4 => ?_
        have := cz2.ext.size
        refine tail z4 sb4 _ true (cz2.step c4 fb) o4 (fun b hb => ?_) (by have := small k; simp only [List.length_append, List.length_cons, List.length_nil]; omega) (fun j hj => ?_) (hblk2.ch c4 nob) (fun hj => ?_) (by rw [hd1, ht1]; simp [ht2]) (by rw [ho1, if_pos ⟨ht1, ht2⟩])
        · rcases List.mem_append.1 hb with hb | hb
          · exact h48k k b hb
          · simp only [List.mem_singleton] at hb; subst hb; exact c.ok.block
        · rcases b4 j hj with h | h
          · exact fb j h
          · have := cz2.b1.lt
            obtain ⟨_, _, h2⟩ := cz2.b2
            have := h2.lt
            omega
        · rcases b4 b hj with h | h
          · exact nob h
          · have := hblk2.lt; omega
      · rw [h] at ht
        refine tail z2 sb _ _ cz2 ob2 (h48k k) (by have := small k; omega) fb hblk2 nob ?_ ?_
        · rw [hd1]
          cases hd : doneB o (X.take k) with
          | true => rfl
          | false => rw [hd] at ht; simpa using ht
        · rw [ho1, if_neg (fun hc => by rw [hc.1] at ht; simp [hc.2] at ht), List.append_nil]
    refine ⟨fun hd => ?_, fun hd => ?_⟩
    · refine Ld.blk hblk2 (x := X[k].1) rfl (opnum_ld cz2 ?_)
      exact put _ (by rw [hd]; rfl)
    · exact put _ (by rw [hd]; rfl)
  · have hkX : k = X.length := by simp at hge; omega
    subst hkX
    rw [List.take_length] at ob ⊢
    have hall := outB_all h34 (l := X)
    have h48X : ∀ b ∈ outB o X, b.2.length = 48 := outB_48 c.ok hX48
    have fin48 : ∀ b ∈ (if o.kind = 4 then delB X o.number else insB X o.number o.block), b.2.length = 48 := by
      rw [← hall]
      intro b hb
      rcases List.mem_append.1 hb with hb | hb
      · exact h48X b hb
      · split at hb
        · simp only [List.mem_singleton] at hb; subst hb; exact c.ok.block
        · cases hb
    refine ⟨fun hd => ?_, fun hd => ?_⟩
    · have hd : doneB o X = false := by simpa using hd
      rw [if_pos hd] at hall
      refine opnum_ld cz (opblk_ld cz ⟨_, num_fill _ _ c.ok.block, by simp [rowB, c.ok.block], ?_⟩)
      have hsm := small X.length
      rw [List.take_length] at hsm
      refine app_num (p := (o.number, o.block)) c.ok.block ob (by rw [lenO ob h48X]; omega) fun sb4 z4 o4 c4 b4 l4 => ?_
      rw [hall] at o4
      have := cz.ext.size
      refine do_k12 hk (cz.step c4 fb) hi hn (by omega) hr fin48 o4 fun j hj => ?_
      rcases b4 j hj with h | h
      · exact fb j h
      · have := cz.b1.lt
        obtain ⟨_, _, h2⟩ := cz.b2
        have := h2.lt
        omega
    · have hd : doneB o X = true := by simpa using hd
      rw [hd, if_neg (by simp), List.append_nil] at hall
      rw [hall] at ob
      exact do_k12 hk cz hi hn (by omega) hr fin48 ob fb
end Go.Proofs
