/- model: operations on blocks. -/
import Derived.Test.YtnjilbgcflbghaaXModel2
set_option linter.all false
namespace Go.Proofs
open Go Go.X

/-- An answer's cells. -/
def ansL (err : Int) (there : Bool) (block : List Nat) (names : Value) : List Value := .int .i64 err :: .bool there :: (u8s block ++ [names])
def zeros48 : List Nat := List.replicate 48 0
def nilV : Value := .slice none 0 0
theorem ans_zero : Try.z73 = (ansL 0 false zeros48 nilV).toArray := rfl
abbrev ansP : Nat → Option (Nat × Nat) := ((#[(0, 1), (1, 1), (2, 48), (50, 1)] : Array (Nat × Nat))[·]?)
section
variable {e e' : Int} {t t' : Bool} {b b' : List Nat} {n n' : Value} {rest : List (Nat × Value)}
theorem ans_err : Instr.fill ansP (ansL e t b n).toArray ((0, .int .i64 e') :: rest) = Instr.fill ansP (ansL e' t b n).toArray rest := by
  exact (fill_step (cells := (ansL e t b n).toArray) (off := 0) (size := 1) [] [.int .i64 e] (.bool t :: (u8s b ++ [n])) rfl rfl rfl rfl rfl).trans rfl
theorem ans_there : Instr.fill ansP (ansL e t b n).toArray ((1, .bool t') :: rest) = Instr.fill ansP (ansL e t' b n).toArray rest := by
  exact (fill_step (cells := (ansL e t b n).toArray) (off := 1) (size := 1) [.int .i64 e] [.bool t] (u8s b ++ [n]) rfl rfl rfl rfl rfl).trans rfl
theorem ans_block (hb : b.length = 48) (hb' : b'.length = 48) : Instr.fill ansP (ansL e t b n).toArray ((2, arrV b') :: rest) = Instr.fill ansP (ansL e t b' n).toArray rest := by
  rw [fill_step (off := 2) (size := 48) [.int .i64 e, .bool t] (u8s b) [n] rfl (by simp [ansL]) rfl (by simpa using hb) (by simpa [arrV, Value.cells] using hb')]
  simp [ansL, arrV, Value.cells]
theorem ans_names (hb : b.length = 48) (hn : n'.cells.size = 1) (hn' : n'.cells.toList = [n']) : Instr.fill ansP (ansL e t b n).toArray ((3, n') :: rest) = Instr.fill ansP (ansL e t b n').toArray rest := by
  rw [fill_step (off := 50) (size := 1) (.int .i64 e :: .bool t :: u8s b) [n] [] rfl (by simp [ansL]) (by simp [hb]) rfl hn]
  simp [ansL, hn']
theorem ans_one (hn : n.oneCell' = true) : ∀ v ∈ (ansL e t b n).toArray, v.oneCell' = true := by
  intro v hv
  simp only [ansL, List.mem_toArray, List.mem_cons, List.mem_append, List.not_mem_nil, or_false] at hv
  rcases hv with rfl | rfl | hv | rfl <;> first | rfl | exact u8s_one _ v hv | exact hn
theorem ans_size (hb : b.length = 48) : (ansL e t b n).toArray.size = 51 := by simp [ansL, hb]
end
theorem zeros48_len : zeros48.length = 48 := by simp [zeros48]

/-- One volume changed. -/
def updV (M : Vols) (name : ByteArray) (v : VolV) : Vols := M.map fun p => if p.1 = name then (p.1, p.2.1, p.2.2.1, v) else p
theorem updV_foot (M : Vols) (name : ByteArray) (v : VolV) : (updV M name v).foot = M.foot := by
  unfold Vols.foot updV
  rw [List.flatMap_map, List.flatMap_def, List.flatMap_def]
  congr 1
  apply List.map_congr_left
  intro p _
  by_cases h : p.1 = name <;> simp [h]
theorem updV_vals (M : Vols) (name : ByteArray) (v : VolV) : (updV M name v).vals = M.vals := by
  unfold Vols.vals updV
  rw [List.map_map]
  apply List.map_congr_left
  intro p _
  simp only [Function.comp]
  split <;> rfl
theorem MRep.keys {w : World} {m rv : Nat} {M : Vols} (h : MRep w m rv M) : (M.map (·.1)).Nodup := by
  obtain ⟨es, c, _, _, h3, _⟩ := h.map
  rw [show M.map (·.1) = M.vals.map (·.1) from by rw [Vols.vals, List.map_map]; rfl]
  exact h3
theorem mget_key {β : Type} {l : List (ByteArray × β)} {k : ByteArray} {v : β} (hn : (l.map (·.1)).Nodup) (h : (k, v) ∈ l) : mget l k = some v := by
  induction l with
  | nil => cases h
  | cons p l ih =>
    simp only [List.map_cons, List.nodup_cons] at hn
    unfold mget
    rw [List.find?_cons]
    rcases List.mem_cons.1 h with rfl | h
    · simp
    · have : ¬ p.1 = k := fun e => hn.1 (e ▸ List.mem_map.2 ⟨_, h, rfl⟩)
      simp only [this, decide_false]
      exact ih hn.2 h
theorem MRep.upd {w w' : World} {m rv b r : Nat} {M : Vols} {name : ByteArray} {v v' : VolV} (h : MRep w m rv M) (hg : mget M name = some (b, r, v)) (hc : Ch (· = r) w w') (hmap : MapB w' r (Value.int .i64) v'.vals)
    (hq : v'.quota = v.quota) (hf : v'.frozen = v.frozen) (hl : ∀ p ∈ v'.blocks, p.2.length = 48) : MRep w' m rv (updV M name v') := by
  have hmem := mget_mem hg
  have hrf : r ∈ M.foot := Vols.mem_foot.2 ⟨_, hmem, .inr rfl⟩
  have hnd := h.nd
  rw [List.nodup_cons, List.nodup_cons] at hnd
  have hmr : m ≠ r := fun e => hnd.1 (by simp [e, hrf])
  have hrr : rv ≠ r := fun e => hnd.2.1 (e ▸ hrf)
  refine ⟨h.top.ch hc hmr, by rw [updV_vals]; exact h.map.ch hc hrr, fun p hp => ?_, by rw [updV_foot]; exact h.nd⟩
  -- the blocks of distinct entries are apart
  have hapart : ∀ q ∈ M, q.1 ≠ name → q.2.1 ≠ r ∧ q.2.2.1 ≠ r := by
    intro q hq hqn
    have hsub := hnd.2.2
    have : ∀ (L : Vols), (∀ x ∈ L, x ∈ M) → L.foot.Nodup → q ∈ L → (name, b, r, v) ∈ L → q.2.1 ≠ r ∧ q.2.2.1 ≠ r := by
      intro L
      induction L with
      | nil => intro _ _ h; cases h
      | cons x L ih =>
        intro hx hnd hq hn
        have hft : Vols.foot (x :: L) = [x.2.1, x.2.2.1] ++ Vols.foot L := rfl
        rw [hft, List.nodup_append] at hnd
        rcases List.mem_cons.1 hq with rfl | hq'
        · rcases List.mem_cons.1 hn with hn | hn
          · exact absurd (by rw [← hn]) hqn
          · have hr : r ∈ Vols.foot L := Vols.mem_foot.2 ⟨_, hn, .inr rfl⟩
            exact ⟨hnd.2.2 _ (by simp) _ hr, hnd.2.2 _ (by simp) _ hr⟩
        · rcases List.mem_cons.1 hn with rfl | hn
          · have h1 : q.2.1 ∈ Vols.foot L := Vols.mem_foot.2 ⟨_, hq', .inl rfl⟩
            have h2 : q.2.2.1 ∈ Vols.foot L := Vols.mem_foot.2 ⟨_, hq', .inr rfl⟩
            exact ⟨fun e => hnd.2.2 r (by simp) _ h1 e.symm, fun e => hnd.2.2 r (by simp) _ h2 e.symm⟩
          · exact ih (fun y hy => hx y (List.mem_cons_of_mem _ hy)) hnd.2.1 hq' hn
    exact this M (fun x hx => hx) hsub hq hmem
  obtain ⟨q, hqm, rfl⟩ := List.mem_map.1 hp
  by_cases hqn : q.1 = name
  · have hqe : q.2 = (b, r, v) := by
      have := mget_key h.keys (show (q.1, q.2) ∈ M from hqm)
      rw [hqn, hg] at this
      exact (Option.some.inj this).symm
    simp only [hqn, if_true, hqe]
    have hva := h.vols _ hmem
    have hbr : b ≠ r := by
      intro e
      have : ([b, r] : List Nat).Sublist M.foot := by
        unfold Vols.foot
        have := List.sublist_flatten_of_mem (L := M.map fun p => [p.2.1, p.2.2.1]) (l := [b, r]) (List.mem_map.2 ⟨_, hmem, rfl⟩)
        simpa [List.flatMap] using this
      have := hnd.2.2.sublist this
      simp [e] at this
    refine ⟨?_, hmap, hl⟩
    rw [hq, hf]
    exact hva.top.ch hc hbr
  · simp only [hqn, if_false]
    obtain ⟨h1, h2⟩ := hapart q hqm hqn
    exact (h.vols q hqm).ch hc h1 h2

/-- What an operation on a block does. -/
def blockS (M : Vols) (o : OpV) : Vols × Int × Bool × List Nat :=
  match findCode M o with
  | (none, e) => (M, e, false, zeros48)
  | (some _, _) =>
    match mget M o.name with
    | none => (M, 0, false, zeros48)
    | some (_, _, v) =>
      if o.kind = 5 then (M, 0, (mget v.blocks o.number).isSome, (mget v.blocks o.number).getD zeros48)
      else if o.kind = 4 then (updV M o.name { v with blocks := mdel v.blocks o.number }, 0, false, zeros48)
      else if (mget v.blocks o.number).isSome = false ∧ v.quota ≤ v.blocks.length then (M, 8, false, zeros48)
      else (updV M o.name { v with blocks := mset v.blocks o.number o.block }, 0, false, zeros48)
theorem findCode_none {M : Vols} {o : OpV} {e : Int} (h : findCode M o = (none, e)) : e ≠ 0 := by
  unfold findCode at h
  split at h
  · simp at h; omega
  · split at h
    · simp at h; omega
    · split at h
      · simp at h; omega
      · simp at h
theorem findCode_some {M : Vols} {o : OpV} {b : Nat} {e : Int} (h : findCode M o = (some b, e)) : e = 0 ∧ ∃ r v, mget M o.name = some (b, r, v) := by
  unfold findCode at h
  split at h
  · simp at h
  · rename_i b' r v hg
    split at h
    · simp at h
    · split at h
      · simp at h
      · simp at h
        exact ⟨h.2.symm, r, v, by rw [hg, h.1]⟩
theorem blk_zero : Try.z65 = (u8s zeros48).toArray := rfl
theorem mset_len {v : VolV} {n : Int} {x : List Nat} (h : ∀ p ∈ v.blocks, p.2.length = 48) (hx : x.length = 48) : ∀ p ∈ mset v.blocks n x, p.2.length = 48 := by
  intro p hp
  unfold mset at hp
  split at hp
  · obtain ⟨q, hq, rfl⟩ := List.mem_map.1 hp
    split
    · exact hx
    · exact h q hq
  · rcases List.mem_append.1 hp with hp | hp
    · exact h p hp
    · simp only [List.mem_singleton] at hp
      subst hp; exact hx
def BlockPost (w : World) (m rv : Nat) (M : Vols) (o : OpV) : Value → World → Prop := fun r w' =>
  r = .agg (ansL (blockS M o).2.1 (blockS M o).2.2.1 (blockS M o).2.2.2 nilV).toArray ∧ MRep w' m rv (blockS M o).1 ∧ Ch (· ∈ M.foot) w w' ∧ (blockS M o).2.2.2.length = 48
theorem model_block_spec {w : World} {m rv : Nat} {M : Vols} {o : OpV} (hm : MRep w m rv M) (ho : o.OK) :
    CallF Try.prog 93 #[.pointer (some ⟨m, 0, none⟩), .agg o.cells] w (BlockPost w m rv M o) := by
  refine model_Model_block_ok _ (some ⟨m, 0, none⟩) o.cells w ?_
  unfold model_Model_block
  have hk : o.cells[0]? = some (.int .i64 o.kind) := rfl
  have hnu : o.cells[3]? = some (.int .i64 o.number) := rfl
  refine New.mk fun b1 w1 hb1 hs1 hblk1 hx1 => New.mk fun b2 w2 hb2 hs2 hblk2 hx2 => ?_
  have hblk1' := hblk1.ext hx2
  have hm2 := (hm.ext hx1).ext hx2
  refine LdN.all hblk1' (OpV.size ho) ?_
  refine (model_find_spec hm2).mono ?_
  rintro _ w3 ⟨rfl, hx3⟩
  have hm3 := hm2.ext hx3
  have hx := (hx1.trans hx2).trans hx3
  have hbk := hblk1'.ext hx3
  have hba := hblk2.ext hx3
  have hsz3 := hx3.size
  refine ⟨_, _, rfl, ?_⟩
  rcases hfc : findCode M o with ⟨op, e⟩
  cases op with
  | none =>
    have he := findCode_none hfc
    refine ⟨fun _ => ?_, fun h => absurd (by simpa using h) he⟩
    refine ⟨(ansL e false zeros48 nilV).toArray, by rw [ans_zero]; exact ans_err, ?_⟩
    refine StN.all hba (ans_size zeros48_len) (ans_one rfl) (by rw [ans_zero]; exact ans_size zeros48_len) ?_
    intro w4 hb4 hc4 hz4
    refine LdN.all hb4 (ans_size zeros48_len) ?_
    have hbs : blockS M o = (M, e, false, zeros48) := by simp only [blockS, hfc]
    unfold BlockPost
    rw [hbs]
    refine ⟨rfl, hm3.ch hc4 fun k hk h => ?_, hx.step hc4 (fun _ _ h => h.elim) (fun k hk h => by have := hx1.size; omega), zeros48_len⟩
    have := hm.lt hk; have := hx1.size; omega
  | some vb =>
    obtain ⟨rfl, vr, v, hg⟩ := findCode_some hfc
    refine ⟨fun h => absurd h (by simp), fun _ => ⟨_, rfl, ?_⟩⟩
    have hva := hm3.vols _ (mget_mem hg)
    simp only at hva
    have hd := Ch.drew w3
    have hvad := hva.ext hd
    simp only [addr_add, Nat.zero_add]
    refine LdH.blk hvad.top rfl (LdH.blk (hbk.ext hd) hnu ?_)
    -- what is behind the look-up
    have hgo : ∀ (w4 : World) (bb : Nat), Ext w3 w4 → w3.heap.size ≤ bb → Blk w4 bb (u8s ((mget v.blocks o.number).getD zeros48)).toArray 65 →
        model_Model_block_k0 (BlockPost w m rv M o) (some ⟨b1, 0, none⟩) (some ⟨b2, 0, none⟩) (some ⟨vb, 0, none⟩) (some ⟨bb, 0, none⟩) (mget v.blocks o.number).isSome w4 := by
      intro w4 bb hx4 hbb hbk4
      have hm4 := hm3.ext hx4
      have hva4 := hva.ext hx4
      have ho4 := hbk.ext hx4
      have ha4 := hba.ext hx4
      have hlen : ((mget v.blocks o.number).getD zeros48).length = 48 := by
        cases hq : mget v.blocks o.number with
        | none => exact zeros48_len
        | some x => exact hva.len _ (mget_mem hq)
      have hxx := hx.trans hx4
      unfold model_Model_block_k0
      refine ⟨_, rfl, ?_⟩
      simp only [addr_add, Nat.zero_add]
      refine Ld.blk ho4 hk ⟨fun h5 => ?_, fun h5 => ⟨_, rfl, ?_⟩⟩
      · have h5' : o.kind = 5 := by simpa using h5
        refine LdN.all hbk4 (by simpa using hlen) ?_
        refine ⟨(ansL 0 (mget v.blocks o.number).isSome ((mget v.blocks o.number).getD zeros48) nilV).toArray, by rw [ans_zero, ans_there]; exact ans_block zeros48_len hlen, ?_⟩
        refine StN.all ha4 (ans_size hlen) (ans_one rfl) (by rw [ans_zero]; exact ans_size zeros48_len) ?_
        intro w5 hb5 hc5 hz5
        refine LdN.all hb5 (ans_size hlen) ?_
        have hbs : blockS M o = (M, 0, (mget v.blocks o.number).isSome, (mget v.blocks o.number).getD zeros48) := by simp only [blockS, hfc, hg, if_pos h5']
        unfold BlockPost
        rw [hbs]
        refine ⟨rfl, hm4.ch hc5 fun k hk h => ?_, hxx.step hc5 (fun _ _ h => h.elim) (fun k hk h => by have := hx1.size; omega), hlen⟩
        have := hm.lt hk; have := hx1.size; omega
      have h5' : ¬ o.kind = 5 := by simpa using h5
      -- the end of the operations that change
      have hend : ∀ (w5 : World) (M' : Vols) (e : Int), Ch (· ∈ M.foot) w4 w5 → MRep w5 m rv M' → blockS M o = (M', 0, false, zeros48) → M'.foot = M.foot → model_Model_block_k1 (BlockPost w m rv M o) (some ⟨b2, 0, none⟩) w5 := by
        intro w5 M' e hc5 hm5 hbs hft
        unfold model_Model_block_k1
        have hnf : ¬ b2 ∈ M.foot := fun h => by have := hm.lt (.inr (.inr h)); have := hx1.size; omega
        have ha5 := ha4.ch hc5 hnf
        refine LdN.all ha5 (by rw [ans_zero]; exact ans_size zeros48_len) ?_
        refine StN.all ha5 (by rw [ans_zero]; exact ans_size zeros48_len) (by rw [ans_zero]; exact ans_one rfl) (by rw [ans_zero]; exact ans_size zeros48_len) ?_
        intro w6 hb6 hc6 hz6
        refine LdN.all hb6 (by rw [ans_zero]; exact ans_size zeros48_len) ?_
        unfold BlockPost
        rw [hbs]
        refine ⟨by rw [ans_zero], hm5.ch hc6 fun k hk h => ?_, (hxx.step hc5 (fun _ _ h => h.elim) (fun k _ h => h)).step hc6 (fun _ _ h => h) (fun k hk h => ?_), zeros48_len⟩
        · rw [hft] at hk
          have := hm.lt hk; have := hx1.size; omega
        · have := hx1.size; omega
      simp only [addr_add, Nat.zero_add]
      refine Ld.blk ho4 hk ⟨fun h4 => ⟨_, rfl, ?_⟩, fun h4 => ?_⟩
      · have h4' : o.kind = 4 := by simpa using h4
        have hd4 := Ch.drew w4
        simp only [addr_add, Nat.zero_add]
        refine Ld.blk (hva4.ext hd4).top rfl ⟨_, rfl, ?_⟩
        simp only [addr_add, Nat.zero_add]
        refine Ld.blk (ho4.ext hd4) hnu ?_
        obtain ⟨w5, e1, e2, e3, e4⟩ := delete_run (P := Try.prog) (ts := #[168, 3]) (ty := 0) KeyLaw.ints rfl Try.underlying168 (hva4.ext hd4).map o.number
        refine ⟨_, w5, e1, ?_⟩
        rw [show mdel v.vals o.number = ({ v with blocks := mdel v.blocks o.number } : VolV).vals from mdel_map v.blocks arrV o.number] at e2
        refine hend w5 (updV M o.name { v with blocks := mdel v.blocks o.number }) 0 ?_ ((hm4.ext hd4).upd hg e3 e2 rfl rfl ?_) ?_ (updV_foot _ _ _)
        · exact hd4.step e3 (fun _ _ h => h.elim) (fun k _ h => h ▸ Vols.mem_foot.2 ⟨_, mget_mem hg, .inr rfl⟩)
        · intro p hp
          exact hva.len p (List.mem_filter.1 hp).1
        · simp only [blockS, hfc, hg, if_neg h5', if_pos h4']
      have h4' : ¬ o.kind = 4 := by simpa using h4
      -- a write
      have hgo2 : ∀ (w5 : World) (t : Bool), Ext w4 w5 → t = decide ((mget v.blocks o.number).isSome = false ∧ v.quota ≤ v.blocks.length) → model_Model_block_k2 (BlockPost w m rv M o) (some ⟨b1, 0, none⟩) (some ⟨b2, 0, none⟩) (some ⟨vb, 0, none⟩) t w5 := by
        intro w5 t hx5 ht
        have hm5 := hm4.ext hx5
        unfold model_Model_block_k2
        refine ⟨fun h1 => ?_, fun h1 => ⟨_, rfl, ?_⟩⟩
        · rw [h1] at ht
          have ht' := of_decide_eq_true ht.symm
          refine ⟨(ansL 8 false zeros48 nilV).toArray, by rw [ans_zero]; exact ans_err, ?_⟩
          refine StN.all (ha4.ext hx5) (ans_size zeros48_len) (ans_one rfl) (by rw [ans_zero]; exact ans_size zeros48_len) ?_
          intro w6 hb6 hc6 hz6
          refine LdN.all hb6 (ans_size zeros48_len) ?_
          have hbs : blockS M o = (M, 8, false, zeros48) := by simp only [blockS, hfc, hg, if_neg h5', if_neg h4', if_pos ht']
          unfold BlockPost
          rw [hbs]
          refine ⟨rfl, hm5.ch hc6 fun k hk h => ?_, (hxx.trans hx5).step hc6 (fun _ _ h => h.elim) (fun k hk h => ?_), zeros48_len⟩
          · have := hm.lt hk; have := hx1.size; omega
          · have := hx1.size; omega
        · rw [h1] at ht
          have ht' := of_decide_eq_false ht.symm
          have hd5 := Ch.drew w5
          have hva5 := (hva4.ext hx5).ext hd5
          have ho5 := (ho4.ext hx5).ext hd5
          simp only [addr_add, Nat.zero_add]
          refine Ld.blk hva5.top rfl ⟨_, rfl, ?_⟩
          simp only [addr_add, Nat.zero_add]
          refine Ld.blk ho5 hnu ⟨_, rfl, ?_⟩
          simp only [addr_add, Nat.zero_add]
          refine LdN.blk (ds := (u8s o.block).toArray) ho5 (fun j v hj => o.blk j v (by simpa using hj)) (by simp [ho.block]) ?_
          obtain ⟨w6, e1, e2, e3, e4⟩ := mapUpdate_run (P := Try.prog) KeyLaw.ints Try.underlying168 hva5.map o.number (arrV o.block)
          refine ⟨w6, e1, ?_⟩
          rw [show mset v.vals o.number (arrV o.block) = ({ v with blocks := mset v.blocks o.number o.block } : VolV).vals from mset_map v.blocks arrV o.number o.block] at e2
          refine hend w6 (updV M o.name { v with blocks := mset v.blocks o.number o.block }) 0 ?_ ((hm5.ext hd5).upd hg e3 e2 rfl rfl (mset_len hva.len ho.block)) ?_ (updV_foot _ _ _)
          · exact (hx5.trans hd5).step e3 (fun _ _ h => h.elim) (fun k _ h => h ▸ Vols.mem_foot.2 ⟨_, mget_mem hg, .inr rfl⟩)
          · simp only [blockS, hfc, hg, if_neg h5', if_neg h4', if_neg ht']
      refine ⟨fun h3 => ⟨_, rfl, ?_⟩, fun h3 => hgo2 _ _ (Ch.drew w4) ?_⟩
      · have hd4 := Ch.drew w4
        have hva5 := hva4.ext hd4
        simp only [addr_add, Nat.zero_add]
        refine Ld.blk hva5.top rfl ⟨_, rfl, ?_⟩
        simp only [addr_add, Nat.zero_add]
        refine LdH.blk hva5.top rfl ⟨_, _, len_run Try.underlying168 hva5.map, ?_⟩
        refine ⟨hva5.top.cell rfl, hgo2 _ _ hd4 ?_⟩
        have h3' : (mget v.blocks o.number).isSome = false := by simpa using h3
        simp [h3', VolV.vals]
      · have h3' : (mget v.blocks o.number).isSome = true := by simpa using h3
        simp [h3']
    have hlk : ∀ w4, Ext w3 w4 → (Instr.lookup 168 (.map (some vr)) (.int .i64 o.number) true).run Try.prog w4 = .ok (.tuple #[arrV ((mget v.blocks o.number).getD zeros48), .bool (mget v.blocks o.number).isSome]) w4 := by
      intro w4 hx4
      have := lookup_run (P := Try.prog) KeyLaw.ints Try.underlying168 Try.ti65 (hva.ext hx4).map o.number
      rw [VolV.mget_vals] at this
      rw [this]
      cases mget v.blocks o.number with
      | none => simp only [Option.map_none, Option.getD_none, Option.isSome_none]; rw [blk_zero]; rfl
      | some x => rfl
    have hlen : ((mget v.blocks o.number).getD zeros48).length = 48 := by
      cases hq : mget v.blocks o.number with
      | none => exact zeros48_len
      | some x => exact hva.len _ (mget_mem hq)
    refine ⟨⟨_, _, hlk _ hd, _, _, rfl, ?_⟩, ?_⟩
    · refine New.mk fun b4 w4 hb4 hs4 hblk4 hx4 => ?_
      refine StN.all hblk4 (by simpa using hlen) (fun v hv => u8s_one _ v (by simpa using hv)) (by decide) ?_
      intro w5 hb5 hc5 hz5
      refine hgo w5 b4 ((hd.trans hx4).step hc5 (fun _ _ h => h.elim) (fun k hk h => ?_)) ?_ hb5
      · have := hd.size; omega
      · have := hd.size; omega
    · refine New.mk fun b4 w4 hb4 hs4 hblk4 hx4 => ?_
      have hx34 := hd.trans hx4
      refine ⟨(hbk.ext hx34).cell hnu, (hva.ext hx34).top.cell rfl, _, _, hlk _ hx34, _, _, rfl, ?_⟩
      refine StN.all hblk4 (by simpa using hlen) (fun v hv => u8s_one _ v (by simpa using hv)) (by decide) ?_
      intro w5 hb5 hc5 hz5
      refine hgo w5 b4 (hx34.step hc5 (fun _ _ h => h.elim) (fun k hk h => ?_)) ?_ hb5
      · have := hd.size; omega
      · have := hd.size; omega
end Go.Proofs
