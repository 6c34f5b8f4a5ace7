/- model: Do, whatever the operation; what it does to a list of volumes. -/
import Derived.Test.YtnjilbgcflbghaaXF0
import Derived.Test.YtnjilbgcflbghaaXF2
import Derived.Test.YtnjilbgcflbghaaXModels
import Derived.Test.YtnjilbgcflbghaaXKeysModel
import Derived.Test.YtnjilbgcflbghaaXSortsstring
set_option linter.all false
set_option maxHeartbeats 2000000
namespace Go.Proofs
open Go Go.X

/-- Volumes, by their names, in the order in which they came. -/
abbrev St := List (ByteArray × VolV)
def findS (M : St) (o : OpV) : Int :=
  match mget M o.name with
  | none => 5
  | some v => if o.number < 0 ∨ 1048576 ≤ o.number then 2 else if v.frozen = true ∧ o.kind ≠ 5 then 10 else 0
def setS (M : St) (name : ByteArray) (v : VolV) : St := M.map fun p => if p.1 = name then (p.1, v) else p
def blkS (M : St) (o : OpV) : St × Int × Bool × List Nat :=
  if findS M o ≠ 0 then (M, findS M o, false, zeros48) else
    match mget M o.name with
    | none => (M, 0, false, zeros48)
    | some v =>
      if o.kind = 5 then (M, 0, (mget v.blocks o.number).isSome, (mget v.blocks o.number).getD zeros48)
      else if o.kind = 4 then (setS M o.name { v with blocks := mdel v.blocks o.number }, 0, false, zeros48)
      else if (mget v.blocks o.number).isSome = false ∧ v.quota ≤ v.blocks.length then (M, 8, false, zeros48)
      else (setS M o.name { v with blocks := mset v.blocks o.number o.block }, 0, false, zeros48)
def addS (M : St) (name : ByteArray) (v : VolV) (code : Int) : Int :=
  if namedB name = false ∨ v.quota < 0 ∨ 1048576 < v.quota then 1 else if code ≠ 0 then code else if (mget M name).isSome then 6 else if v.quota < v.blocks.length then 8 else 0
def addM (M : St) (name : ByteArray) (v : VolV) (code : Int) : St × Int × Bool × List Nat :=
  (if addS M name v code = 0 then M ++ [(name, v)] else M, addS M name v code, false, zeros48)
def copyV (M : St) (o : OpV) : VolV × Int :=
  match mget M o.name with
  | none => (⟨if o.kind = 6 then 0 else o.quota, decide (o.kind = 6), []⟩, 5)
  | some v => (⟨if o.kind = 6 then v.quota else o.quota, decide (o.kind = 6), v.blocks⟩, 0)
/-- What an operation does: the volumes, and the answer but for names. -/
def doS (M : St) (o : OpV) : St × Int × Bool × List Nat :=
  if o.kind = 1 then addM M o.name (newVol o) 0
  else if o.kind = 2 then (if (mget M o.name).isSome then (mdel M o.name, 0, false, zeros48) else (M, 5, false, zeros48))
  else if o.kind = 3 ∨ o.kind = 4 ∨ o.kind = 5 then blkS M o
  else if o.kind = 6 ∨ o.kind = 7 then addM M o.other (copyV M o).1 (copyV M o).2
  else if o.kind = 8 then (M, 0, false, zeros48)
  else (M, 1, false, zeros48)

theorem findCode_st (M : Vols) (o : OpV) : (findCode M o).2 = findS M.st o ∧ ((findCode M o).1 = none ↔ findS M.st o ≠ 0) := by
  unfold findCode findS
  rw [Vols.mget_st]
  cases h : mget M o.name with
  | none => simp
  | some x =>
    obtain ⟨b, r, v⟩ := x
    simp only [Option.map_some]
    split
    · simp
    · split <;> simp
theorem updV_st (M : Vols) (name : ByteArray) (v : VolV) : (updV M name v).st = setS M.st name v := by
  unfold updV Vols.st setS
  rw [List.map_map, List.map_map]
  apply List.map_congr_left
  intro p _
  simp only [Function.comp]
  split <;> rfl
theorem blockS_st (M : Vols) (o : OpV) : (blockS M o).1.st = (blkS M.st o).1 ∧ (blockS M o).2 = (blkS M.st o).2 := by
  obtain ⟨h1, h2⟩ := findCode_st M o
  unfold blockS blkS
  rw [Vols.mget_st]
  cases hf : findCode M o with
  | mk p e =>
    rw [hf] at h1 h2
    dsimp only at h1 h2
    cases p with
    | none =>
      have := h2.1 rfl
      rw [if_pos this]
      exact ⟨rfl, by rw [← h1]⟩
    | some b =>
      have : ¬ findS M.st o ≠ 0 := fun h => by have := h2.2 h; cases this
      rw [if_neg this]
      cases hg : mget M o.name with
      | none => exact ⟨rfl, rfl⟩
      | some x =>
        obtain ⟨b, r, v⟩ := x
        simp only [Option.map_some]
        split
        · exact ⟨rfl, rfl⟩
        · split
          · exact ⟨updV_st _ _ _, rfl⟩
          · split
            · exact ⟨rfl, rfl⟩
            · exact ⟨updV_st _ _ _, rfl⟩
theorem addCode_st (M : Vols) (name : ByteArray) (v : VolV) (code : Int) : addCode M name v code = addS M.st name v code := by
  unfold addCode addS
  rw [Vols.mget_st]
  simp
theorem blkS_foot (M : Vols) (o : OpV) : (blockS M o).1.foot = M.foot := by
  unfold blockS
  split
  · rfl
  · split
    · rfl
    · split
      · rfl
      · split
        · exact updV_foot _ _ _
        · split
          · rfl
          · exact updV_foot _ _ _

/-- What is known behind Do. -/
def DoPost (w : World) (m rv : Nat) (M : Vols) (o : OpV) : Value → World → Prop := fun r w' =>
  ∃ (M' : Vols) (s : Sl) (ys : List ByteArray), r = .agg (ansL (doS M.st o).2.1 (doS M.st o).2.2.1 (doS M.st o).2.2.2 s.v).toArray ∧ MRep w' m rv M' ∧ M'.st = (doS M.st o).1 ∧ Ch (fun k => k = rv ∨ k ∈ M.foot) w w' ∧
    (∀ k ∈ M'.foot, k ∈ M.foot ∨ w.heap.size ≤ k) ∧ (doS M.st o).2.2.2.length = 48 ∧ Own w' s 9 1 (ys.map Value.string) ∧ (∀ b, s.blk b → w.heap.size ≤ b ∧ b ∉ M'.foot) ∧
    (o.kind = 8 → ys.Perm (M.st.map (·.1)) ∧ ys.Pairwise (fun a b => slt b a = false)) ∧ (o.kind ≠ 8 → ys = [] ∧ s = Sl.nil)

theorem clone_ok {w : World} {r : Nat} {l : List (Int × Value)} (hm : MapB w r (Value.int .i64) l) {R : Value → World → Prop}
    (k : ∀ r' w', MapB w' r' (Value.int .i64) l → Ext w w' → r' = w.heap.size → R (.map (some r')) w') : CallF Try.prog 152 #[.map (some r)] w R := by
  refine f152_ok R _ w ?_
  unfold f152
  refine ⟨fun h => (by cases h), fun _ => ?_⟩
  refine ⟨.iface 168 (.map (some r)), w, by simp [Instr.makeInterface, run_underlying Try.underlying168], ?_⟩
  obtain ⟨w1, h1, h2, h3, h4⟩ := clone_run (P := Try.prog) (t := 168) hm
  refine ⟨_, w1, h1, ?_⟩
  refine ⟨some w.heap.size, w1, ?_, k _ w1 h2 h3 rfl⟩
  simp [Instr.typeAssert, run_underlying Try.underlying168]

theorem foot_add (M : Vols) (name : ByteArray) (b r : Nat) (v : VolV) : (M ++ [(name, b, r, v)] : Vols).foot = M.foot ++ [b, r] := by simp [Vols.foot]
theorem foot_new {M : Vols} {m rv n : Nat} (h : (m :: rv :: M.foot).Nodup) (hlt : ∀ k, k = m ∨ k = rv ∨ k ∈ M.foot → k < n) {name : ByteArray} {b r : Nat} {v : VolV} (hb : n ≤ b) (hr : n ≤ r) (hbr : b ≠ r) :
    (m :: rv :: (M ++ [(name, b, r, v)] : Vols).foot).Nodup := by
  rw [foot_add, show m :: rv :: (M.foot ++ [b, r]) = (m :: rv :: M.foot) ++ [b, r] from rfl, List.nodup_append]
  refine ⟨h, by simp [hbr], fun a ha c hc => ?_⟩
  have h1 : a < n := hlt a (by simpa using ha)
  simp only [List.mem_cons, List.not_mem_nil, or_false] at hc
  rcases hc with rfl | rfl <;> omega
theorem flatMap_sub {α β : Type} {l l' : List α} (h : l.Sublist l') (f : α → List β) : (l.flatMap f).Sublist (l'.flatMap f) := by
  induction h with
  | slnil => exact List.Sublist.refl _
  | cons a h ih => simp only [List.flatMap_cons]; exact ih.trans (List.sublist_append_right _ _)
  | cons_cons a h ih => simp only [List.flatMap_cons]; exact List.Sublist.append (List.Sublist.refl _) ih
theorem foot_del (M : Vols) (name : ByteArray) : (Vols.foot (mdel M name)).Sublist M.foot := by
  have h : (mdel M name).Sublist M := List.filter_sublist
  exact flatMap_sub h _
theorem MRep.del {w w' : World} {m rv : Nat} {M : Vols} (h : MRep w m rv M) (name : ByteArray) (hmap : MapB w' rv Value.string (mdel M.vals name)) (hc : Ch (· = rv) w w') : MRep w' m rv (mdel M name) := by
  have hnd := h.nd
  rw [List.nodup_cons, List.nodup_cons] at hnd
  have hmr : m ≠ rv := fun e => hnd.1 (by simp [e])
  have hv : Vols.vals (mdel M name) = mdel M.vals name := (mdel_map M (fun x => .pointer (some ⟨x.1, 0, none⟩)) name).symm
  refine ⟨h.top.ch hc hmr, by rw [hv]; exact hmap, fun p hp => ?_, ?_⟩
  · have hp' : p ∈ M := (List.mem_filter.1 hp).1
    exact (h.vols p hp').ch hc (fun e => hnd.2.1 (e ▸ Vols.mem_foot.2 ⟨p, hp', .inl rfl⟩)) (fun e => hnd.2.1 (e ▸ Vols.mem_foot.2 ⟨p, hp', .inr rfl⟩))
  · exact h.nd.sublist (((foot_del M name).cons_cons rv).cons_cons m)
theorem mdel_st (M : Vols) (name : ByteArray) : Vols.st (mdel M name) = mdel M.st name := by
  unfold mdel Vols.st
  rw [List.filter_map]
  rfl
theorem st_add (M : Vols) (name : ByteArray) (b r : Nat) (v : VolV) : (M ++ [(name, b, r, v)] : Vols).st = M.st ++ [(name, v)] := by simp [Vols.st]

/-- What add comes to, of a volume that lies ready. -/
theorem add_then {w : World} {m rv b n : Nat} {ro : Option Nat} {M : Vols} {name : ByteArray} {v : VolV} {code : Int} (hm : MRep w m rv M) (hlt : ∀ k, k = m ∨ k = rv ∨ k ∈ M.foot → k < n) (hv : Blk w b #[.int .i64 v.quota, .bool v.frozen, .map ro] 170)
    (hr : code = 0 → ∃ r, ro = some r ∧ VolAt w b r v ∧ n ≤ b ∧ n ≤ r ∧ b ≠ r) (hn : name.size ≤ 1073741824) {R : Value → World → Prop}
    (k : ∀ w' M', MRep w' m rv M' → M'.st = (addM M.st name v code).1 → Ch (· = rv) w w' → (∀ j ∈ M'.foot, j ∈ M.foot ∨ n ≤ j) → R (.int .i64 (addS M.st name v code)) w') :
    CallF Try.prog 92 #[.pointer (some ⟨m, 0, none⟩), .string name, .pointer (some ⟨b, 0, none⟩), .int .i64 code] w R := by
  refine (model_add_spec hm hv (fun h => ?_) hn).mono ?_
  · obtain ⟨r, h1, h2, h3, h4, h5⟩ := hr h
    exact ⟨r, h1, h2, foot_new hm.nd hlt h3 h4 h5⟩
  · rintro _ w1 ⟨rfl, hc, hne, heq⟩
    rw [addCode_st] at *
    by_cases h0 : addS M.st name v code = 0
    · have hcode : code = 0 := by
        unfold addS at h0
        split at h0
        · cases h0
        · split at h0
          · exact h0
          · rename_i h; simpa using h
      obtain ⟨r, h1, h2, h3, h4, h5⟩ := hr hcode
      refine k w1 _ (heq h0 r h1) ?_ hc ?_
      · rw [st_add]; unfold addM; rw [if_pos h0]
      · intro j hj
        rw [foot_add] at hj
        rcases List.mem_append.1 hj with hj | hj
        · exact .inl hj
        · simp only [List.mem_cons, List.not_mem_nil, or_false] at hj
          rcases hj with rfl | rfl
          · exact .inr h3
          · exact .inr h4
    · exact k w1 _ (hne h0) (by unfold addM; rw [if_neg h0]) hc fun j hj => .inl hj

theorem vol_fill2 (q : Int) (f : Bool) : Instr.fill ((#[(0, 1), (1, 1), (2, 1)] : Array (Nat × Nat))[·]?) #[.int .i64 0, .bool false, .map none] [(0, .int .i64 q), (1, .bool f)] = some #[.int .i64 q, .bool f, .map none] := rfl
theorem model_copied_spec {w : World} {m rv : Nat} {M : Vols} {o : OpV} (hm : MRep w m rv M) (ho : o.OK) (hn : o.other.size ≤ 1073741824) {R : Value → World → Prop}
    (k : ∀ w' M', MRep w' m rv M' → M'.st = (addM M.st o.other (copyV M.st o).1 (copyV M.st o).2).1 → Ch (· = rv) w w' → (∀ j ∈ M'.foot, j ∈ M.foot ∨ w.heap.size ≤ j) → R (.int .i64 (addS M.st o.other (copyV M.st o).1 (copyV M.st o).2)) w') :
    CallF Try.prog 94 #[.pointer (some ⟨m, 0, none⟩), .agg o.cells] w R := by
  refine f94_ok R (some ⟨m, 0, none⟩) o.cells w ?_
  unfold f94
  have hk : o.cells[0]? = some (.int .i64 o.kind) := rfl
  have hnm : o.cells[1]? = some (.string o.name) := rfl
  have hot : o.cells[2]? = some (.string o.other) := rfl
  have hqu : o.cells[4]? = some (.int .i64 o.quota) := rfl
  refine New.mk fun b1 w1 hb1 hs1 hblk1 hx1 => ⟨_, rfl, ?_⟩
  have hd := Ch.drew w1
  have hx := hx1.trans hd
  have hm1 := hm.ext hx
  have hblk := hblk1.ext hd
  have hsz := hx.size
  have hdz : (World.drew w1).heap.size = w1.heap.size := rfl
  generalize World.drew w1 = w2 at hx hm1 hblk hsz hdz
  have hlt : ∀ k, k = m ∨ k = rv ∨ k ∈ M.foot → k < w.heap.size := fun k hk => hm.lt hk
  simp only [addr_add, Nat.zero_add]
  refine Ld.blk hm1.top rfl (Ld.blk hblk hnm ?_)
  refine ⟨_, _, lookup_run KeyLaw.names Try.underlying163 Try.ti167 hm1.map o.name, ?_⟩
  rw [Vols.mget_vals]
  cases hg : mget M o.name with
  | none =>
    refine ⟨none, false, rfl, Ld.blk hblk hqu (Ld.blk hblk hk ⟨_, vol_fill2 _ _, ?_⟩)⟩
    refine New.mk fun b2 w3 hb2 hs2 hblk2 hx2 => ?_
    have hcv : copyV M.st o = (⟨if o.kind = 6 then 0 else o.quota, decide (o.kind = 6), []⟩, 5) := by
      unfold copyV; rw [Vols.mget_st, hg]; rfl
    have fin : ∀ w4, Blk w4 b2 #[.int .i64 (if o.kind = 6 then 0 else o.quota), .bool (decide (o.kind = 6)), .map none] 170 → Ext w2 w4 → f94_k0 R (some ⟨m, 0, none⟩) (some ⟨b1, 0, none⟩) (some ⟨b2, 0, none⟩) w4 := by
      intro w4 h4 c4
      unfold f94_k0
      refine ⟨_, rfl, Ld.blk (hblk.ext c4) (by simpa using hot) ?_⟩
      rw [hcv] at k
      refine add_then (hm1.ext c4) hlt (v := ⟨if o.kind = 6 then 0 else o.quota, decide (o.kind = 6), []⟩) (ro := none) h4 (fun h => by cases h) hn fun w5 M' h1 h2 h3 h5 => ⟨_, rfl, k w5 M' h1 h2 ?_ h5⟩
      exact (hx.trans c4).step h3 (fun _ _ h => h.elim) (fun _ _ h => h)
    refine ⟨fun _ => ?_, fun h => (by cases h)⟩
    refine Ld.blk hblk2 rfl ⟨fun h6 => ?_, fun h6 => ?_⟩
    · refine St.blk hblk2 (by simp) fun w4 h4 c4 => fin w4 ?_ (hx2.step c4 (fun _ _ h => h) fun i hi h => by omega)
      have : o.kind = 6 := by simpa using h6
      simpa [this] using h4
    · refine fin w3 ?_ hx2
      have : ¬ o.kind = 6 := by simpa using h6
      simpa [this] using hblk2
  | some x =>
    obtain ⟨vb, vr, v⟩ := x
    have hmem := mget_mem hg
    have hva := hm1.vols _ hmem
    simp only at hva
    refine ⟨some ⟨vb, 0, none⟩, true, rfl, Ld.blk hblk hqu (Ld.blk hblk hk ⟨_, vol_fill2 _ _, ?_⟩)⟩
    refine New.mk fun b2 w3 hb2 hs2 hblk2 hx2 => ?_
    have hcv : copyV M.st o = (⟨if o.kind = 6 then v.quota else o.quota, decide (o.kind = 6), v.blocks⟩, 0) := by
      unfold copyV; rw [Vols.mget_st, hg]; rfl
    have fin : ∀ w4, Blk w4 b2 #[.int .i64 (if o.kind = 6 then v.quota else o.quota), .bool (decide (o.kind = 6)), .map none] 170 → Ext w2 w4 → f94_k1 R (some ⟨m, 0, none⟩) (some ⟨b1, 0, none⟩) (some ⟨vb, 0, none⟩) (some ⟨b2, 0, none⟩) w4 := by
      intro w4 h4 c4
      unfold f94_k1
      have hva4 := hva.ext c4
      refine ⟨_, rfl, Ld.blk hva4.top rfl ?_⟩
      refine clone_ok hva4.map fun r' w5 h5 c5 hr' => ⟨_, rfl, _, rfl, ?_⟩
      have h4' := h4.ext c5
      refine St.blk h4' (by simp) fun w6 h6 c6 => ⟨_, rfl, ?_⟩
      have c46 : Ext w2 w6 := (c4.trans c5).step c6 (fun _ _ h => h) fun i hi h => by have : i = b2 := h; omega
      have hbr : b2 ≠ r' := by have := h4.lt; omega
      refine Ld.blk (hblk.ext c46) hot ?_
      rw [hcv] at k
      have hb1lt := hblk.lt
      refine add_then (hm1.ext c46) hlt (v := ⟨if o.kind = 6 then v.quota else o.quota, decide (o.kind = 6), v.blocks⟩) (ro := some r') (by simpa using h6) (fun _ => ⟨r', rfl, ⟨by simpa using h6, h5.ch c6 (fun e => hbr e.symm), hva.len⟩, by omega, ?_, hbr⟩) hn fun w7 M' g1 g2 g3 g5 => ⟨_, rfl, k w7 M' g1 g2 ?_ g5⟩
      · have := c4.size; omega
      · exact (hx.trans c46).step g3 (fun _ _ h => h.elim) (fun _ _ h => h)
    refine ⟨fun h => (by cases h), fun _ => ?_⟩
    refine Ld.blk hblk2 rfl ⟨fun h6 => ⟨_, rfl, ?_⟩, fun h6 => ?_⟩
    · refine Ld.blk (hva.ext hx2).top rfl ?_
      refine St.blk hblk2 (by simp) fun w4 h4 c4 => fin w4 ?_ (hx2.step c4 (fun _ _ h => h) fun i hi h => by omega)
      have : o.kind = 6 := by simpa using h6
      simpa [this] using h4
    · refine fin w3 ?_ hx2
      have : ¬ o.kind = 6 := by simpa using h6
      simpa [this] using hblk2

theorem ans_fill0 (e : Int) : Instr.fill ansP Try.z73 [(0, .int .i64 e)] = some (ansL e false zeros48 nilV).toArray := by rw [ans_zero]; exact ans_err
theorem ans_fillN (s : Sl) : Instr.fill ansP Try.z73 [(3, s.v)] = some (ansL 0 false zeros48 s.v).toArray := by rw [ans_zero]; exact ans_names zeros48_len rfl rfl
theorem ans_fillE : Instr.fill ansP Try.z73 [] = some (ansL 0 false zeros48 nilV).toArray := by rw [ans_zero]; rfl
theorem sl_one (s : Sl) : s.v.oneCell' = true := rfl
theorem model_Do_spec {w : World} {m rv : Nat} {M : Vols} {o : OpV} (hm : MRep w m rv M) (ho : o.OK) (hn : o.name.size ≤ 1073741824) (hn2 : o.other.size ≤ 1073741824) (hM : M.length < 1099511627776) :
    CallF Try.prog 37 #[.pointer (some ⟨m, 0, none⟩), .agg o.cells] w (DoPost w m rv M o) := by
  have hlt : ∀ k, k = m ∨ k = rv ∨ k ∈ M.foot → k < w.heap.size := fun k hk => hm.lt hk
  -- kinds 3, 4, 5
  by_cases hb : o.kind = 3 ∨ o.kind = 4 ∨ o.kind = 5
  · refine (model_Do_block hm ho hb).mono ?_
    rintro r w' ⟨rfl, h1, h2, h3⟩
    obtain ⟨g1, g2⟩ := blockS_st M o
    have hd : doS M.st o = blkS M.st o := by
      unfold doS
      rw [if_neg (by omega), if_neg (by omega), if_pos hb]
    refine ⟨_, Sl.nil, [], ?_, h1, by rw [g1, hd], h2.mono fun _ _ h => .inr h, fun k hk => .inl (by rwa [blkS_foot] at hk), ?_, Own.nil _ _ _, fun b ⟨_, h, _⟩ => (by cases h), fun h => by omega, fun _ => ⟨rfl, rfl⟩⟩
    · rw [hd, ← g2]; rfl
    · rw [hd, ← g2]; exact h3
  refine f37_ok _ (some ⟨m, 0, none⟩) o.cells w ?_
  unfold f37
  have hk : o.cells[0]? = some (.int .i64 o.kind) := rfl
  have hnm : o.cells[1]? = some (.string o.name) := rfl
  have hqu : o.cells[4]? = some (.int .i64 o.quota) := rfl
  refine New.mk fun b1 w1 hb1 hs1 hblk1 hx1 => New.mk fun b2 w2 hb2 hs2 hblk2 hx2 => ?_
  have hx12 := hx1.trans hx2
  have hblk1' := hblk1.ext hx2
  have hm2 := hm.ext hx12
  have hsz := hx12.size
  -- the answer is laid, and handed out
  have fin : ∀ (w3 : World) (M' : Vols) (s : Sl) (ys : List ByteArray) (e : Int), MRep w3 m rv M' → M'.st = (doS M.st o).1 → (doS M.st o).2 = (e, false, zeros48) → Ch (fun k => k = rv) w2 w3 → (∀ k ∈ M'.foot, k ∈ M.foot ∨ w2.heap.size ≤ k) → Own w3 s 9 1 (ys.map Value.string) → (∀ b, s.blk b → w2.heap.size ≤ b ∧ b ∉ M'.foot) →
      (o.kind = 8 → ys.Perm (M.st.map (·.1)) ∧ ys.Pairwise (fun a b => slt b a = false)) → (o.kind ≠ 8 → ys = [] ∧ s = Sl.nil) →
      StN 51 (some ⟨b2, 0, none⟩) (ansL e false zeros48 s.v).toArray w3 fun w' => LdN 51 (some ⟨b2, 0, none⟩) w' fun r => DoPost w m rv M o (.agg r) w' := by
    intro w3 M' s ys e h1 h2 h3 h4 h5 h6 h7 h8 h9
    have hrv := hlt rv (.inr (.inl rfl))
    refine StN.all (hblk2.ch h4 (by omega)) (ans_size zeros48_len) (ans_one (sl_one s)) (by rw [ans_zero]; exact ans_size zeros48_len) ?_
    intro w4 hb4 hc4 hz4
    refine LdN.all hb4 (ans_size zeros48_len) ?_
    refine ⟨M', s, ys, by rw [h3], h1.ch hc4 fun k hk e => ?_, h2, ?_, fun k hk => (h5 k hk).imp id fun h => by omega, by rw [h3]; exact zeros48_len, h6.ch hc4 fun k hk e => ?_, fun b hb => ⟨by have := (h7 b hb).1; omega, (h7 b hb).2⟩, h8, h9⟩
    · rcases hk with hk | hk | hk
      · have := hlt k (.inl hk); omega
      · have := hlt k (.inr (.inl hk)); omega
      · rcases h5 k hk with h | h
        · have := hlt k (.inr (.inr h)); omega
        · omega
    · exact (hx12.step h4 (fun _ _ h => h.elim) (fun _ _ h => .inl h)).step hc4 (fun _ _ h => h) (fun k hk h => absurd h (by omega))
    · have := (h7 k hk).1; omega
  have nilown : ∀ w3, Own w3 Sl.nil 9 1 (([] : List ByteArray).map Value.string) := fun w3 => Own.nil _ _ _
  have nilblk : ∀ (M' : Vols) b, Sl.nil.blk b → w2.heap.size ≤ b ∧ b ∉ M'.foot := fun M' b ⟨_, h, _⟩ => by cases h
  simp only [addr_add, Nat.zero_add]
  refine Ld.blk hblk1' hk ⟨fun h1 => ?_, fun h1 => ⟨fun h2 => ?_, fun h2 => ?_⟩⟩
  · -- create
    have hk1 : o.kind = 1 := by simpa using h1
    refine Ld.blk hblk1' hnm (Ld.blk hblk1' hqu ?_)
    obtain ⟨w3, e1, e2, e3, e4⟩ := makeMap_run (P := Try.prog) (w := w2) (enc := Value.int .i64) (t := 168)
    refine ⟨some w2.heap.size, w3, e1, _, vol_fill o.quota (some w2.heap.size), ?_⟩
    refine New.mk fun b4 w4 hb4 hs4 hblk4 hx4 => ?_
    have hx24 := e3.trans hx4
    have hva : VolAt w4 b4 w2.heap.size (newVol o) := ⟨hblk4, e2.ext hx4, fun p hp => (by cases hp)⟩
    refine add_then (n := w2.heap.size) (hm2.ext hx24) (fun k hk => by have := hlt k hk; omega) (v := newVol o) hva.top (fun _ => ⟨_, rfl, hva, by omega, Nat.le_refl _, by omega⟩) hn fun w5 M' g1 g2 g3 g4 => ⟨_, rfl, _, ans_fill0 _, ?_⟩
    have hd : doS M.st o = addM M.st o.name (newVol o) 0 := by unfold doS; rw [if_pos hk1]
    exact fin w5 M' Sl.nil [] _ g1 (by rw [hd]; exact g2) (by rw [hd]; rfl) (hx24.step g3 (fun _ _ h => h.elim) (fun _ _ h => h)) g4 (nilown _) (nilblk _) (fun h => by omega) (fun _ => ⟨rfl, rfl⟩)
  · -- delete
    have hk2 : o.kind = 2 := by simpa using h2
    have hdS : doS M.st o = (if (mget M.st o.name).isSome then (mdel M.st o.name, 0, false, zeros48) else (M.st, 5, false, zeros48)) := by unfold doS; rw [if_neg (by omega), if_pos hk2]
    have hd := Ch.drew w2
    have hm3 := hm2.ext hd
    refine ⟨_, rfl, ?_⟩
    refine Ld.blk hm3.top rfl (Ld.blk (hblk1'.ext hd) hnm ?_)
    refine ⟨_, _, lookup_run KeyLaw.names Try.underlying163 Try.ti167 hm3.map o.name, ?_⟩
    rw [Vols.mget_vals]
    rw [Vols.mget_st] at hdS
    cases hg : mget M o.name with
    | none =>
      rw [hg] at hdS
      refine ⟨none, false, rfl, fun _ => ⟨_, ans_fill0 5, ?_⟩, fun h => (by cases h)⟩
      exact fin _ M Sl.nil [] 5 hm3 (by rw [hdS]; rfl) (by rw [hdS]; rfl) (hd.mono fun _ _ h => h.elim) (fun k hk => .inl hk) (nilown _) (nilblk _) (fun h => by omega) (fun _ => ⟨rfl, rfl⟩)
    | some x =>
      rw [hg] at hdS
      refine ⟨some ⟨x.1, 0, none⟩, true, rfl, fun h => (by cases h), fun _ => ⟨_, rfl, ?_⟩⟩
      have hd2 := hd.trans (Ch.drew w2.drew)
      have hm4 := hm2.ext hd2
      refine Ld.blk hm4.top rfl (Ld.blk (hblk1'.ext hd2) hnm ?_)
      obtain ⟨w5, e1, e2, e3, e4⟩ := delete_run (P := Try.prog) (ty := 0) (ts := #[163, 9]) KeyLaw.names rfl Try.underlying163 hm4.map o.name
      refine ⟨_, w5, e1, _, ans_fillE, ?_⟩
      refine fin w5 (mdel M o.name) Sl.nil [] 0 (hm4.del o.name e2 e3) (by rw [hdS, mdel_st]; rfl) (by rw [hdS]; rfl) (hd2.step e3 (fun _ _ h => h.elim) (fun _ _ h => h)) (fun k hk => .inl ((foot_del M o.name).subset hk)) (nilown _) (nilblk _) (fun h => by omega) (fun _ => ⟨rfl, rfl⟩)
  · have hn1 : ¬ o.kind = 1 := by simpa using h1
    have hn2' : ¬ o.kind = 2 := by simpa using h2
    have k0 : f37_k0 (DoPost w m rv M o) (some ⟨m, 0, none⟩) (some ⟨b1, 0, none⟩) (some ⟨b2, 0, none⟩) o.kind false w2 := by
      unfold f37_k0
      have k1 : ∀ t : Bool, t = decide (o.kind = 6 ∨ o.kind = 7) → f37_k1 (DoPost w m rv M o) (some ⟨m, 0, none⟩) (some ⟨b1, 0, none⟩) (some ⟨b2, 0, none⟩) o.kind t w2 := by
        intro t ht
        unfold f37_k1
        refine ⟨fun h67 => ?_, fun h67 => ⟨fun h8 => ?_, fun h8 => ?_⟩⟩
        · have h67' : o.kind = 6 ∨ o.kind = 7 := by rw [h67] at ht; exact of_decide_eq_true ht.symm
          have hdS : doS M.st o = addM M.st o.other (copyV M.st o).1 (copyV M.st o).2 := by unfold doS; rw [if_neg hn1, if_neg hn2', if_neg hb, if_pos h67']
          refine LdN.all hblk1' (OpV.size ho) ?_
          refine model_copied_spec hm2 ho hn2 fun w3 M' g1 g2 g3 g4 => ⟨_, rfl, _, ans_fill0 _, ?_⟩
          exact fin w3 M' Sl.nil [] _ g1 (by rw [hdS]; exact g2) (by rw [hdS]; rfl) g3 g4 (nilown _) (nilblk _) (fun h => by omega) (fun _ => ⟨rfl, rfl⟩)
        · have h8' : o.kind = 8 := by simpa using h8
          have hdS : doS M.st o = (M.st, 0, false, zeros48) := by unfold doS; rw [if_neg hn1, if_neg hn2', if_neg hb, if_neg (by omega), if_pos h8']
          refine ⟨_, rfl, ?_⟩
          simp only [addr_add, Nat.zero_add]
          refine Ld.blk hm2.top rfl ?_
          refine keys_Model hm2.map (fun p hp => by obtain ⟨q, _, rfl⟩ := List.mem_map.1 hp; exact ⟨_, rfl⟩) _ fun fv w3 hseq hx3 => ?_
          have hl : M.vals.length = M.length := by simp [Vols.vals]
          refine sorted_string hseq (by omega) (fun xs hxs => by rw [hxs.length_eq]; simp) _ fun s xs ys w4 hG hperm hsort hown hx4 hfr => ⟨_, rfl, _, ans_fillN s, ?_⟩
          have hx34 := hx3.trans hx4
          refine fin w4 M s ys 0 (hm2.ext hx34) (by rw [hdS]) (by rw [hdS]) (hx34.mono fun _ _ h => h.elim) (fun k hk => .inl hk) hown (fun b hb => ?_) (fun _ => ⟨(hperm.trans hG).trans ?_, hsort⟩) (fun h => absurd h8' h)
          · have h1 := hfr b hb
            have h2 := hx3.size
            refine ⟨by omega, fun hbf => ?_⟩
            have := hlt b (.inr (.inr hbf)); omega
          · have : M.vals.map (·.1) = M.st.map (·.1) := by simp [Vols.vals, Vols.st]
            rw [this]
        · have h8' : ¬ o.kind = 8 := by simpa using h8
          have h67' : ¬ (o.kind = 6 ∨ o.kind = 7) := by rw [h67] at ht; exact of_decide_eq_false ht.symm
          have hdS : doS M.st o = (M.st, 1, false, zeros48) := by unfold doS; rw [if_neg hn1, if_neg hn2', if_neg hb, if_neg h67', if_neg h8']
          exact ⟨_, ans_fill0 1, fin w2 M Sl.nil [] 1 hm2 (by rw [hdS]) (by rw [hdS]) (Ch.refl _ _) (fun k hk => .inl hk) (nilown _) (nilblk _) (fun h => absurd h h8') (fun _ => ⟨rfl, rfl⟩)⟩
      refine ⟨fun h => (by cases h), fun _ => ⟨fun h6 => k1 _ ?_, fun h6 => k1 _ ?_⟩⟩
      · have : o.kind = 6 := by simpa using h6
        simp [this]
      · have : ¬ o.kind = 6 := by simpa using h6
        simp [this]
    refine ⟨fun h3 => ?_, fun h3 => ⟨fun h4 => ?_, fun h4 => ?_⟩⟩
    · have : o.kind = 3 := by simpa using h3
      exact absurd (.inl this) hb
    · have : o.kind = 4 := by simpa using h4
      exact absurd (.inr (.inl this)) hb
    · have : decide (o.kind = 5) = false := by simpa using fun h => hb (.inr (.inr h))
      rw [this]; exact k0
end Go.Proofs
