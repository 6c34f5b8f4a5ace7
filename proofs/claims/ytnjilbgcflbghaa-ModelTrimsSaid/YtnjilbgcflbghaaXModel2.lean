/- model: volumes in memory; find, add, block. -/
import Derived.Test.YtnjilbgcflbghaaXModel1
set_option linter.all false
namespace Go.Proofs
open Go Go.X

structure VolV where
  quota : Int
  frozen : Bool
  blocks : List (Int × List Nat)
def VolV.vals (v : VolV) : List (Int × Value) := v.blocks.map fun p => (p.1, arrV p.2)
/-- A volume in memory. -/
structure VolAt (w : World) (b r : Nat) (v : VolV) : Prop where
  top : Blk w b #[.int .i64 v.quota, .bool v.frozen, .map (some r)] 170
  map : MapB w r (Value.int .i64) v.vals
  len : ∀ p ∈ v.blocks, p.2.length = 48
theorem VolAt.ch {S : Nat → Prop} {w w' : World} {b r : Nat} {v : VolV} (h : VolAt w b r v) (hc : Ch S w w') (h1 : ¬ S b) (h2 : ¬ S r) : VolAt w' b r v := ⟨h.top.ch hc h1, h.map.ch hc h2, h.len⟩
theorem VolAt.ext {w w' : World} {b r : Nat} {v : VolV} (h : VolAt w b r v) (hc : Ext w w') : VolAt w' b r v := h.ch hc id id
/-- Volumes, with their places. -/
abbrev Vols := List (ByteArray × Nat × Nat × VolV)
def Vols.vals (M : Vols) : List (ByteArray × Value) := M.map fun p => (p.1, .pointer (some ⟨p.2.1, 0, none⟩))
def Vols.foot (M : Vols) : List Nat := M.flatMap fun p => [p.2.1, p.2.2.1]
def Vols.st (M : Vols) : List (ByteArray × VolV) := M.map fun p => (p.1, p.2.2.2)
structure MRep (w : World) (m rv : Nat) (M : Vols) : Prop where
  top : Blk w m #[.map (some rv)] 165
  map : MapB w rv Value.string M.vals
  vols : ∀ p ∈ M, VolAt w p.2.1 p.2.2.1 p.2.2.2
  nd : (m :: rv :: M.foot).Nodup
theorem Vols.mem_foot {M : Vols} {k : Nat} : k ∈ M.foot ↔ ∃ p ∈ M, k = p.2.1 ∨ k = p.2.2.1 := by
  simp only [Vols.foot, List.mem_flatMap, List.mem_cons, List.not_mem_nil, or_false]
theorem MRep.ch {S : Nat → Prop} {w w' : World} {m rv : Nat} {M : Vols} (h : MRep w m rv M) (hc : Ch S w w') (hs : ∀ k, k = m ∨ k = rv ∨ k ∈ M.foot → ¬ S k) : MRep w' m rv M :=
  ⟨h.top.ch hc (hs _ (.inl rfl)), h.map.ch hc (hs _ (.inr (.inl rfl))), fun p hp => (h.vols p hp).ch hc (hs _ (.inr (.inr (Vols.mem_foot.2 ⟨p, hp, .inl rfl⟩)))) (hs _ (.inr (.inr (Vols.mem_foot.2 ⟨p, hp, .inr rfl⟩)))), h.nd⟩
theorem MRep.ext {w w' : World} {m rv : Nat} {M : Vols} (h : MRep w m rv M) (hc : Ext w w') : MRep w' m rv M := h.ch hc fun _ _ => id
theorem MRep.lt {w : World} {m rv : Nat} {M : Vols} (h : MRep w m rv M) {k : Nat} (hk : k = m ∨ k = rv ∨ k ∈ M.foot) : k < w.heap.size := by
  rcases hk with rfl | rfl | hk
  · exact h.top.lt
  · exact h.map.lt
  · obtain ⟨p, hp, rfl | rfl⟩ := Vols.mem_foot.1 hk
    · exact (h.vols p hp).top.lt
    · exact (h.vols p hp).map.lt
theorem mget_mem {κ β : Type} [DecidableEq κ] {l : List (κ × β)} {k : κ} {v : β} (h : mget l k = some v) : (k, v) ∈ l := by
  unfold mget at h
  obtain ⟨p, hp, rfl⟩ := Option.map_eq_some_iff.1 h
  have h1 := List.find?_some hp
  have h2 := List.mem_of_find?_eq_some hp
  simp only [decide_eq_true_eq] at h1
  rw [← h1]
  exact h2
theorem Vols.mget_vals (M : Vols) (k : ByteArray) : mget M.vals k = (mget M k).map fun x => .pointer (some ⟨x.1, 0, none⟩) :=
  mget_map M (fun x => .pointer (some ⟨x.1, 0, none⟩)) k
theorem Vols.mget_st (M : Vols) (k : ByteArray) : mget M.st k = (mget M k).map fun x => x.2.2 := by
  unfold Vols.st mget
  induction M with
  | nil => rfl
  | cons p l ih => simp only [List.map_cons, List.find?_cons]; split <;> simp_all
theorem VolV.mget_vals (v : VolV) (k : Int) : mget v.vals k = (mget v.blocks k).map arrV := mget_map v.blocks arrV k
theorem KeyLaw.names : KeyLaw Try.prog 9 Value.string := KeyLaw.string Try.underlying9
theorem KeyLaw.ints : KeyLaw Try.prog 3 (Value.int .i64) := KeyLaw.int Try.underlying3

def findCode (M : Vols) (o : OpV) : Option Nat × Int :=
  match mget M o.name with
  | none => (none, 5)
  | some (b, _, v) => if o.number < 0 ∨ 1048576 ≤ o.number then (none, 2) else if v.frozen = true ∧ o.kind ≠ 5 then (none, 10) else (some b, 0)
theorem model_find_spec {w : World} {m rv : Nat} {M : Vols} {o : OpV} (hm : MRep w m rv M) :
    CallF Try.prog 151 #[.pointer (some ⟨m, 0, none⟩), .agg o.cells] w fun r w' => r = .tuple #[.pointer ((findCode M o).1.map fun b => ⟨b, 0, none⟩), .int .i64 (findCode M o).2] ∧ Ext w w' := by
  refine model_Model_find_ok _ (some ⟨m, 0, none⟩) o.cells w ?_
  unfold model_Model_find
  refine New.mk fun b w1 hb hs1 hblk hext => ⟨_, rfl, ?_⟩
  have hk : o.cells[0]? = some (.int .i64 o.kind) := rfl
  have hnm : o.cells[1]? = some (.string o.name) := rfl
  have hnu : o.cells[3]? = some (.int .i64 o.number) := rfl
  have hd := Ch.drew w1
  have hm1 := (hm.ext hext).ext hd
  have hb1 := hblk.ext hd
  have hx1 := hext.trans hd
  simp only [addr_add, Nat.zero_add]
  refine Ld.blk hm1.top rfl (Ld.blk hb1 hnm ?_)
  refine ⟨_, _, lookup_run KeyLaw.names Try.underlying163 Try.ti167 hm1.map o.name, ?_⟩
  rw [Vols.mget_vals]
  cases hg : mget M o.name with
  | none =>
    refine ⟨none, false, rfl, fun _ => ⟨?_, hx1⟩, fun h => by cases h⟩
    simp [findCode, hg]
  | some x =>
    obtain ⟨vb, vr, v⟩ := x
    refine ⟨some ⟨vb, 0, none⟩, true, rfl, fun h => (by cases h), fun _ => ?_⟩
    have hv := hm1.vols _ (mget_mem hg)
    simp only at hv
    have hgo : ∀ t : Bool, t = decide (o.number < 0 ∨ 1048576 ≤ o.number) → model_Model_find_k0 (fun r w' => r = .tuple #[.pointer ((findCode M o).1.map fun b => ⟨b, 0, none⟩), .int .i64 (findCode M o).2] ∧ Ext w w') (some ⟨b, 0, none⟩) (some ⟨vb, 0, none⟩) t (World.drew w1) := by
      intro t ht
      unfold model_Model_find_k0
      refine ⟨fun h1 => ⟨?_, hx1⟩, fun h1 => ⟨_, rfl, ?_⟩⟩
      · rw [h1] at ht
        have ht' : o.number < 0 ∨ 1048576 ≤ o.number := by simpa using ht.symm
        simp [findCode, hg, ht']
      have ht' : ¬ (o.number < 0 ∨ 1048576 ≤ o.number) := by rw [h1] at ht; simpa using ht.symm
      simp only [addr_add, Nat.zero_add]
      have hgo2 : ∀ t : Bool, t = decide (v.frozen = true ∧ o.kind ≠ 5) → model_Model_find_k1 (fun r w' => r = .tuple #[.pointer ((findCode M o).1.map fun b => ⟨b, 0, none⟩), .int .i64 (findCode M o).2] ∧ Ext w w') (some ⟨vb, 0, none⟩) t (World.drew w1) := by
        intro t ht
        unfold model_Model_find_k1
        refine ⟨fun h1 => ⟨?_, hx1⟩, fun h1 => ⟨?_, hx1⟩⟩
        · rw [h1] at ht
          have h2 : v.frozen = true ∧ o.kind ≠ 5 := by simpa using ht.symm
          simp [findCode, hg, ht', h2]
        · rw [h1] at ht
          have h2 : ¬ (v.frozen = true ∧ o.kind ≠ 5) := by simpa using ht.symm
          simp only [findCode, hg, if_neg ht', if_neg h2]
          rfl
      refine Ld.blk hv.top rfl ⟨fun hf => ⟨_, rfl, ?_⟩, fun hf => hgo2 _ ?_⟩
      · simp only [addr_add, Nat.zero_add]
        refine Ld.blk hb1 hk (hgo2 _ ?_)
        simp [hf]
      · simp [hf]
    refine Ld.blk hb1 hnu ⟨fun h1 => hgo _ ?_, fun h1 => Ld.blk hb1 hnu (hgo _ ?_)⟩
    · have : o.number < 0 := by simpa using h1
      simp [this]
    · have : ¬ o.number < 0 := by simpa using h1
      simp [this]

def addCode (M : Vols) (name : ByteArray) (v : VolV) (code : Int) : Int :=
  if namedB name = false ∨ v.quota < 0 ∨ 1048576 < v.quota then 1 else if code ≠ 0 then code else if (mget M name).isSome then 6 else if v.quota < v.blocks.length then 8 else 0
theorem mset_new {κ β : Type} [DecidableEq κ] {l : List (κ × β)} {k : κ} {v : β} (h : mget l k = none) : mset l k v = l ++ [(k, v)] := by
  unfold mset
  rw [if_neg]
  intro hc
  unfold mget at h
  rw [Option.map_eq_none_iff, List.find?_eq_none] at h
  simp only [List.contains_eq_mem, List.mem_map, decide_eq_true_eq] at hc
  obtain ⟨p, hp, rfl⟩ := hc
  exact h p hp (by simp)
/-- add: a code; when it is 0 the volume is there. -/
theorem model_add_spec {w : World} {m rv b : Nat} {ro : Option Nat} {M : Vols} {name : ByteArray} {v : VolV} {code : Int} (hm : MRep w m rv M) (hv : Blk w b #[.int .i64 v.quota, .bool v.frozen, .map ro] 170)
    (hr : code = 0 → ∃ r, ro = some r ∧ VolAt w b r v ∧ (m :: rv :: (M ++ [(name, b, r, v)] : Vols).foot).Nodup) (hn : name.size ≤ 1073741824) :
    CallF Try.prog 92 #[.pointer (some ⟨m, 0, none⟩), .string name, .pointer (some ⟨b, 0, none⟩), .int .i64 code] w fun c w' =>
      c = .int .i64 (addCode M name v code) ∧ Ch (· = rv) w w' ∧ (addCode M name v code ≠ 0 → MRep w' m rv M) ∧ (addCode M name v code = 0 → ∀ r, ro = some r → MRep w' m rv (M ++ [(name, b, r, v)])) := by
  refine model_Model_add_ok _ (some ⟨m, 0, none⟩) name (some ⟨b, 0, none⟩) code w ?_
  unfold model_Model_add
  refine ⟨_, rfl, ?_⟩
  simp only [addr_add, Nat.zero_add]
  refine Ld.blk hm.top rfl ⟨_, _, lookup_run KeyLaw.names Try.underlying163 Try.ti167 hm.map name, ?_⟩
  rw [Vols.mget_vals]
  generalize hres : (fun (c : Value) (w' : World) => c = .int .i64 (addCode M name v code) ∧ Ch (· = rv) w w' ∧ (addCode M name v code ≠ 0 → MRep w' m rv M) ∧ (addCode M name v code = 0 → ∀ r, ro = some r → MRep w' m rv (M ++ [(name, b, r, v)]))) = R
  have hgo : ∀ t : Bool, t = decide (namedB name = false ∨ v.quota < 0 ∨ 1048576 < v.quota) → model_Model_add_k0 R (some ⟨m, 0, none⟩) name (some ⟨b, 0, none⟩) code (mget M name).isSome t w := by
    intro t ht
    subst hres
    unfold model_Model_add_k0
    have hend : ∀ c : Int, addCode M name v code = c → c ≠ 0 → ∀ w', Ext w w' → (Value.int .i64 c = .int .i64 (addCode M name v code) ∧ Ch (· = rv) w w' ∧ (addCode M name v code ≠ 0 → MRep w' m rv M) ∧ (addCode M name v code = 0 → ∀ r, ro = some r → MRep w' m rv (M ++ [(name, b, r, v)]))) := by
      intro c hc h0 w' hx
      subst hc
      exact ⟨rfl, hx.mono fun _ _ h => h.elim, fun _ => hm.ext hx, fun h => absurd h h0⟩
    refine ⟨fun h1 => ?_, fun h1 => ?_⟩
    · rw [h1] at ht
      have ht' := of_decide_eq_true ht.symm
      exact hend 1 (by simp [addCode, ht']) (by decide) w (Ch.refl _ _)
    have ht' : ¬ (namedB name = false ∨ v.quota < 0 ∨ 1048576 < v.quota) := by rw [h1] at ht; exact of_decide_eq_false ht.symm
    refine ⟨fun h2 => ?_, fun h2 => ?_⟩
    · have : code ≠ 0 := by simpa using h2
      exact hend code (by simp only [addCode, if_neg ht', if_pos this]) this w (Ch.refl _ _)
    have hc0 : code = 0 := by simpa using h2
    refine ⟨fun h3 => ?_, fun h3 => ⟨_, rfl, ?_⟩⟩
    · exact hend 6 (by simp only [addCode, if_neg ht', hc0, ne_eq, not_true_eq_false, if_false, h3, if_true]) (by decide) w (Ch.refl _ _)
    have hno : mget M name = none := by simpa using h3
    obtain ⟨r, rfl, hva, hnd⟩ := hr hc0
    have hd := Ch.drew w
    have hva1 := hva.ext hd
    have hm1 := hm.ext hd
    simp only [addr_add, Nat.zero_add]
    refine Ld.blk hva1.top rfl ⟨_, rfl, ?_⟩
    simp only [addr_add, Nat.zero_add]
    refine LdH.blk hva1.top rfl ⟨_, _, len_run Try.underlying168 hva1.map, ?_⟩
    refine ⟨hva1.top.cell rfl, fun h4 => ?_, fun h4 => ⟨_, rfl, ?_⟩⟩
    · have : v.quota < v.blocks.length := by simpa [VolV.vals] using h4
      exact hend 8 (by simp only [addCode, if_neg ht', hc0, ne_eq, not_true_eq_false, if_false, hno, Option.isSome_none, Bool.false_eq_true, if_pos this]) (by decide) _ hd
    · have h4' : ¬ v.quota < v.blocks.length := by simpa [VolV.vals] using h4
      have hcode : addCode M name v code = 0 := by simp only [addCode, if_neg ht', hc0, ne_eq, not_true_eq_false, if_false, hno, Option.isSome_none, Bool.false_eq_true, if_neg h4']
      simp only [addr_add, Nat.zero_add]
      refine Ld.blk hm1.top rfl ?_
      obtain ⟨w', e1, e2, e3, e4⟩ := mapUpdate_run (P := Try.prog) KeyLaw.names Try.underlying163 hm1.map name (.pointer (some ⟨b, 0, none⟩))
      refine ⟨w', e1, ?_⟩
      refine ⟨by rw [hcode], hd.step e3 (fun _ _ h => h.elim) (fun _ _ h => h), fun h => absurd hcode h, fun _ r' hr' => ?_⟩
      obtain rfl : r = r' := by simpa using hr'
      have hnotrv : ∀ k, k = m ∨ k ∈ (M ++ [(name, b, r, v)] : Vols).foot → ¬ k = rv := by
        rintro k hk rfl
        rw [List.nodup_cons, List.nodup_cons] at hnd
        rcases hk with rfl | hk
        · exact hnd.1 (by simp)
        · exact hnd.2.1 hk
      refine ⟨hm1.top.ch e3 (hnotrv _ (.inl rfl)), ?_, fun p hp => ?_, hnd⟩
      · have : mset M.vals name (.pointer (some ⟨b, 0, none⟩)) = (M ++ [(name, b, r, v)] : Vols).vals := by
          rw [mset_new (by rw [Vols.mget_vals, hno]; rfl)]
          simp [Vols.vals]
        rw [← this]
        exact e2
      · have hpf : ∀ k, k = p.2.1 ∨ k = p.2.2.1 → ¬ k = rv := fun k hk => hnotrv k (.inr (Vols.mem_foot.2 ⟨p, hp, hk⟩))
        rcases List.mem_append.1 hp with hp | hp
        · exact (hm1.vols p hp).ch e3 (hpf _ (.inl rfl)) (hpf _ (.inr rfl))
        · simp only [List.mem_singleton] at hp
          subst hp
          exact hva1.ch e3 (hpf _ (.inl rfl)) (hpf _ (.inr rfl))
  have hsome : ∃ pt, (Value.tuple #[((mget M name).map fun x => Value.pointer (some ⟨x.1, 0, none⟩)).getD (.pointer none), .bool ((mget M name).map fun x => Value.pointer (some ⟨x.1, 0, none⟩)).isSome]) = .tuple #[.pointer pt, .bool (mget M name).isSome] := by
    cases mget M name with
    | none => exact ⟨none, rfl⟩
    | some x => exact ⟨_, rfl⟩
  obtain ⟨pt, hpt⟩ := hsome
  refine ⟨pt, (mget M name).isSome, hpt, ?_⟩
  refine (model_named_spec hn).mono ?_
  rintro _ _ ⟨rfl, rfl⟩
  refine ⟨_, rfl, fun h1 => hgo _ ?_, fun h1 => ⟨_, rfl, ?_⟩⟩
  · have : namedB name = false := by simpa using h1
    simp [this]
  have hnb : namedB name = true := by simpa using h1
  simp only [addr_add, Nat.zero_add]
  refine Ld.blk hv rfl ⟨fun h2 => hgo _ ?_, fun h2 => ⟨_, rfl, ?_⟩⟩
  · have : v.quota < 0 := by simpa using h2
    simp [this]
  simp only [addr_add, Nat.zero_add]
  refine Ld.blk hv rfl (hgo _ ?_)
  have : ¬ v.quota < 0 := by simpa using h2
  simp [this, hnb]
end Go.Proofs
