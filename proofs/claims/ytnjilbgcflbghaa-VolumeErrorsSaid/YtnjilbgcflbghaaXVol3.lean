/- volume: Get, change, Put, Drop, Copy. -/
import Derived.Test.YtnjilbgcflbghaaXF0
import Derived.Test.YtnjilbgcflbghaaXF1
import Derived.Test.YtnjilbgcflbghaaXVol2
set_option linter.all false
set_option maxHeartbeats 4000000
set_option maxRecDepth 100000
namespace Go.Proofs
open Go Go.X
theorem dg_ret {u : World} {a : Nat} {cs : Array Value} {e : TypeId} (hb : Blk u a cs e) (hcs : cs.size = 32) {d : List Nat} (hd : d.length = 32) {K : Array Value → World → Prop} (k : ∀ u', Blk u' a (u8s d).toArray e → Ch (· = a) u u' → K (u8s d).toArray u') :
    StN 32 (some ⟨a, 0, none⟩) (u8s d).toArray u fun w => LdN 32 (some ⟨a, 0, none⟩) w fun r => K r w := by
  refine StN.all hb (by simp [hd]) (fun v hv => u8s_one _ v (by simpa using hv)) hcs ?_
  intro w2 hb2 hc2 hz2
  exact LdN.all hb2 (by simp [hd]) (k w2 hb2 hc2)
theorem dg_zero {K : Array Value → Prop} (k : K (u8s zeros32).toArray) : BuiltA 1 Try.z24 [] K := ⟨_, rfl, k⟩
theorem dg_st {u : World} {a : Nat} {cs : Array Value} {e : TypeId} (hb : Blk u a cs e) (hcs : cs.size = 32) {d : List Nat} (hd : d.length = 32) {K : World → Prop} (k : ∀ u', Blk u' a (u8s d).toArray e → Ch (· = a) u u' → K u') : StN 32 (some ⟨a, 0, none⟩) (u8s d).toArray u K := by
  refine StN.all hb (by simp [hd]) (fun v hv => u8s_one _ v (by simpa using hv)) hcs ?_
  intro w2 hb2 hc2 hz2
  exact k w2 hb2 hc2
def vGet (M : St) (n : ByteArray) (k : Int) : List Nat × Bool × Int :=
  match mget M n with
  | none => (zeros32, false, 5)
  | some v => if k < 0 ∨ 1048576 ≤ k then (zeros32, false, 2) else ((mget v.blocks k).getD zeros32, (mget v.blocks k).isSome, 0)
def vChange (M : St) (n : ByteArray) (k : Int) : List Nat × Bool × Int :=
  if (vGet M n k).2.2 = 0 ∧ ((mget M n).map (·.frozen)).getD false = true then (zeros32, false, 10) else vGet M n k
def vPut (M : St) (n : ByteArray) (k : Int) (d : List Nat) : St × List Nat × Bool × Int :=
  if (vChange M n k).2.2 ≠ 0 then (M, vChange M n k) else
    match mget M n with
    | none => (M, vChange M n k)
    | some v => if (vChange M n k).2.1 = false ∧ v.quota ≤ v.blocks.length then (M, (vChange M n k).1, (vChange M n k).2.1, 8) else (setS M n { v with blocks := mset v.blocks k d }, (vChange M n k).1, (vChange M n k).2.1, 0)
def vDrop (M : St) (n : ByteArray) (k : Int) : St × List Nat × Bool × Int :=
  if (vChange M n k).2.2 ≠ 0 then (M, vChange M n k) else
    match mget M n with
    | none => (M, vChange M n k)
    | some v => (setS M n { v with blocks := mdel v.blocks k }, vChange M n k)
theorem VRep.get {w : World} {s rv : Nat} {M : VMs} (h : VRep w s rv M) {n : ByteArray} {v : VolV} (hg : mget M.st n = some v) : ∃ r, mget M n = some (r, v) := by
  rw [VMs.mget_st] at hg
  obtain ⟨x, hx, rfl⟩ := Option.map_eq_some_iff.1 hg
  exact ⟨x.1, hx⟩
theorem vGet_len {M : St} (hl : ∀ p ∈ M, ∀ b ∈ p.2.blocks, b.2.length = 32) (n : ByteArray) (k : Int) : (vGet M n k).1.length = 32 := by
  unfold vGet
  cases hg : mget M n with
  | none => rfl
  | some v =>
    dsimp only
    split
    · rfl
    · cases hb : mget v.blocks k with
      | none => rfl
      | some b => exact hl _ (mget_mem hg) _ (mget_mem hb)
theorem VRep.len_st {w : World} {s rv : Nat} {M : VMs} (h : VRep w s rv M) : ∀ p ∈ M.st, ∀ b ∈ p.2.blocks, b.2.length = 32 := by
  intro p hp
  obtain ⟨q, hq, rfl⟩ := List.mem_map.1 hp
  exact h.len q hq
theorem vChange_len {M : St} (hl : ∀ p ∈ M, ∀ b ∈ p.2.blocks, b.2.length = 32) (n : ByteArray) (k : Int) : (vChange M n k).1.length = 32 := by
  unfold vChange
  split
  · rfl
  · exact vGet_len hl n k
theorem blocks_look {w : World} {r : Nat} {v : VolV} (h : MapB w r (Value.int .i64) v.vals) (k : Int) :
    (Instr.lookup 181 (.map (some r)) (.int .i64 k) true).run Try.prog w = .ok (.tuple #[.agg (u8s ((mget v.blocks k).getD zeros32)).toArray, .bool (mget v.blocks k).isSome]) w ∧
    (Instr.lookup 181 (.map (some r)) (.int .i64 k) false).run Try.prog w = .ok (.agg (u8s ((mget v.blocks k).getD zeros32)).toArray) w := by
  have h1 := lookup_run (P := Try.prog) KeyLaw.ints Try.underlying181 Try.ti24 h k
  have h2 := lookup_run1 (P := Try.prog) KeyLaw.ints Try.underlying181 Try.ti24 h k
  rw [VolV.mget_vals] at h1 h2
  cases hg : mget v.blocks k with
  | none => rw [hg] at h1 h2; exact ⟨h1, h2⟩
  | some b => rw [hg] at h1 h2; exact ⟨h1, h2⟩
theorem Get_spec {w : World} {s rv : Nat} {M : VMs} (h : VRep w s rv M) (n : ByteArray) (kk : Int) {R : Value → World → Prop} (k : ∀ w', Ext w w' → R (.tuple #[.agg (u8s (vGet M.st n kk).1).toArray, .bool (vGet M.st n kk).2.1, .int .i64 (vGet M.st n kk).2.2]) w') :
    CallF Try.prog 160 #[.pointer (some ⟨s, 0, none⟩), .string n, .int .i64 kk] w R := by
  refine f160_ok R _ n kk w ?_
  unfold f160
  refine New.mk fun a w1 ha hs1 hb1 hx1 => ?_
  refine has_spec (h.ext hx1) n fun w2 hx2 => ⟨_, rfl, fun hh => ?_, fun hh => ?_⟩
  · have hh : (mget M.st n).isSome = false := by simpa using hh
    have hg : mget M.st n = none := by cases hg : mget M.st n with | none => rfl | some v => rw [hg] at hh; cases hh
    refine dg_zero (dg_ret (hb1.ext hx2) rfl zeros32_len fun w3 _ c3 => ?_)
    have := k w3 ((hx1.trans hx2).step c3 (fun _ _ h => h.elim) fun j hj e => by have e : j = a := e; omega)
    unfold vGet at this
    rw [hg] at this
    exact this
  have hh : (mget M.st n).isSome = true := by simpa using hh
  obtain ⟨v, hg⟩ := Option.isSome_iff_exists.1 hh
  obtain ⟨r, hgr⟩ := h.get hg
  have hv : vGet M.st n kk = if kk < 0 ∨ 1048576 ≤ kk then (zeros32, false, 2) else ((mget v.blocks kk).getD zeros32, (mget v.blocks kk).isSome, 0) := by unfold vGet; rw [hg]
  have hx12 := hx1.trans hx2
  have h2 := h.ext hx12
  have k0 : ∀ t : Bool, t = decide (kk < 0 ∨ 1048576 ≤ kk) → f160_k0 R (some ⟨s, 0, none⟩) n kk (some ⟨a, 0, none⟩) t w2 := fun t ht => by
    unfold f160_k0
    refine ⟨fun hc => ?_, fun hc => ?_⟩
    · rw [hc] at ht
      refine dg_zero (dg_ret (hb1.ext hx2) rfl zeros32_len fun w3 _ c3 => ?_)
      have := k w3 (hx12.step c3 (fun _ _ h => h.elim) fun j hj e => by have e : j = a := e; omega)
      rw [hv, if_pos (of_decide_eq_true ht.symm)] at this
      exact this
    · rw [hc] at ht
      rw [if_neg (of_decide_eq_false ht.symm)] at hv
      refine ⟨_, rfl, ?_⟩
      simp only [addr_add, Nat.zero_add]
      refine Ld.blk h2.top rfl ?_
      obtain ⟨c, _, _, hc1, _, _, hl⟩ := vol_look h2 n
      refine ⟨c, w2, hl, some r, by rw [hc1 _ hgr]; rfl, ?_⟩
      refine ⟨_, w2, (blocks_look (h2.vols _ (mget_mem hgr)) kk).1, _, _, rfl, ?_⟩
      have hl32 : ((mget v.blocks kk).getD zeros32).length = 32 := by
        have := vGet_len h.len_st n kk
        rw [hv] at this; exact this
      refine New.mk fun a2 w3 ha2 hs3 hb3 hx3 => ?_
      refine dg_st hb3 rfl hl32 fun w4 hb4 c4 => ?_
      have hsz2 := hx2.size
      refine LdN.all hb4 (by simp [hl32]) ?_
      have x24 : Ext w2 w4 := hx3.step c4 (fun _ _ h => h.elim) fun j hj e => by have e : j = a2 := e; omega
      refine dg_ret (((hb1.ext hx2).ext x24)) rfl hl32 fun w5 _ c5 => ?_
      have := k w5 ((hx12.trans x24).step c5 (fun _ _ h => h.elim) fun j hj e => by have e : j = a := e; omega)
      rw [hv] at this
      exact this
  refine ⟨fun hc => ?_, fun hc => ?_⟩
  · have hc : kk < 0 := by simpa using hc
    exact k0 true (decide_eq_true (.inl hc)).symm
  · have hc : ¬ kk < 0 := by simpa using hc
    refine k0 _ ?_
    congr 1
    exact propext ⟨.inr, fun h => h.resolve_left hc⟩
theorem change_spec {w : World} {s rv : Nat} {M : VMs} (h : VRep w s rv M) (n : ByteArray) (kk : Int) {R : Value → World → Prop} (k : ∀ w', Ext w w' → R (.tuple #[.agg (u8s (vChange M.st n kk).1).toArray, .bool (vChange M.st n kk).2.1, .int .i64 (vChange M.st n kk).2.2]) w') :
    CallF Try.prog 100 #[.pointer (some ⟨s, 0, none⟩), .string n, .int .i64 kk] w R := by
  refine f100_ok R _ n kk w ?_
  unfold f100
  refine New.mk fun a w1 ha hs1 hb1 hx1 => ?_
  refine Get_spec (h.ext hx1) n kk fun w2 hx2 => ⟨_, _, _, rfl, ?_⟩
  have hl32 := vGet_len h.len_st n kk
  refine New.mk fun a2 w3 ha2 hs3 hb3 hx3 => ?_
  refine dg_st hb3 rfl hl32 fun w4 hb4 c4 => ?_
  have hsz2 := hx2.size
  have x24 : Ext w2 w4 := hx3.step c4 (fun _ _ h => h.elim) fun j hj e => by have e : j = a2 := e; omega
  have x4 := (hx1.trans hx2).trans x24
  have hb14 := (hb1.ext hx2).ext x24
  have h4 := h.ext x4
  have fin : ∀ t : Bool, vChange M.st n kk = (if t then (zeros32, false, 10) else vGet M.st n kk) → f100_k0 R (some ⟨a, 0, none⟩) (some ⟨a2, 0, none⟩) (vGet M.st n kk).2.1 (vGet M.st n kk).2.2 t w4 := fun t ht => by
    unfold f100_k0
    refine ⟨fun hc => ?_, fun hc => ?_⟩
    · rw [hc] at ht
      refine dg_zero (dg_ret hb14 rfl zeros32_len fun w5 _ c5 => ?_)
      have := k w5 (x4.step c5 (fun _ _ h => h.elim) fun j hj e => by have e : j = a := e; omega)
      rw [ht] at this; exact this
    · rw [hc] at ht
      refine LdN.all hb4 (by simp [hl32]) ?_
      refine dg_ret hb14 rfl hl32 fun w5 _ c5 => ?_
      have := k w5 (x4.step c5 (fun _ _ h => h.elim) fun j hj e => by have e : j = a := e; omega)
      rw [ht] at this; exact this
  refine ⟨fun he => ?_, fun he => ?_⟩
  · have he : (vGet M.st n kk).2.2 = 0 := by simpa using he
    have hs : ∃ v, mget M.st n = some v := by
      cases hg : mget M.st n with
      | some v => exact ⟨v, rfl⟩
      | none => unfold vGet at he; rw [hg] at he; cases he
    obtain ⟨v, hg⟩ := hs
    obtain ⟨r, hgr⟩ := h.get hg
    refine ⟨_, rfl, ?_⟩
    simp only [addr_add, Nat.zero_add]
    refine Ld.blk h4.top rfl ?_
    obtain ⟨c, _, _, hc1, _, _, hl⟩ := vol_look h4 n
    refine ⟨c, w4, hl, v.frozen, by rw [hc1 _ hgr]; rfl, fin _ ?_⟩
    unfold vChange
    rw [hg]
    cases hf : v.frozen <;> simp [he, hf]
  · have he : ¬ (vGet M.st n kk).2.2 = 0 := by simpa using he
    refine fin false ?_
    unfold vChange
    rw [if_neg (fun h => he h.1)]; rfl
theorem vChange_some {M : St} {n : ByteArray} {k : Int} (h : (vChange M n k).2.2 = 0) : ∃ v, mget M n = some v ∧ vChange M n k = vGet M n k ∧ v.frozen = false ∧ ¬(k < 0 ∨ 1048576 ≤ k) := by
  have e : vChange M n k = vGet M n k := by
    unfold vChange at h ⊢
    split at h
    · cases h
    · rename_i hh; rw [if_neg hh]
  have h' := h
  rw [e] at h'
  cases hg : mget M n with
  | none => unfold vGet at h'; rw [hg] at h'; cases h'
  | some v =>
    refine ⟨v, rfl, e, ?_, ?_⟩
    · cases hf : v.frozen with
      | false => rfl
      | true =>
        unfold vChange at h
        rw [if_pos ⟨h', by rw [hg]; exact hf⟩] at h
        cases h
    · unfold vGet at h'
      rw [hg] at h'
      dsimp only at h'
      split at h'
      · cases h'
      · assumption
theorem mset_b32 {l : List (Int × List Nat)} (h : ∀ b ∈ l, b.2.length = 32) {k : Int} {d : List Nat} (hd : d.length = 32) : ∀ b ∈ mset l k d, b.2.length = 32 := by
  intro b hb
  unfold mset at hb
  split at hb
  · obtain ⟨p, hp, rfl⟩ := List.mem_map.1 hb
    split
    · exact hd
    · exact h p hp
  · rcases List.mem_append.1 hb with hb | hb
    · exact h b hb
    · simp only [List.mem_singleton] at hb; subst hb; exact hd
theorem Put_spec {w : World} {s rv : Nat} {M : VMs} (h : VRep w s rv M) (n : ByteArray) (kk : Int) {d : List Nat} (hd : d.length = 32) {R : Value → World → Prop}
    (k : VPost w s rv M (vPut M.st n kk d).1 fun w' => R (.tuple #[.agg (u8s (vPut M.st n kk d).2.1).toArray, .bool (vPut M.st n kk d).2.2.1, .int .i64 (vPut M.st n kk d).2.2.2]) w') :
    CallF Try.prog 42 #[.pointer (some ⟨s, 0, none⟩), .string n, .int .i64 kk, .agg (u8s d).toArray] w R := by
  refine f42_ok R _ n kk _ w ?_
  unfold f42
  refine New.mk fun a1 w1 ha1 hs1 hb1 hx1 => New.mk fun a2 w2 ha2 hs2 hb2 hx2 => ?_
  have hx12 := hx1.trans hx2
  refine change_spec (h.ext hx12) n kk fun w3 hx3 => ⟨_, _, _, rfl, ?_⟩
  have hl32 := vChange_len h.len_st n kk
  refine New.mk fun a3 w4 ha3 hs4 hb4 hx4 => ?_
  refine dg_st hb4 rfl hl32 fun w5 hb5 c5 => ?_
  have hsz3 := hx3.size
  have x35 : Ext w3 w5 := hx4.step c5 (fun _ _ h => h.elim) fun j hj e => by have e : j = a3 := e; omega
  have x25 := hx3.trans x35
  have x5 := hx12.trans x25
  have hb15 := (hb1.ext hx2).ext x25
  have hb25 := hb2.ext x25
  have h5 := h.ext x5
  have hsz5 := x35.size
  refine ⟨fun he => ?_, fun he => ?_⟩
  · have he : ¬ (vChange M.st n kk).2.2 = 0 := by simpa using he
    refine LdN.all hb5 (by simp [hl32]) (dg_ret hb25 rfl hl32 fun w6 _ c6 => ?_)
    unfold vPut at k
    rw [if_pos he] at k
    exact k.same h (x5.step c6 (fun _ _ h => h.elim) fun j hj e => by have e : j = a2 := e; omega)
  have he : (vChange M.st n kk).2.2 = 0 := by simpa using he
  obtain ⟨v, hg, _, hfz, hrange⟩ := vChange_some he
  obtain ⟨r, hgr⟩ := h.get hg
  have hmem := mget_mem hgr
  have hrr : r ∈ M.refs := List.mem_map.2 ⟨_, hmem, rfl⟩
  have hrlt := h.lt (.inr (.inr hrr))
  unfold vPut at k
  rw [if_neg (by simp [he]), hg] at k
  dsimp only at k
  refine ⟨_, rfl, ?_⟩
  simp only [addr_add, Nat.zero_add]
  refine Ld.blk h5.top rfl ?_
  obtain ⟨c, hcs, hco, hc1, _, _, hl⟩ := vol_look h5 n
  have hc1 := hc1 _ hgr
  subst hc1
  refine ⟨_, w5, hl, ?_⟩
  refine New.mk fun a4 w6 ha4 hs6 hb6 hx6 => ?_
  refine StN.all hb6 hcs hco rfl ?_
  intro w7 hb7 c7 hz7
  have x57 : Ext w5 w7 := hx6.step c7 (fun _ _ h => h.elim) fun j hj e => by have e : j = a4 := e; omega
  have x7 := x5.trans x57
  have h7 := h.ext x7
  have hb17 := hb15.ext x57
  have hb27 := hb25.ext x57
  have hb57 := hb5.ext x57
  have hz57 := x57.size
  have fin : ∀ t : Bool, t = decide ((vChange M.st n kk).2.1 = false ∧ v.quota ≤ v.blocks.length) → f42_k0 R kk (some ⟨a1, 0, none⟩) (some ⟨a2, 0, none⟩) (some ⟨a3, 0, none⟩) (vChange M.st n kk).2.1 (some ⟨a4, 0, none⟩) t w7 := fun t ht => by
    unfold f42_k0
    refine ⟨fun hc => ?_, fun hc => ?_⟩
    · rw [hc] at ht
      rw [if_pos (of_decide_eq_true ht.symm)] at k
      refine LdN.all hb57 (by simp [hl32]) (dg_ret hb27 rfl hl32 fun w8 _ c8 => ?_)
      exact k.same h (x7.step c8 (fun _ _ h => h.elim) fun j hj e => by have e : j = a2 := e; omega)
    · rw [hc] at ht
      rw [if_neg (of_decide_eq_false ht.symm)] at k
      refine ⟨_, rfl, ?_⟩
      simp only [addr_add, Nat.zero_add]
      refine Ld.blk hb7 rfl (LdN.all hb17 (by simp [hd]) ?_)
      have hmp := h7.vols _ hmem
      obtain ⟨w8, e1, e2, e3, e4⟩ := mapUpdate_run (P := Try.prog) KeyLaw.ints Try.underlying181 hmp kk (.agg (u8s d).toArray)
      refine ⟨w8, e1, ?_⟩
      have hnew : MapB w8 r (Value.int .i64) (VolV.vals { v with blocks := mset v.blocks kk d }) := by
        have : mset v.vals kk (arrV d) = VolV.vals { v with blocks := mset v.blocks kk d } := mset_map v.blocks arrV kk d
        rw [← this]; exact e2
      have h8 := h7.upd hgr (v' := { v with blocks := mset v.blocks kk d }) rfl rfl (mset_b32 (h.len _ hmem) hd) hnew e3
      have hne : ∀ j, w.heap.size ≤ j → j ≠ r := fun j hj e => by omega
      refine LdN.all (hb57.ch e3 (hne a3 (by omega))) (by simp [hl32]) (dg_ret (hb27.ch e3 (hne a2 (by omega))) rfl hl32 fun w9 _ c9 => ?_)
      have hne2 : ∀ k, k = s ∨ k = rv ∨ k ∈ (updR M n { v with blocks := mset v.blocks kk d }).refs → ¬ k = a2 := fun k hk e => by
        rw [updR_refs] at hk
        have := h.lt hk; omega
      refine k w9 _ (h8.ch c9 hne2) (updR_st _ _ _) ?_ fun j hj => by rw [updR_refs] at hj; exact .inl hj
      refine ((x7.mono fun _ _ h => h.elim).step e3 (fun _ _ h => h) fun j hj e => .inr (by have e : j = r := e; rw [e]; exact hrr)).step c9 (fun _ _ h => h) fun j hj e => by have e : j = a2 := e; omega
  refine ⟨fun hok => ?_, fun hok => ?_⟩
  · have hok : (vChange M.st n kk).2.1 = false := by simpa using hok
    refine Ld.blk hb7 rfl ?_
    refine ⟨_, w7, len_run Try.underlying181 (h7.vols _ hmem), ?_⟩
    refine Ld.blk hb7 (x := v.quota) rfl (fin _ ?_)
    congr 1
    have : v.vals.length = v.blocks.length := by simp [VolV.vals]
    rw [this]
    exact propext ⟨fun h => ⟨hok, h⟩, fun h => h.2⟩
  · have hok : (vChange M.st n kk).2.1 = true := by simpa using hok
    refine fin false ?_
    rw [decide_eq_false (fun h => by rw [hok] at h; cases h.1)]
theorem Drop_spec {w : World} {s rv : Nat} {M : VMs} (h : VRep w s rv M) (n : ByteArray) (kk : Int) {R : Value → World → Prop}
    (k : VPost w s rv M (vDrop M.st n kk).1 fun w' => R (.tuple #[.agg (u8s (vDrop M.st n kk).2.1).toArray, .bool (vDrop M.st n kk).2.2.1, .int .i64 (vDrop M.st n kk).2.2.2]) w') :
    CallF Try.prog 43 #[.pointer (some ⟨s, 0, none⟩), .string n, .int .i64 kk] w R := by
  refine f43_ok R _ n kk w ?_
  unfold f43
  refine New.mk fun a2 w2 ha2 hs2 hb2 hx2 => ?_
  refine change_spec (h.ext hx2) n kk fun w3 hx3 => ⟨_, _, _, rfl, ?_⟩
  have hl32 := vChange_len h.len_st n kk
  refine New.mk fun a3 w4 ha3 hs4 hb4 hx4 => ?_
  refine dg_st hb4 rfl hl32 fun w5 hb5 c5 => ?_
  have hsz3 := hx3.size
  have x35 : Ext w3 w5 := hx4.step c5 (fun _ _ h => h.elim) fun j hj e => by have e : j = a3 := e; omega
  have x25 := hx3.trans x35
  have x5 := hx2.trans x25
  have hb25 := hb2.ext x25
  have h5 := h.ext x5
  have hsz5 := x35.size
  refine ⟨fun he => ?_, fun he => ?_⟩
  · have he : (vChange M.st n kk).2.2 = 0 := by simpa using he
    obtain ⟨v, hg, _, hfz, hrange⟩ := vChange_some he
    obtain ⟨r, hgr⟩ := h.get hg
    have hmem := mget_mem hgr
    have hrr : r ∈ M.refs := List.mem_map.2 ⟨_, hmem, rfl⟩
    have hrlt := h.lt (.inr (.inr hrr))
    unfold vDrop at k
    rw [if_neg (by simp [he]), hg] at k
    dsimp only at k
    refine ⟨_, rfl, ?_⟩
    simp only [addr_add, Nat.zero_add]
    refine Ld.blk h5.top rfl ?_
    obtain ⟨c, hcs, hco, hc1, _, _, hl⟩ := vol_look h5 n
    have hc1 := hc1 _ hgr
    subst hc1
    refine ⟨_, w5, hl, some r, rfl, ?_⟩
    obtain ⟨w8, e1, e2, e3, e4⟩ := delete_run (P := Try.prog) (ts := #[181, 3]) (ty := 0) KeyLaw.ints rfl Try.underlying181 (h5.vols _ hmem) kk
    refine ⟨_, w8, e1, ?_⟩
    have hnew : MapB w8 r (Value.int .i64) (VolV.vals { v with blocks := mdel v.blocks kk }) := by
      have : mdel v.vals kk = VolV.vals { v with blocks := mdel v.blocks kk } := mdel_map v.blocks arrV kk
      rw [← this]; exact e2
    have h8 := h5.upd hgr (v' := { v with blocks := mdel v.blocks kk }) rfl rfl (fun b hb => h.len _ hmem b (List.mem_filter.1 hb).1) hnew e3
    unfold f43_k0
    have hne : ∀ j, w.heap.size ≤ j → j ≠ r := fun j hj e => by omega
    refine LdN.all (hb5.ch e3 (hne a3 (by omega))) (by simp [hl32]) (dg_ret (hb25.ch e3 (hne a2 (by omega))) rfl hl32 fun w9 _ c9 => ?_)
    have hne2 : ∀ k, k = s ∨ k = rv ∨ k ∈ (updR M n { v with blocks := mdel v.blocks kk }).refs → ¬ k = a2 := fun k hk e => by
      rw [updR_refs] at hk
      have := h.lt hk; omega
    refine k w9 _ (h8.ch c9 hne2) (updR_st _ _ _) ?_ fun j hj => by rw [updR_refs] at hj; exact .inl hj
    refine ((x5.mono fun _ _ h => h.elim).step e3 (fun _ _ h => h) fun j hj e => .inr (by have e : j = r := e; rw [e]; exact hrr)).step c9 (fun _ _ h => h) fun j hj e => by have e : j = a2 := e; omega
  · have he : ¬ (vChange M.st n kk).2.2 = 0 := by simpa using he
    unfold vDrop at k
    rw [if_pos he] at k
    unfold f43_k0
    refine LdN.all hb5 (by simp [hl32]) (dg_ret hb25 rfl hl32 fun w6 _ c6 => ?_)
    exact k.same h (x5.step c6 (fun _ _ h => h.elim) fun j hj e => by have e : j = a2 := e; omega)
theorem clone_dg {w : World} {r : Nat} {l : List (Int × Value)} (hm : MapB w r (Value.int .i64) l) {R : Value → World → Prop}
    (k : ∀ r' w', MapB w' r' (Value.int .i64) l → Ext w w' → r' = w.heap.size → R (.map (some r')) w') : CallF Try.prog 103 #[.map (some r)] w R := by
  refine f103_ok R _ w ?_
  unfold f103
  refine ⟨fun h => (by cases h), fun _ => ?_⟩
  refine ⟨.iface 181 (.map (some r)), w, by simp [Instr.makeInterface, run_underlying Try.underlying181], ?_⟩
  obtain ⟨w1, h1, h2, h3, h4⟩ := clone_run (P := Try.prog) (t := 181) hm
  refine ⟨_, w1, h1, ?_⟩
  refine ⟨some w.heap.size, w1, ?_, k _ w1 h2 h3 rfl⟩
  simp [Instr.typeAssert, run_underlying Try.underlying181]
def vCopy (M : St) (n o : ByteArray) (q : Int) (f : Bool) : St × Int :=
  if mayB o q = false then (M, 1) else
    match mget M n with
    | none => (M, 5)
    | some v => if (mget M o).isSome then (M, 6) else if q < v.blocks.length then (M, 8) else (M ++ [(o, ⟨q, f, v.blocks⟩)], 0)
theorem vol_fillD (q : Int) (f : Bool) (r : Nat) (bl : List (Int × List Nat)) : Instr.fill ((#[(0, 1), (1, 1), (2, 1)] : Array (Nat × Nat))[·]?) #[.int .i64 0, .bool false, .map none] [(0, .int .i64 q), (1, .bool f), (2, .map (some r))] = some (volC (r, ⟨q, f, bl⟩)) := rfl
theorem Copy_spec {w : World} {s rv : Nat} {M : VMs} (h : VRep w s rv M) (n o : ByteArray) (q : Int) (f : Bool) {R : Value → World → Prop} (k : VPost w s rv M (vCopy M.st n o q f).1 fun w' => R (.int .i64 (vCopy M.st n o q f).2) w') :
    CallF Try.prog 45 #[.pointer (some ⟨s, 0, none⟩), .string n, .string o, .int .i64 q, .bool f] w R := by
  refine f45_ok R _ n o q f w ?_
  unfold f45
  refine ⟨_, rfl, ?_⟩
  simp only [addr_add, Nat.zero_add]
  refine Ld.blk h.top rfl ?_
  obtain ⟨c, hcs, hco, hc1, hc0, _, hl⟩ := vol_look h n
  refine ⟨c, w, hl, ?_⟩
  refine New.mk fun a w2 ha hs2 hb2 hx2 => ?_
  refine StN.all hb2 hcs hco rfl ?_
  intro w3 hb3 c3 hz3
  have x3 : Ext w w3 := hx2.step c3 (fun _ _ h => h.elim) fun j hj e => by have e : j = a := e; omega
  refine volume_may_spec fun w4 hx4 => ⟨_, rfl, fun hm => ?_, fun hm => ?_⟩
  · have hm : mayB o q = false := by simpa using hm
    unfold vCopy at k
    rw [if_pos hm] at k
    exact k.same h (x3.trans hx4)
  have hm : mayB o q = true := by simpa using hm
  unfold vCopy at k
  rw [if_neg (by rw [hm]; simp)] at k
  have x4 := x3.trans hx4
  refine has_spec (h.ext x4) n fun w5 hx5 => ⟨_, rfl, fun hh => ?_, fun hh => ?_⟩
  · have hh : (mget M.st n).isSome = false := by simpa using hh
    have hg : mget M.st n = none := by cases hg : mget M.st n with | none => rfl | some v => rw [hg] at hh; cases hh
    rw [hg] at k
    exact k.same h (x4.trans hx5)
  have hh : (mget M.st n).isSome = true := by simpa using hh
  obtain ⟨v, hg⟩ := Option.isSome_iff_exists.1 hh
  obtain ⟨r, hgr⟩ := h.get hg
  have hc1 := hc1 _ hgr
  subst hc1
  have hmem := mget_mem hgr
  rw [hg] at k
  dsimp only at k
  have x5 := x4.trans hx5
  refine has_spec (h.ext x5) o fun w6 hx6 => ⟨_, rfl, fun ho => ?_, fun ho => ?_⟩
  · rw [if_pos ho] at k
    exact k.same h (x5.trans hx6)
  rw [if_neg (by rw [ho]; simp)] at k
  have x6 := x5.trans hx6
  have hb6 := ((hb3.ext hx4).ext hx5).ext hx6
  have h6 := h.ext x6
  refine Ld.blk hb6 rfl ?_
  refine ⟨_, w6, len_run Try.underlying181 (h6.vols _ hmem), ?_⟩
  have hlv : v.vals.length = v.blocks.length := by simp [VolV.vals]
  refine ⟨fun hq => ?_, fun hq => ?_⟩
  · have hq : q < (v.vals.length : Int) := by simpa using hq
    rw [if_pos (by omega)] at k
    exact k.same h x6
  have hq : ¬ q < (v.vals.length : Int) := by simpa using hq
  rw [if_neg (by omega)] at k
  have hd := Ch.drew w6
  have xd := x6.trans hd
  have h7 := h.ext xd
  refine ⟨_, rfl, ?_⟩
  simp only [addr_add, Nat.zero_add]
  refine LdH.blk h7.top rfl (Ld.blk (hb6.ext hd) rfl ?_)
  refine clone_dg (h7.vols _ hmem) fun r' w8 hm8 hx8 hr' => ⟨_, rfl, (h7.ext hx8).top.cell rfl, _, vol_fillD q f r' v.blocks, ?_⟩
  have x8 := xd.trans hx8
  have hsz := xd.size
  refine setRep_new h ho x8 (r := r') (v := ⟨q, f, v.blocks⟩) (by omega) hm8 (h.len _ hmem) fun w9 h9 c9 => ?_
  refine k w9 _ h9 (by simp [VMs.st]) (x8.step c9 (fun _ _ h => h.elim) fun j hj e => .inl e) fun j hj => ?_
  have : (M ++ [(o, r', (⟨q, f, v.blocks⟩ : VolV))] : VMs).refs = M.refs ++ [r'] := by simp [VMs.refs]
  rw [this] at hj
  rcases List.mem_append.1 hj with hj | hj
  · exact .inl hj
  · simp only [List.mem_singleton] at hj; subst hj; exact .inr (by omega)
end Go.Proofs
