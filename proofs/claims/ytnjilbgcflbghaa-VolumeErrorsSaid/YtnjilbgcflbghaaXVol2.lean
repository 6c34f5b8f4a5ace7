/- volume: sets of volumes in memory; has, Get, change, Put, Drop, Delete, Create, New. -/
import Derived.Test.YtnjilbgcflbghaaXF0
import Derived.Test.YtnjilbgcflbghaaXF1
import Derived.Test.YtnjilbgcflbghaaXVol1
import Derived.Test.YtnjilbgcflbghaaXE2
set_option linter.all false
set_option maxHeartbeats 4000000
set_option maxRecDepth 100000
namespace Go.Proofs
open Go Go.X
def zeros32 : List Nat := List.replicate 32 0
theorem zeros32_len : zeros32.length = 32 := rfl
theorem z24_eq : Try.z24 = (u8s zeros32).toArray := rfl
/-- Volumes, with their blocks' maps. -/
abbrev VMs := List (ByteArray × Nat × VolV)
def volC (x : Nat × VolV) : Array Value := #[.int .i64 x.2.quota, .bool x.2.frozen, .map (some x.1)]
def VMs.vals (M : VMs) : List (ByteArray × Value) := M.map fun p => (p.1, .agg (volC p.2))
def VMs.refs (M : VMs) : List Nat := M.map (·.2.1)
def VMs.st (M : VMs) : St := M.map fun p => (p.1, p.2.2)
structure VRep (w : World) (s rv : Nat) (M : VMs) : Prop where
  top : Blk w s #[.map (some rv)] 179
  map : MapB w rv Value.string M.vals
  vols : ∀ p ∈ M, MapB w p.2.1 (Value.int .i64) p.2.2.vals
  len : ∀ p ∈ M, ∀ b ∈ p.2.2.blocks, b.2.length = 32
  nd : (s :: rv :: M.refs).Nodup
theorem VRep.ch {S : Nat → Prop} {w w' : World} {s rv : Nat} {M : VMs} (h : VRep w s rv M) (hc : Ch S w w') (hs : ∀ k, k = s ∨ k = rv ∨ k ∈ M.refs → ¬ S k) : VRep w' s rv M :=
  ⟨h.top.ch hc (hs _ (.inl rfl)), h.map.ch hc (hs _ (.inr (.inl rfl))), fun p hp => (h.vols p hp).ch hc (hs _ (.inr (.inr (List.mem_map.2 ⟨p, hp, rfl⟩)))), h.len, h.nd⟩
theorem VRep.ext {w w' : World} {s rv : Nat} {M : VMs} (h : VRep w s rv M) (hc : Ext w w') : VRep w' s rv M := h.ch hc fun _ _ => id
theorem VRep.lt {w : World} {s rv : Nat} {M : VMs} (h : VRep w s rv M) {k : Nat} (hk : k = s ∨ k = rv ∨ k ∈ M.refs) : k < w.heap.size := by
  rcases hk with rfl | rfl | hk
  · exact h.top.lt
  · exact h.map.lt
  · obtain ⟨p, hp, rfl⟩ := List.mem_map.1 hk
    exact (h.vols p hp).lt
theorem VRep.names {w : World} {s rv : Nat} {M : VMs} (h : VRep w s rv M) : (M.map (·.1)).Nodup := by
  obtain ⟨_, _, _, _, hnd, _⟩ := h.map
  have : M.vals.map (·.1) = M.map (·.1) := by simp [VMs.vals]
  rw [← this]; exact hnd
theorem VRep.nums {w : World} {s rv : Nat} {M : VMs} (h : VRep w s rv M) : ∀ p ∈ M.st, (p.2.blocks.map (·.1)).Nodup := by
  intro p hp
  obtain ⟨q, hq, rfl⟩ := List.mem_map.1 hp
  obtain ⟨_, _, _, _, hnd, _⟩ := h.vols q hq
  have : q.2.2.vals.map (·.1) = q.2.2.blocks.map (·.1) := by simp [VolV.vals]
  rw [← this]; exact hnd
theorem VMs.mget_vals (M : VMs) (k : ByteArray) : mget M.vals k = (mget M k).map fun x => .agg (volC x) := mget_map M (fun x => .agg (volC x)) k
theorem VMs.mget_st (M : VMs) (k : ByteArray) : mget M.st k = (mget M k).map fun x => x.2 := by
  unfold VMs.st mget
  induction M with
  | nil => rfl
  | cons p l ih => simp only [List.map_cons, List.find?_cons]; split <;> simp_all
theorem VMs.names_st (M : VMs) : M.st.map (·.1) = M.map (·.1) := by simp [VMs.st]
theorem nodup_inj {α β : Type} {f : α → β} : ∀ {l : List α}, (l.map f).Nodup → ∀ {a b : α}, a ∈ l → b ∈ l → f a = f b → a = b
  | [], _, _, _, ha, _, _ => by cases ha
  | c :: l, h, a, b, ha, hb, e => by
    rw [List.map_cons, List.nodup_cons] at h
    rcases List.mem_cons.1 ha with rfl | ha
    · rcases List.mem_cons.1 hb with rfl | hb
      · rfl
      · exact absurd (List.mem_map.2 ⟨b, hb, e.symm⟩) h.1
    · rcases List.mem_cons.1 hb with rfl | hb
      · exact (h.1 (List.mem_map.2 ⟨a, ‹a ∈ l›, e⟩)).elim
      · exact nodup_inj h.2 ha hb e
/-- A volume's blocks are changed. -/
def updR (M : VMs) (n : ByteArray) (v : VolV) : VMs := M.map fun p => if p.1 = n then (p.1, p.2.1, v) else p
theorem updR_st (M : VMs) (n : ByteArray) (v : VolV) : (updR M n v).st = setS M.st n v := by
  unfold updR VMs.st setS
  rw [List.map_map, List.map_map]
  apply List.map_congr_left
  intro p _
  simp only [Function.comp]
  split <;> rfl
theorem updR_refs (M : VMs) (n : ByteArray) (v : VolV) : (updR M n v).refs = M.refs := by
  unfold updR VMs.refs
  rw [List.map_map]
  apply List.map_congr_left
  intro p _
  simp only [Function.comp]
  split <;> rfl
theorem VRep.upd {w w' : World} {s rv : Nat} {M : VMs} {n : ByteArray} {r : Nat} {v v' : VolV} (h : VRep w s rv M) (hg : mget M n = some (r, v)) (hq : v'.quota = v.quota) (hf : v'.frozen = v.frozen) (hl : ∀ b ∈ v'.blocks, b.2.length = 32)
    (hm : MapB w' r (Value.int .i64) v'.vals) (hc : Ch (· = r) w w') : VRep w' s rv (updR M n v') := by
  have hmem := mget_mem hg
  have hnd := h.nd
  rw [List.nodup_cons, List.nodup_cons] at hnd
  have hr : r ∈ M.refs := List.mem_map.2 ⟨_, hmem, rfl⟩
  have one : ∀ p ∈ M, p.1 = n → p = (n, r, v) := fun p hp e => nodup_inj h.names hp hmem e
  have hv : (updR M n v').vals = M.vals := by
    unfold updR VMs.vals
    rw [List.map_map]
    apply List.map_congr_left
    intro p hp
    simp only [Function.comp]
    split
    · rename_i e
      have := one p hp e
      subst this
      simp only [volC, hq, hf]
    · rfl
  refine ⟨h.top.ch hc (fun e => hnd.1 (by simp [e, hr])), by rw [hv]; exact h.map.ch hc (fun e => hnd.2.1 (by rw [e]; exact hr)), fun p hp => ?_, fun p hp => ?_, by rw [updR_refs]; exact h.nd⟩
  · obtain ⟨q, hq', rfl⟩ := List.mem_map.1 hp
    split
    · rename_i e
      have := one q hq' e
      subst this
      exact hm
    · rename_i e
      refine (h.vols q hq').ch hc fun er => e ?_
      have := nodup_inj hnd.2.2 hq' hmem er
      rw [this]
  · obtain ⟨q, hq', rfl⟩ := List.mem_map.1 hp
    split
    · exact hl
    · exact h.len q hq'
theorem setRep_new {w w1 : World} {s rv r : Nat} {M : VMs} {n : ByteArray} {v : VolV} (h : VRep w s rv M) (hn : (mget M.st n).isSome = false) (hx : Ext w w1) (hr : w.heap.size ≤ r) (hm : MapB w1 r (Value.int .i64) v.vals) (hl : ∀ b ∈ v.blocks, b.2.length = 32)
    {K : World → Prop} (k : ∀ w', VRep w' s rv (M ++ [(n, r, v)]) → Ch (· = rv) w1 w' → K w') : EfU Try.prog (Instr.mapUpdate 177 (.map (some rv)) (.string n) (.agg (volC (r, v)))) w1 K := by
  obtain ⟨w2, e1, e2, e3, e4⟩ := mapUpdate_run (P := Try.prog) KeyLaw.names Try.underlying177 (h.ext hx).map n (.agg (volC (r, v)))
  refine ⟨w2, e1, k w2 ?_ e3⟩
  have hnd := h.nd
  rw [List.nodup_cons, List.nodup_cons] at hnd
  have hnot : n ∉ M.map (·.1) := fun hh => by
    have := (mget_some_iff M.st n).2 (by rw [VMs.names_st]; exact hh)
    rw [hn] at this; cases this
  have hvals : mset M.vals n (.agg (volC (r, v))) = VMs.vals (M ++ [(n, r, v)]) := by
    have : n ∉ M.vals.map (·.1) := by
      have e : M.vals.map (·.1) = M.map (·.1) := by simp [VMs.vals]
      rw [e]; exact hnot
    unfold mset
    rw [if_neg (by simpa using this)]
    simp [VMs.vals]
  have hrlt := hm.lt
  have hs := h.lt (.inl rfl)
  have hrv := h.lt (.inr (.inl rfl))
  have hx1 := hx
  refine ⟨(h.ext hx).top.ch e3 (fun e => hnd.1 (by simp [e])), by rw [← hvals]; exact e2, fun p hp => ?_, fun p hp => ?_, ?_⟩
  · rcases List.mem_append.1 hp with hp | hp
    · exact ((h.ext hx).vols p hp).ch e3 (fun e => hnd.2.1 (by rw [← e]; exact List.mem_map.2 ⟨p, hp, rfl⟩))
    · simp only [List.mem_singleton] at hp; subst hp
      exact hm.ch e3 (fun e => by have e : r = rv := e; omega)
  · rcases List.mem_append.1 hp with hp | hp
    · exact h.len p hp
    · simp only [List.mem_singleton] at hp; subst hp
      exact hl
  · have : (M ++ [(n, r, v)] : VMs).refs = M.refs ++ [r] := by simp [VMs.refs]
    rw [this, show s :: rv :: (M.refs ++ [r]) = (s :: rv :: M.refs) ++ [r] from rfl, List.nodup_append]
    refine ⟨h.nd, by simp, fun a ha c hc => ?_⟩
    have h1 : a < w.heap.size := h.lt (by simpa using ha)
    simp only [List.mem_singleton] at hc
    omega
/-! has, Delete, Create -/
theorem vol_look {w : World} {s rv : Nat} {M : VMs} (h : VRep w s rv M) (n : ByteArray) : ∃ c : Array Value, c.size = 3 ∧ (∀ v ∈ c, v.oneCell' = true) ∧ (∀ x, mget M n = some x → c = volC x) ∧ (mget M n = none → c = #[.int .i64 0, .bool false, .map none]) ∧
    (Instr.lookup 177 (.map (some rv)) (.string n) true).run Try.prog w = .ok (.tuple #[.agg c, .bool (mget M.st n).isSome]) w ∧ (Instr.lookup 177 (.map (some rv)) (.string n) false).run Try.prog w = .ok (.agg c) w := by
  have h1 := lookup_run (P := Try.prog) KeyLaw.names Try.underlying177 Try.ti183 h.map n
  have h2 := lookup_run1 (P := Try.prog) KeyLaw.names Try.underlying177 Try.ti183 h.map n
  rw [VMs.mget_vals] at h1 h2
  rw [VMs.mget_st]
  cases hg : mget M n with
  | none =>
    rw [hg] at h1 h2
    exact ⟨_, rfl, by simp [Value.oneCell'], fun x hx => (by cases hx), fun _ => rfl, h1, h2⟩
  | some x =>
    rw [hg] at h1 h2
    exact ⟨volC x, rfl, by simp [volC, Value.oneCell'], fun y hy => by injection hy with hy; rw [hy], fun hh => (by cases hh), h1, h2⟩
theorem has_spec {w : World} {s rv : Nat} {M : VMs} (h : VRep w s rv M) (n : ByteArray) {R : Value → World → Prop} (k : ∀ w', Ext w w' → R (.bool (mget M.st n).isSome) w') : CallF Try.prog 102 #[.pointer (some ⟨s, 0, none⟩), .string n] w R := by
  refine f102_ok R _ n w ?_
  unfold f102
  refine ⟨_, rfl, ?_⟩
  simp only [addr_add, Nat.zero_add]
  refine Ld.blk h.top rfl ?_
  obtain ⟨c, hc, ho, _, _, hl, _⟩ := vol_look h n
  refine ⟨_, w, hl, _, _, rfl, ?_⟩
  refine New.mk fun a w2 ha hs2 hb hx => ?_
  refine StN.all hb hc ho rfl ?_
  intro w3 hb3 hc3 hz3
  exact k w3 (hx.step hc3 (fun _ _ h => h.elim) fun j hj e => by have e : j = a := e; omega)
/-- What a set's method leaves. -/
def VPost (w : World) (s rv : Nat) (M : VMs) (S : St) (K : World → Prop) : Prop :=
  ∀ w' M', VRep w' s rv M' → M'.st = S → Ch (fun k => k = rv ∨ k ∈ M.refs) w w' → (∀ j ∈ M'.refs, j ∈ M.refs ∨ w.heap.size ≤ j) → K w'
theorem VPost.same {w w' : World} {s rv : Nat} {M : VMs} {K : World → Prop} (k : VPost w s rv M M.st K) (h : VRep w s rv M) (hx : Ext w w') : K w' := k w' M (h.ext hx) rfl (hx.mono fun _ _ h => h.elim) fun _ hj => .inl hj
def vDelete (M : St) (n : ByteArray) : St × Int := if (mget M n).isSome then (mdel M n, 0) else (M, 5)
def vCreate (M : St) (n : ByteArray) (q : Int) : St × Int := if mayB n q = false then (M, 1) else if (mget M n).isSome then (M, 6) else (M ++ [(n, ⟨q, false, []⟩)], 0)
theorem Delete_spec {w : World} {s rv : Nat} {M : VMs} (h : VRep w s rv M) (n : ByteArray) {R : Value → World → Prop} (k : VPost w s rv M (vDelete M.st n).1 fun w' => R (.int .i64 (vDelete M.st n).2) w') : CallF Try.prog 46 #[.pointer (some ⟨s, 0, none⟩), .string n] w R := by
  refine f46_ok R _ n w ?_
  unfold f46
  refine has_spec h n fun w1 hx1 => ⟨_, rfl, fun hh => ?_, fun hh => ?_⟩
  · have hh : (mget M.st n).isSome = false := by simpa using hh
    unfold vDelete at k
    rw [if_neg (by rw [hh]; simp)] at k
    exact k.same h hx1
  · have hh : (mget M.st n).isSome = true := by simpa using hh
    unfold vDelete at k
    rw [if_pos hh] at k
    have h1 := h.ext hx1
    refine ⟨_, rfl, ?_⟩
    simp only [addr_add, Nat.zero_add]
    refine Ld.blk h1.top rfl ?_
    obtain ⟨w2, e1, e2, e3, e4⟩ := delete_run (P := Try.prog) (ts := #[177, 9]) (ty := 0) KeyLaw.names rfl Try.underlying177 h1.map n
    refine ⟨_, w2, e1, ?_⟩
    have hnd := h1.nd
    rw [List.nodup_cons, List.nodup_cons] at hnd
    have hv : VMs.vals (mdel M n) = mdel M.vals n := (mdel_map M (fun x => .agg (volC x)) n).symm
    have hsub : (VMs.refs (mdel M n)).Sublist M.refs := List.Sublist.map _ List.filter_sublist
    refine k w2 (mdel M n) ⟨h1.top.ch e3 (fun e => hnd.1 (by simp [e])), by rw [hv]; exact e2, fun p hp => ?_, fun p hp => h1.len p (List.mem_filter.1 hp).1, h1.nd.sublist ((hsub.cons_cons rv).cons_cons s)⟩ ?_ (hx1.step e3 (fun _ _ h => h.elim) fun j hj e => .inl e) fun j hj => .inl (hsub.subset hj)
    · have hp' : p ∈ M := (List.mem_filter.1 hp).1
      exact (h1.vols p hp').ch e3 (fun e => hnd.2.1 (by rw [← e]; exact List.mem_map.2 ⟨p, hp', rfl⟩))
    · unfold mdel VMs.st
      rw [List.filter_map]
      rfl
theorem vol_fillC (q : Int) (r : Nat) : Instr.fill ((#[(0, 1), (1, 1), (2, 1)] : Array (Nat × Nat))[·]?) #[.int .i64 0, .bool false, .map none] [(0, .int .i64 q), (2, .map (some r))] = some (volC (r, ⟨q, false, []⟩)) := rfl
theorem Create_spec {w : World} {s rv : Nat} {M : VMs} (h : VRep w s rv M) (n : ByteArray) (q : Int) {R : Value → World → Prop} (k : VPost w s rv M (vCreate M.st n q).1 fun w' => R (.int .i64 (vCreate M.st n q).2) w') : CallF Try.prog 44 #[.pointer (some ⟨s, 0, none⟩), .string n, .int .i64 q] w R := by
  refine f44_ok R _ n q w ?_
  unfold f44
  refine volume_may_spec fun w1 hx1 => ⟨_, rfl, fun hm => ?_, fun hm => ?_⟩
  · have hm : mayB n q = false := by simpa using hm
    unfold vCreate at k
    rw [if_pos hm] at k
    exact k.same h hx1
  have hm : mayB n q = true := by simpa using hm
  unfold vCreate at k
  rw [if_neg (by rw [hm]; simp)] at k
  refine has_spec (h.ext hx1) n fun w2 hx2 => ⟨_, rfl, fun hh => ?_, fun hh => ?_⟩
  · rw [if_pos hh] at k
    exact k.same h (hx1.trans hx2)
  rw [if_neg (by rw [hh]; simp)] at k
  have hx12 := hx1.trans hx2
  have h2 := h.ext hx12
  refine ⟨_, rfl, ?_⟩
  simp only [addr_add, Nat.zero_add]
  refine Ld.blk h2.top rfl ?_
  obtain ⟨w3, e1, e2, e3, e4⟩ := makeMap_run (P := Try.prog) (w := w2) (enc := Value.int .i64) (t := 181)
  refine ⟨some w2.heap.size, w3, e1, _, vol_fillC q _, ?_⟩
  have hsz := hx12.size
  refine setRep_new h hh (hx12.trans e3) (r := w2.heap.size) (v := ⟨q, false, []⟩) hsz e2 (fun b hb => by cases hb) fun w4 h4 c4 => ?_
  refine k w4 _ h4 (by simp [VMs.st]) ((hx12.trans e3).step c4 (fun _ _ h => h.elim) fun j hj e => .inl e) fun j hj => ?_
  have : (M ++ [(n, w2.heap.size, (⟨q, false, []⟩ : VolV))] : VMs).refs = M.refs ++ [w2.heap.size] := by simp [VMs.refs]
  rw [this] at hj
  rcases List.mem_append.1 hj with hj | hj
  · exact .inl hj
  · simp only [List.mem_singleton] at hj; subst hj; exact .inr hsz
theorem New_spec {w : World} {R : Value → World → Prop} (k : ∀ s rv w', VRep w' s rv [] → Ext w w' → w.heap.size ≤ s → w.heap.size ≤ rv → R (.pointer (some ⟨s, 0, none⟩)) w') : CallF Try.prog 40 #[] w R := by
  refine f40_ok R w ?_
  unfold f40
  obtain ⟨w1, e1, e2, e3, e4⟩ := makeMap_run (P := Try.prog) (w := w) (enc := Value.string) (t := 177)
  refine ⟨some w.heap.size, w1, e1, #[.map (some w.heap.size)], rfl, ?_⟩
  refine New.mk fun b w2 hb hs2 hblk hx => k b w.heap.size w2 ⟨hblk, e2.ext hx, fun p hp => (by cases hp), fun p hp => (by cases hp), ?_⟩ (e3.trans hx) (by omega) (Nat.le_refl _)
  show [b, w.heap.size].Nodup
  simp; omega
end Go.Proofs
