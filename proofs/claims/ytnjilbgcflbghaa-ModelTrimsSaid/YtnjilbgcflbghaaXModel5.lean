/- model.Distinct: how many blocks there are. -/
import Derived.Test.YtnjilbgcflbghaaXModel4
set_option linter.all false
namespace Go.Proofs
open Go Go.X

def blocksOf (M : Vols) : List (List Nat) := M.flatMap fun p => p.2.2.2.blocks.map (·.2)
def bkeys (l : List (Arr 48 × Value)) : List (List Nat) := l.map (·.1.1)
theorem mset_keys {κ β : Type} [DecidableEq κ] (l : List (κ × β)) (k : κ) (v : β) (x : κ) : x ∈ (mset l k v).map (·.1) ↔ x ∈ l.map (·.1) ∨ x = k := by
  unfold mset
  split
  · rename_i h
    have : (l.map fun p => if p.1 = k then (k, v) else p).map (·.1) = l.map (·.1) := by
      rw [List.map_map]
      apply List.map_congr_left
      intro p _
      simp only [Function.comp]
      split
      · rename_i e; simp [e]
      · rfl
    rw [this]
    constructor
    · exact .inl
    · rintro (h' | rfl)
      · exact h'
      · simpa using h
  · simp
theorem bkeys_mset (l : List (Arr 48 × Value)) (k : Arr 48) (v : Value) (x : List Nat) : x ∈ bkeys (mset l k v) ↔ x ∈ bkeys l ∨ x = k.1 := by
  have h : ∀ l : List (Arr 48 × Value), bkeys l = (l.map (·.1)).map (·.1) := fun l => by rw [List.map_map]; rfl
  rw [h, h]
  constructor
  · intro hx
    obtain ⟨y, hy, rfl⟩ := List.mem_map.1 hx
    rcases (mset_keys l k v y).1 hy with h1 | rfl
    · exact .inl (List.mem_map.2 ⟨y, h1, rfl⟩)
    · exact .inr rfl
  · rintro (hx | rfl)
    · obtain ⟨y, hy, rfl⟩ := List.mem_map.1 hx
      exact List.mem_map.2 ⟨y, (mset_keys l k v y).2 (.inl hy), rfl⟩
    · exact List.mem_map.2 ⟨k, (mset_keys l k v k).2 (.inr rfl), rfl⟩
theorem mem_erase {α : Type} {l : List α} {i : Nat} (h : i < l.length) (x : α) : x ∈ l ↔ x = l[i] ∨ x ∈ l.eraseIdx i := by
  rw [List.eraseIdx_eq_take_drop_succ]
  conv => lhs; rw [← List.take_append_drop i l, List.drop_eq_getElem_cons h]
  simp only [List.mem_append, List.mem_cons]
  constructor
  · rintro (h | h | h)
    · exact .inr (.inl h)
    · exact .inl h
    · exact .inr (.inr h)
  · rintro (h | h | h)
    · exact .inr (.inl h)
    · exact .inl h
    · exact .inr (.inr h)
theorem blocksOf_erase {M : Vols} {i : Nat} (h : i < M.length) (x : List Nat) : x ∈ blocksOf M ↔ x ∈ M[i].2.2.2.blocks.map (·.2) ∨ x ∈ blocksOf (M.eraseIdx i) := by
  simp only [blocksOf, List.mem_flatMap]
  constructor
  · rintro ⟨p, hp, hx⟩
    rcases (mem_erase h p).1 hp with rfl | hp
    · exact .inl hx
    · exact .inr ⟨p, hp, hx⟩
  · rintro (hx | ⟨p, hp, hx⟩)
    · exact ⟨_, List.getElem_mem h, hx⟩
    · exact ⟨p, (mem_erase h p).2 (.inr hp), hx⟩
theorem KeyLaw.blocks : KeyLaw Try.prog 65 (fun k : Arr 48 => arrV k.1) := by
  obtain ⟨i, hi, _⟩ := Try.ti5
  exact KeyLaw.arr Try.underlying65 Try.underlying5 hi Try.ti5 (by kernel_rfl) (by kernel_rfl)
abbrev encB : Arr 48 → Value := fun k => arrV k.1

set_option maxHeartbeats 1000000 in
theorem model_Distinct_spec {w : World} {m rv : Nat} {M : Vols} (hm : MRep w m rv M) : CallF Try.prog 64 #[.pointer (some ⟨m, 0, none⟩)] w fun r w' =>
    (∃ ks : List (List Nat), r = .int .i64 ks.length ∧ ks.Nodup ∧ ∀ x, x ∈ ks ↔ x ∈ blocksOf M) ∧ Ext w w' := by
  refine model_Model_Distinct_ok _ (some ⟨m, 0, none⟩) w ?_
  unfold model_Model_Distinct
  obtain ⟨w1, e1, e2, e3, e4⟩ := makeMap_run (P := Try.prog) (w := w) (enc := encB) (t := 230)
  refine ⟨some w.heap.size, w1, e1, _, rfl, ?_⟩
  have hm1 := hm.ext e3
  simp only [addr_add, Nat.zero_add]
  refine Ld.blk hm1.top rfl ?_
  obtain ⟨w2, f1, f2, f3, f4⟩ := range_run (P := Try.prog) Try.underlying163 hm1.map
  refine ⟨_, w2, f1, ?_⟩
  generalize hra : w.heap.size = ra at *
  generalize hr : w1.heap.size = r at *
  refine ⟨fun q wr => ∃ (l : List (Arr 48 × Value)) (L : Vols), q = (some ra, .pointer (some ⟨r, 0, none⟩)) ∧ Ext w wr ∧ MapB wr ra encB l ∧ RangeB wr r rv Value.string M.vals L.vals ∧ (∀ p ∈ L, p ∈ M) ∧ (∀ x, (x ∈ bkeys l ∨ x ∈ blocksOf L) ↔ x ∈ blocksOf M) ∧ r < wr.heap.size,
    fun q wr => M.length - iterN wr r, ⟨[], M, rfl, e3.trans f3, e2.ext f3, f2, fun _ h => h, by simp [bkeys], by omega⟩, ?_⟩
  rintro _ wr ⟨l, L, rfl, hx, hmap, hran, hsub, hall, hrlt⟩
  have hmr := hm.ext hx
  have hrv : rv < ra := by have := hm.lt (.inr (.inl rfl)); omega
  rcases next_run (P := Try.prog) (ty := 0) hran with ⟨hnil, hnx⟩ | ⟨i, hi, w3, hnx, hent, hran3, hc3, hz3⟩
  · refine ⟨_, wr, hnx, #[.bool false], false, rfl, rfl, fun h => (by cases h), fun _ => ?_⟩
    refine ⟨_, wr, len_run Try.underlying230 hmap, ?_⟩
    have hL : L = [] := by
      have := congrArg List.length hnil
      exact List.eq_nil_of_length_eq_zero (by simpa [Vols.vals] using this)
    subst hL
    refine ⟨⟨bkeys l, by simp [bkeys], ?_, fun x => ?_⟩, hx⟩
    · obtain ⟨_, _, _, _, hnd, _⟩ := hmap
      have : bkeys l = (l.map (·.1)).map (·.1) := by rw [List.map_map]; rfl
      rw [this]
      exact hnd.map _ fun a b hab h => hab (Subtype.ext h)
    · have := hall x
      simp only [blocksOf, List.flatMap_nil, List.not_mem_nil, or_false] at this
      exact this
  · have hiL : i < L.length := by simpa [Vols.vals] using hi
    refine ⟨_, w3, hnx, _, true, rfl, rfl, fun _ => ?_, fun h => (by cases h)⟩
    have hpv : L.vals[i] = (L[i].1, .pointer (some ⟨L[i].2.1, 0, none⟩)) := by simp [Vols.vals]
    rw [hpv] at hent
    refine ⟨_, w3, hent, _, _, rfl, _, rfl, ?_⟩
    have hx3 : Ext w w3 := hx.step hc3 (fun _ _ h => h.elim) (fun k hk h => by have := e3.size; omega)
    have hva := (hm.ext hx3).vols _ (hsub _ (List.getElem_mem hiL))
    simp only [addr_add, Nat.zero_add]
    refine Ld.blk hva.top rfl ?_
    obtain ⟨w4, g1, g2, g3, g4⟩ := range_run (P := Try.prog) Try.underlying168 hva.map
    refine ⟨_, w4, g1, ?_⟩
    have hrvr : ∀ k, k = rv ∨ k = L[i].2.2.1 → k < ra := by
      rintro k (rfl | rfl)
      · exact hrv
      · have := hm.lt (.inr (.inr (Vols.mem_foot.2 ⟨_, hsub _ (List.getElem_mem hiL), .inr rfl⟩))); omega
    have hra1 : ra < r := by omega
    have hev : (L.vals.eraseIdx i) = Vols.vals (L.eraseIdx i) := (Go.ChangeMaps.map_eraseIdx _ L i).symm
    rw [hev] at hran3
    have hmap3 : MapB w3 ra encB l := hmap.ch hc3 (by omega)
    generalize hr2 : w3.heap.size = r2 at *
    have hcnt3 := hran3.count
    have hcnt := hran.count
    refine ⟨fun q wr' => ∃ (l : List (Arr 48 × Value)) (K : List (Int × List Nat)), q = (some ra, .pointer (some ⟨r, 0, none⟩), .pointer (some ⟨r2, 0, none⟩)) ∧ Ext w wr' ∧ MapB wr' ra encB l ∧ RangeB wr' r rv Value.string M.vals (Vols.vals (L.eraseIdx i)) ∧
        RangeB wr' r2 L[i].2.2.1 (Value.int .i64) L[i].2.2.2.vals (K.map fun p => (p.1, arrV p.2)) ∧ (∀ p ∈ K, p ∈ L[i].2.2.2.blocks) ∧ (∀ x, (x ∈ bkeys l ∨ x ∈ K.map (·.2) ∨ x ∈ blocksOf (L.eraseIdx i)) ↔ x ∈ blocksOf M) ∧ r2 < wr'.heap.size,
      fun q wr' => L[i].2.2.2.blocks.length - iterN wr' r2, ⟨l, L[i].2.2.2.blocks, rfl, hx3.trans g3, hmap3.ext g3, hran3.ext g3, g2, fun _ h => h, ?_, by omega⟩, ?_⟩
    · intro x
      rw [← hall x, blocksOf_erase hiL]
    rintro _ wr5 ⟨l5, K, rfl, hx5, hmap5, hranL, hranK, hsubK, hall5, hlt5⟩
    rcases next_run (P := Try.prog) (ty := 0) hranK with ⟨hnil, hnx5⟩ | ⟨j, hj, w6, hnx5, hent6, hran6, hc6, hz6⟩
    · refine ⟨_, wr5, hnx5, #[.bool false], false, rfl, rfl, fun h => (by cases h), fun _ => ?_⟩
      have hK : K = [] := by simpa using hnil
      subst hK
      refine ⟨⟨l5, L.eraseIdx i, rfl, hx5, hmap5, hranL, fun p hp => hsub p (List.mem_of_mem_eraseIdx hp), fun x => ?_, by omega⟩, ?_⟩
      · have := hall5 x
        simpa using this
      · have h5 := hranL.count
        have h6 : (Vols.vals (L.eraseIdx i)).length = L.length - 1 := by simp [Vols.vals, List.length_eraseIdx_of_lt hiL]
        have h7 : L.vals.length = L.length := by simp [Vols.vals]
        have h8 : M.vals.length = M.length := by simp [Vols.vals]
        omega
    · have hjK : j < K.length := by simpa using hj
      refine ⟨_, w6, hnx5, _, true, rfl, rfl, fun _ => ?_, fun h => (by cases h)⟩
      have hpv6 : (K.map fun p => (p.1, arrV p.2))[j] = (K[j].1, arrV K[j].2) := by simp
      rw [hpv6] at hent6
      refine ⟨_, w6, hent6, _, _, rfl, ?_⟩
      have hlen : K[j].2.length = 48 := hva.len _ (hsubK _ (List.getElem_mem hjK))
      refine New.mk fun b7 w7 hb7 hs7 hblk7 hx7 => ?_
      refine StN.all hblk7 (by simpa using hlen) (fun v hv => u8s_one _ v (by simpa using hv)) (by decide) ?_
      intro w8 hb8 hc8 hz8
      refine LdN.all hb8 (by simpa using hlen) ?_
      have hx6 : Ext w w6 := hx5.step hc6 (fun _ _ h => h.elim) (fun k hk h => by omega)
      have hc58 : Ch (fun k => k = r2 ∨ k = b7) wr5 w8 := (hc6.step hx7 (fun _ _ h => .inl h) (fun _ _ h => h.elim)).step hc8 (fun _ _ h => h) (fun _ _ h => .inr h)
      have hb7' : wr5.heap.size ≤ b7 := by omega
      have hmap8 : MapB w8 ra encB l5 := hmap5.ch hc58 (by have := hmap5.lt; omega)
      obtain ⟨w9, k1, k2, k3, k4⟩ := mapUpdate_run (P := Try.prog) KeyLaw.blocks Try.underlying230 hmap8 ⟨K[j].2, hlen⟩ (.bool true)
      refine ⟨w9, k1, ?_⟩
      have hc59 : Ch (fun k => k = r2 ∨ k = b7 ∨ k = ra) wr5 w9 := hc58.step k3 (fun _ _ h => h.imp id .inl) (fun _ _ h => .inr (.inr h))
      have hc69 : Ch (fun k => k = b7 ∨ k = ra) w6 w9 := (hx7.step hc8 (fun _ _ h => h.elim) (fun _ _ h => h)).step k3 (fun _ _ h => .inl h) (fun _ _ h => .inr h)
      have hsz5 := hx5.size
      have hvr := hrvr _ (.inr rfl)
      have hxw9 : Ext w w9 := hx5.step hc59 (fun _ _ h => h.elim) (fun k hk h => by omega)
      have hevK : (K.map fun p => (p.1, arrV p.2)).eraseIdx j = (K.eraseIdx j).map fun p => (p.1, arrV p.2) := (Go.ChangeMaps.map_eraseIdx _ K j).symm
      rw [hevK] at hran6
      have hran9 := hran6.ch hc69 (by omega) (by omega)
      refine ⟨⟨_, K.eraseIdx j, rfl, hxw9, k2, hranL.ch hc59 (by omega) (by omega), hran9, fun p hp => hsubK p (List.mem_of_mem_eraseIdx hp), fun x => ?_, by have := hc59.size; omega⟩, ?_⟩
      · rw [bkeys_mset, ← hall5 x]
        have : x ∈ K.map (·.2) ↔ x = K[j].2 ∨ x ∈ (K.eraseIdx j).map (·.2) := by
          simp only [List.mem_map]
          constructor
          · rintro ⟨p, hp, rfl⟩
            rcases (mem_erase hjK p).1 hp with rfl | hp
            · exact .inl rfl
            · exact .inr ⟨p, hp, rfl⟩
          · rintro (rfl | ⟨p, hp, rfl⟩)
            · exact ⟨_, List.getElem_mem hjK, rfl⟩
            · exact ⟨p, (mem_erase hjK p).2 (.inr hp), rfl⟩
        rw [this]
        constructor
        · rintro ((h | h) | h | h)
          · exact .inl h
          · exact .inr (.inl (.inl h))
          · exact .inr (.inl (.inr h))
          · exact .inr (.inr h)
        · rintro (h | (h | h) | h)
          · exact .inl (.inl h)
          · exact .inl (.inr h)
          · exact .inr (.inl h)
          · exact .inr (.inr h)
      · have h5 := hranK.count
        have h6 := hran9.count
        have h7 : (K.eraseIdx j).length = K.length - 1 := List.length_eraseIdx_of_lt hjK
        simp only [List.length_map, VolV.vals] at h5 h6
        show L[i].2.2.2.blocks.length - iterN w9 r2 < L[i].2.2.2.blocks.length - iterN wr5 r2
        omega
end Go.Proofs
