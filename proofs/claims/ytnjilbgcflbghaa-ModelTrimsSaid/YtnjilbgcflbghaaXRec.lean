/- Records in memory: stores of whole blocks, rows of records, maps keyed by arrays of bytes. -/
import Derived.Test.YtnjilbgcflbghaaXDat
import Derived.Test.YtnjilbgcflbghaaXMap
set_option linter.all false
namespace Go.X
open Go Go.Instr

theorem setRow_blk {b i : Nat} {e : TypeId} : ∀ (vs : List Value) (k : Nat) (w : World) (cs : Array Value), Blk w b cs e → i + k + vs.length ≤ cs.size →
    ∃ cs', Blk (setRow' w ⟨b, i, none⟩ vs k) b cs' e ∧ cs'.size = cs.size ∧ (∀ j, cs'[j]? = if i + k ≤ j ∧ j < i + k + vs.length then vs[j - (i + k)]? else cs[j]?) ∧ Ch (· = b) w (setRow' w ⟨b, i, none⟩ vs k) ∧ (setRow' w ⟨b, i, none⟩ vs k).heap.size = w.heap.size
  | [], k, w, cs, h, hs => ⟨cs, h, rfl, fun j => by rw [if_neg (by simp only [List.length_nil]; omega)], Ch.refl _ _, rfl⟩
  | v :: vs, k, w, cs, h, hs => by
    simp only [setRow', List.length_cons] at *
    have h1 : Blk (w.setCell ((⟨b, i, none⟩ : Addr).add k) v) b (cs.setIfInBounds (i + k) v) e := by rw [addr_add]; exact h.set
    have hc1 : Ch (· = b) w (w.setCell ((⟨b, i, none⟩ : Addr).add k) v) := by rw [addr_add]; exact Ch.setCell w ⟨b, i + k, none⟩ v
    obtain ⟨cs', h2, hsz, hj, hc2, hz⟩ := setRow_blk (i := i) vs (k + 1) _ _ h1 (by simp only [Array.size_setIfInBounds]; omega)
    refine ⟨cs', h2, by simpa using hsz, fun j => ?_, hc1.trans hc2, by rw [hz]; simp [World.setCell]⟩
    rw [hj j]
    by_cases e1 : j = i + k
    · subst e1
      rw [if_neg (by omega), if_pos (by omega)]
      have : i + k < cs.size := by omega
      simp [this]
    · by_cases e2 : i + k ≤ j ∧ j < i + k + (vs.length + 1)
      · rw [if_pos (by omega), if_pos e2]
        obtain ⟨m, rfl⟩ : ∃ m, j = i + k + (m + 1) := ⟨j - (i + k) - 1, by omega⟩
        rw [show i + k + (m + 1) - (i + (k + 1)) = m from by omega, show i + k + (m + 1) - (i + k) = m + 1 from by omega]
        simp
      · rw [if_neg (by omega), if_neg e2]
        rw [Array.getElem?_setIfInBounds_ne (by omega)]
theorem Blk.free' {w : World} {b i : Nat} {cs : Array Value} {e : TypeId} (h : Blk w b cs e) (j : Nat) : w.frozen? ((⟨b, i, none⟩ : Addr).add j) = false := by
  rw [addr_add]; exact h.free
/-- A store of some cells. -/
theorem StN.part {n b i : Nat} {ds cs : Array Value} {e : TypeId} {w : World} {K : World → Prop} (h : Blk w b ds e) (hn : cs.size = n) (h1 : ∀ v ∈ cs, v.oneCell' = true) (hi : i + n ≤ ds.size)
    (k : ∀ w' ds', Blk w' b ds' e → ds'.size = ds.size → (∀ j, ds'[j]? = if i ≤ j ∧ j < i + n then cs[j - i]? else ds[j]?) → Ch (· = b) w w' → w'.heap.size = w.heap.size → K w') : StN n (some ⟨b, i, none⟩) cs w K := by
  refine ⟨_, rfl, hn, h1, fun j hj => ⟨?_, h.free' j⟩, ?_⟩
  · rw [addr_add, h.cell (v := ds[i + j]'(by omega)) (Array.getElem?_eq_getElem _)]; rfl
  · obtain ⟨ds', a1, a2, a3, a4, a5⟩ := setRow_blk (i := i) cs.toList 0 w ds h (by simp; omega)
    refine k _ ds' a1 a2 (fun j => ?_) a4 a5
    simpa [hn] using a3 j
theorem StN.all {n b : Nat} {ds cs : Array Value} {e : TypeId} {w : World} {K : World → Prop} (h : Blk w b ds e) (hn : cs.size = n) (h1 : ∀ v ∈ cs, v.oneCell' = true) (hi : ds.size = n)
    (k : ∀ w', Blk w' b cs e → Ch (· = b) w w' → w'.heap.size = w.heap.size → K w') : StN n (some ⟨b, 0, none⟩) cs w K :=
  StN.part h hn h1 (by omega) fun w' ds' a1 a2 a3 a4 a5 => k w' (by
    have : ds' = cs := by
      apply Array.ext_getElem?
      intro j
      rw [a3 j]
      split
      · simp
      · rw [Array.getElem?_eq_none (by omega), Array.getElem?_eq_none (by omega)]
    exact this ▸ a1) a4 a5

/-- A row of records. -/
theorem flatMap_at {α : Type} {enc : α → List Value} {n : Nat} : ∀ (l : List α) (i : Nat), (∀ r ∈ l, (enc r).length = n) → (hi : i < l.length) → ∀ j, j < n → (l.flatMap enc)[i * n + j]? = (enc l[i])[j]?
  | [], i, _, hi => by simp at hi
  | r :: l, 0, h, hi => fun j hj => by
    have := h r (by simp)
    simp only [List.flatMap_cons, Nat.zero_mul, Nat.zero_add, List.getElem_cons_zero]
    rw [List.getElem?_append_left (by omega)]
  | r :: l, i + 1, h, hi => fun j hj => by
    have hr := h r (by simp)
    simp only [List.flatMap_cons, List.getElem_cons_succ]
    rw [List.getElem?_append_right (by rw [hr, Nat.succ_mul]; omega), hr]
    rw [show (i + 1) * n + j - n = i * n + j from by rw [Nat.succ_mul]; omega]
    exact flatMap_at l i (fun x hx => h x (by simp [hx])) (by simpa using hi) j hj
theorem flatMap_len {α : Type} {enc : α → List Value} {n : Nat} : ∀ (l : List α), (∀ r ∈ l, (enc r).length = n) → (l.flatMap enc).length = l.length * n
  | [], _ => by simp
  | r :: l, h => by
    rw [List.flatMap_cons, List.length_append, h r (by simp), flatMap_len l (fun x hx => h x (by simp [hx])), List.length_cons, Nat.succ_mul]; omega
theorem Sees.at {α : Type} {enc : α → List Value} {w : World} {s : Sl} {n : Nat} {l : List α} (hs : Sees w s n (l.flatMap enc)) (hn : ∀ r ∈ l, (enc r).length = n) (h0 : 0 < n) (i : Nat) (hi : i < l.length) :
    ∃ a, s.a = some a ∧ a.spot = none ∧ Row w (a.add (i * n)) (enc l[i]).toArray ∧ (enc l[i]).toArray.size = n := by
  have hl : l.length = s.len := Nat.eq_of_mul_eq_mul_right h0 ((flatMap_len l hn).symm.trans hs.1)
  obtain ⟨a, ha⟩ : ∃ a, s.a = some a := by
    cases h : s.a with
    | none => have := hs.2.2.1 h; omega
    | some a => exact ⟨a, rfl⟩
  obtain ⟨h1, h2⟩ := hs.2.2.2 a ha
  refine ⟨a, ha, h1, fun j v hj => ?_, by simpa using hn _ (List.getElem_mem hi)⟩
  obtain ⟨b, o, p⟩ := a
  simp only at h1
  subst h1
  have hjn : j < n := by
    have := (Array.getElem?_eq_some_iff.1 hj).1
    have hh := hn _ (List.getElem_mem hi)
    simp at this
    omega
  have := h2 (i * n + j) v (by rw [flatMap_at l i hn hi j hjn]; simpa using hj)
  simpa [Nat.add_assoc] using this
theorem Sees.count {α : Type} {enc : α → List Value} {w : World} {s : Sl} {n : Nat} {l : List α} (hs : Sees w s n (l.flatMap enc)) (hn : ∀ r ∈ l, (enc r).length = n) (h0 : 0 < n) : l.length = s.len :=
  Nat.eq_of_mul_eq_mul_right h0 ((flatMap_len l hn).symm.trans hs.1)

/-! ## Maps keyed by arrays of bytes -/
abbrev Arr (n : Nat) := {l : List Nat // l.length = n}
def arrV (l : List Nat) : Value := .agg (u8s l).toArray
theorem findAsking_law {P : Program} {kt : TypeId} {κ : Type} [DecidableEq κ] {enc : κ → Value} (h : ∀ (a b : κ) (w : World), (Op.equal kt (enc a) (enc b)).run P w = .ok (decide (a = b)) w) (k : κ) (w : World) :
    ∀ (l : List (κ × Value)) (es : List MapEntry) (i : Nat), es.map (fun e => (e.key, e.val)) = l.map (fun p => (enc p.1, p.2)) →
    (findAsking kt (enc k) es i).run P w = .ok ((l.findIdx? fun p => decide (p.1 = k)).bind fun j => (l[j]?).map fun p => (i + j, p.2)) w
  | [], [], i, _ => by simp [findAsking]
  | [], e :: es, i, he => by simp at he
  | p :: l, [], i, he => by simp at he
  | p :: l, e :: es, i, he => by
    simp only [List.map_cons, List.cons.injEq, Prod.mk.injEq] at he
    obtain ⟨⟨h1, h2⟩, h3⟩ := he
    simp only [findAsking, h1, Sem.run_bind, h, Result.andThen_ok]
    by_cases hk : k = p.1
    · simp [List.findIdx?_cons, hk, h2]
    · have hk' : ¬ p.1 = k := fun e => hk e.symm
      simp only [hk, decide_false, Bool.false_eq_true, if_false]
      rw [findAsking_law h k w l es (i + 1) h3]
      simp only [List.findIdx?_cons, hk', decide_false, Bool.false_eq_true, if_false]
      cases hf : l.findIdx? fun p => decide (p.1 = k) with
      | none => rfl
      | some j =>
        simp only [Option.map_some, Option.bind_some, List.getElem?_cons_succ]
        rw [show i + (j + 1) = i + 1 + j from by omega]
theorem check_parts {P : Program} {e : TypeId} {k : IntKind} {b : Bool} {m : Nat} (he : P.underlying e = some (.int k)) {z : Value} {bytes : Nat} (hz : TI P e z 1 bytes) (cs : Array Value) (w : World) : ∀ (c s : Nat), s + c ≤ cs.size →
    (forIn (List.range' s c) PUnit.unit fun i (_ : PUnit) => do checkKey b (m + 1) e (← part e cs (i * (← sizeOf e))); pure (ForInStep.yield PUnit.unit) : Sem PUnit).run P w = .ok PUnit.unit w
  | 0, s, _ => by simp
  | c + 1, s, h => by
    have ha : (isAgg e).run P w = .ok false w := by simp [isAgg, run_underlying he]
    have hv : cs[s]? = some cs[s] := by simp
    have hp : (part e cs s).run P w = .ok cs[s] w := by
      simp only [part, Sem.run_bind, ha, Result.andThen_ok, Bool.false_eq_true, if_false, hv, Sem.run_pure]
    have hck : (checkKey b (m + 1) e cs[s]).run P w = .ok () w := by simp [checkKey, run_underlying he]
    rw [List.range'_succ, List.forIn_cons]
    simp only [Sem.run_bind, hz.sizeOf, Result.andThen_ok, Nat.mul_one, hp, hck, Sem.run_pure]
    exact check_parts he hz cs w c (s + 1) (by omega)
theorem KeyLaw.arr {P : Program} {t e : TypeId} {n : Nat} {i : TypeInfo} {z : Value} {bytes : Nat} (ht : P.underlying t = some (.array n e)) (he : P.underlying e = some (.int .u8)) (hi : P.info? e = some i) (hz : TI P e z 1 bytes) (hc : P.cellsOf e = 1) (hg : P.eqGuardType P.depth t = false) :
    KeyLaw P t (fun k : Arr n => arrV k.1) where
  find k l es w hes := by
    have hlaw := findAsking_law (P := P) (kt := t) (enc := fun k : Arr n => arrV k.1) (fun a b w => by
      have := (EqOK.u8s ht he hi hc hg a.2 b.2).2 w 9995
      unfold Op.equal arrV
      rw [show Op.maxDepth = 9995 + 5 from rfl, this]
      simp only [Subtype.ext_iff]) k w l es 0 hes
    simp only [Nat.zero_add] at hlaw
    cases es with
    | nil =>
      have : l = [] := by cases l with | nil => rfl | cons => simp at hes
      subst this
      simp [findKey, run_underlying ht, findNow]
    | cons e0 es =>
      simp only [findKey, Sem.run_bind, run_underlying ht, Result.andThen_ok, findNow, sameNow]
      exact hlaw
  check b k w := by
    have : ∀ m, (checkKey b (m + 2) t (arrV k.1)).run P w = .ok () w := by
      intro m
      have hp := check_parts (P := P) (e := e) (b := b) (m := m) he hz (u8s k.1).toArray w n 0 (by simp [k.2])
      simp only [checkKey, arrV, Sem.run_bind, run_underlying ht, Result.andThen_ok]
      simp only [Std.Legacy.Range.forIn_eq_forIn_range', Std.Legacy.Range.size, Nat.sub_zero, Nat.add_one_sub_one, Nat.div_one]
      simp only [checkKey] at hp
      simp at hp ⊢
      rw [hp]
      rfl
    exact this 9998
  same k := by
    have : ∀ m, sameBits (m + 1) (arrV k.1) (arrV k.1) = true := by
      intro m
      simp only [sameBits, arrV, BEq.rfl, Bool.true_and, List.all_eq_true]
      intro p hp
      have h2 : ∀ (l : List Value), (∀ v ∈ l, ∃ n, v = .int .u8 n) → ∀ p ∈ l.zip l, sameBits m p.1 p.2 = true := by
        intro l
        induction l with
        | nil => simp
        | cons a l ih =>
          intro hl p hp
          simp only [List.zip_cons_cons, List.mem_cons] at hp
          rcases hp with rfl | hp
          · obtain ⟨n, rfl⟩ := hl a (by simp)
            cases m <;> simp [sameBits]
          · exact ih (fun v hv => hl v (by simp [hv])) p hp
      exact h2 _ (fun v hv => by obtain ⟨n, _, rfl⟩ := List.mem_map.1 (show v ∈ u8s k.1 from hv); exact ⟨_, rfl⟩) p hp
    exact this 9999

/-! ## Records put together -/
theorem fill_step {place : Nat → Option (Nat × Nat)} {cells : Array Value} {i off size : Nat} {v : Value} {rest : List (Nat × Value)} (pre mid post : List Value) (hp : place i = some (off, size)) (hc : cells.toList = pre ++ mid ++ post)
    (hl : pre.length = off) (hm : mid.length = size) (hv : v.cells.size = size) : fill place cells ((i, v) :: rest) = fill place (pre ++ v.cells.toList ++ post).toArray rest := by
  have hsz : cells.size = off + size + post.length := by
    have := congrArg List.length hc
    simp at this
    omega
  simp only [fill, hp]
  rw [if_neg (by simp [hv]; omega)]
  congr 1
  rw [← Array.foldl_toList, Array.toList_zipIdx]
  have h1 : ∀ (l : List Value) (k : Nat) (init : Array Value), (l.zipIdx k).foldl (fun (cs : Array Value) (p : Value × Nat) => cs.setIfInBounds (off + p.2) p.1) init = (l.zipIdx (off + k)).foldl (fun (cs : Array Value) (p : Value × Nat) => cs.setIfInBounds p.2 p.1) init := by
    intro l
    induction l with
    | nil => intro k init; rfl
    | cons a l ih => intro k init; simp only [List.zipIdx_cons, List.foldl_cons]; rw [ih (k + 1)]; rfl
  have h2 := h1 v.cells.toList 0 cells
  rw [h2, foldl_set _ _ _ (by simp [hv]; omega), hc]
  congr 1
  rw [show off + 0 = off from rfl, ← hl]
  simp only [List.append_assoc, List.take_left, List.append_cancel_left_eq]
  rw [show pre.length + v.cells.toList.length = (pre ++ mid).length from by simp [hv, hm], ← List.append_assoc, List.drop_left]
theorem fill_recs {n : Nat} : ∀ (xs : List (Array Value)) (k : Nat) (init : Array Value), (∀ x ∈ xs, x.size = n) → init.size = (k + xs.length) * n →
    fill (fun i => some (i * n, n)) init ((xs.zipIdx k).map fun p => (p.2, .agg p.1)) = some (init.toList.take (k * n) ++ xs.flatMap (·.toList)).toArray
  | [], k, init, _, h => by
    simp only [List.length_nil, Nat.add_zero] at h
    simp only [List.zipIdx_nil, List.map_nil, fill, List.flatMap_nil, List.append_nil]
    rw [List.take_of_length_le (by simp [h])]
  | x :: xs, k, init, hx, h => by
    have hxs := hx x (by simp)
    have hl : init.toList.length = k * n + n + xs.length * n := by
      simp only [List.length_cons] at h
      rw [Array.length_toList, h, Nat.add_mul, Nat.add_mul]; omega
    have h1 : init.toList = init.toList.take (k * n) ++ (init.toList.drop (k * n)).take n ++ init.toList.drop (k * n + n) := by
      rw [List.append_assoc, ← List.drop_drop, List.take_append_drop, List.take_append_drop]
    simp only [List.zipIdx_cons, List.map_cons]
    rw [fill_step (off := k * n) (size := n) _ _ _ rfl h1 (by rw [List.length_take]; omega) (by rw [List.length_take, List.length_drop]; omega) (by simpa [Value.cells] using hxs)]
    rw [fill_recs xs (k + 1) _ (fun y hy => hx y (by simp [hy])) (by
      have e : (k + 1 + xs.length) * n = k * n + n + xs.length * n := by rw [Nat.add_mul, Nat.add_mul, Nat.one_mul]
      have e2 : x.toList.length = n := by simpa using hxs
      rw [e]
      simp only [List.size_toArray, List.length_append, List.length_take, List.length_drop, Value.cells, hl, e2]
      omega)]
    congr 1
    simp only [List.flatMap_cons, Value.cells]
    congr 1
    have hlen : (init.toList.take (k * n) ++ x.toList).length = (k + 1) * n := by
      have e2 : x.toList.length = n := by simpa using hxs
      rw [List.length_append, List.length_take, e2, hl, Nat.add_mul]; omega
    rw [← hlen, List.take_left, List.append_assoc]
end Go.X
