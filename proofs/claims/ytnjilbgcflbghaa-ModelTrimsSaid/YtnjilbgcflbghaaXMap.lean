/- Maps: what a block of a map holds, and the laws of look-up, update, delete, len. -/
import Derived.Test.YtnjilbgcflbghaaXMem
import Derived.Maps.RangeRun
set_option linter.all false
namespace Go.X
open Go Go.Instr

/-- What keys of a kind do. -/
structure KeyLaw (P : Program) (kt : TypeId) {κ : Type} [DecidableEq κ] (enc : κ → Value) : Prop where
  find : ∀ (k : κ) (l : List (κ × Value)) (es : List MapEntry) (w : World), es.map (fun e => (e.key, e.val)) = l.map (fun p => (enc p.1, p.2)) →
    (findKey kt (enc k) es).run P w = .ok ((l.findIdx? fun p => decide (p.1 = k)).bind fun i => (l[i]?).map fun p => (i, p.2)) w
  check : ∀ (b : Bool) (k : κ) (w : World), (checkKey b 10000 kt (enc k)).run P w = .ok () w
  same : ∀ k : κ, sameBits 10000 (enc k) (enc k) = true

theorem findNow_law {κ : Type} [DecidableEq κ] {enc : κ → Value} {d : TypeDesc} (h : ∀ a b : κ, sameNow d (enc a) (enc b) = some (decide (a = b))) (k : κ) :
    ∀ (l : List (κ × Value)) (es : List MapEntry) (i : Nat), es.map (fun e => (e.key, e.val)) = l.map (fun p => (enc p.1, p.2)) →
    findNow d (enc k) es i = some ((l.findIdx? fun p => decide (p.1 = k)).bind fun j => (l[j]?).map fun p => (i + j, p.2))
  | [], [], i, _ => by simp [findNow]
  | [], e :: es, i, he => by simp at he
  | p :: l, [], i, he => by simp at he
  | p :: l, e :: es, i, he => by
    simp only [List.map_cons, List.cons.injEq, Prod.mk.injEq] at he
    obtain ⟨⟨h1, h2⟩, h3⟩ := he
    simp only [findNow, h1, h]
    by_cases hk : k = p.1
    · simp [List.findIdx?_cons, hk, h2]
    · have hk' : ¬ p.1 = k := fun e => hk e.symm
      simp only [hk, decide_false]
      rw [findNow_law h k l es (i + 1) h3]
      simp only [List.findIdx?_cons, hk', decide_false, Bool.false_eq_true, if_false]
      cases hf : l.findIdx? fun p => decide (p.1 = k) with
      | none => rfl
      | some j =>
        simp only [Option.map_some, Option.bind_some, List.getElem?_cons_succ]
        rw [show i + (j + 1) = i + 1 + j from by omega]

theorem KeyLaw.mk_now {P : Program} {kt : TypeId} {κ : Type} [DecidableEq κ] {enc : κ → Value} {d : TypeDesc} (hd : P.underlying kt = some d) (h : ∀ a b : κ, sameNow d (enc a) (enc b) = some (decide (a = b)))
    (hc : ∀ (b : Bool) (k : κ) (w : World), (checkKey b 10000 kt (enc k)).run P w = .ok () w) (hs : ∀ k : κ, sameBits 10000 (enc k) (enc k) = true) : KeyLaw P kt enc where
  find k l es w he := by
    simp only [findKey, Sem.run_bind, run_underlying hd, Result.andThen_ok, findNow_law h k l es 0 he, Sem.run_pure, Nat.zero_add]
  check := hc
  same := hs

theorem check_run {P : Program} {kt : TypeId} {d : TypeDesc} {v : Value} (hd : P.underlying kt = some d) (h1 : ∀ m, d ≠ .interface m) (h2 : ∀ n e, d ≠ .array n e) (h3 : ∀ f, d ≠ .struct f) (b : Bool) (w : World) : (checkKey b 10000 kt v).run P w = .ok () w := by
  suffices h : ∀ n, (checkKey b (n + 1) kt v).run P w = .ok () w from h 9999
  intro n
  simp only [checkKey, Sem.run_bind, run_underlying hd, Result.andThen_ok]
  cases d <;> first | (exact absurd rfl (h1 _)) | (exact absurd rfl (h2 _ _)) | (exact absurd rfl (h3 _)) | simp
theorem bytes_beq (a b : ByteArray) : (a == b) = decide (a = b) := by
  rw [Bool.eq_iff_iff, decide_eq_true_eq]
  constructor
  · intro h
    cases a; cases b
    simp only [ByteArray.mk.injEq]
    exact beq_iff_eq.1 h
  · rintro rfl
    cases a
    exact (beq_iff_eq (α := Array UInt8)).2 rfl
theorem same_int {k : IntKind} (n : Int) : sameBits 10000 (.int k n) (.int k n) = true := by
  suffices h : ∀ m, sameBits m (.int k n) (.int k n) = true from h 10000
  intro m; cases m <;> simp [sameBits]
theorem same_str (n : ByteArray) : sameBits 10000 (.string n) (.string n) = true := by
  suffices h : ∀ m, sameBits m (.string n) (.string n) = true from h 10000
  intro m; cases m <;> simp [sameBits, bytes_beq]
theorem KeyLaw.int {P : Program} {kt : TypeId} {k : IntKind} (hd : P.underlying kt = some (.int k)) : KeyLaw P kt (Value.int k) :=
  .mk_now hd (fun a b => by simp [sameNow, BEq.beq]) (fun b n w => check_run hd (by simp) (by simp) (by simp) b w) (fun n => same_int n)
theorem KeyLaw.string {P : Program} {kt : TypeId} (hd : P.underlying kt = some .string) : KeyLaw P kt Value.string :=
  .mk_now hd (fun a b => by simp only [sameNow, bytes_beq]) (fun b n w => check_run hd (by simp) (by simp) (by simp) b w) (fun n => same_str n)

/-- What a block of a map holds. -/
def MapB {κ : Type} (w : World) (r : Nat) (enc : κ → Value) (l : List (κ × Value)) : Prop :=
  ∃ (es : Array MapEntry) (clock : Nat), w.heap[r]? = some (.map es clock) ∧ es.toList.map (fun e => (e.key, e.val)) = l.map (fun p => (enc p.1, p.2)) ∧ (l.map (·.1)).Nodup ∧
    (es.toList.map (·.born)).Pairwise (· < ·) ∧ ∀ e ∈ es.toList, e.born < clock
/-- The value at a key. -/
def mget {κ β : Type} [DecidableEq κ] (l : List (κ × β)) (k : κ) : Option β := (l.find? fun p => decide (p.1 = k)).map (·.2)
def mset {κ β : Type} [DecidableEq κ] (l : List (κ × β)) (k : κ) (v : β) : List (κ × β) :=
  if (l.map (·.1)).contains k then l.map fun p => if p.1 = k then (k, v) else p else l ++ [(k, v)]
def mdel {κ β : Type} [DecidableEq κ] (l : List (κ × β)) (k : κ) : List (κ × β) := l.filter fun p => !decide (p.1 = k)
section
variable {κ : Type} [DecidableEq κ] {enc : κ → Value} {P : Program} {w : World} {r : Nat} {l : List (κ × Value)}
omit [DecidableEq κ] in
theorem MapB.lt (h : MapB w r enc l) : r < w.heap.size := by
  obtain ⟨es, c, h, _⟩ := h
  exact (Array.getElem?_eq_some_iff.1 h).1
omit [DecidableEq κ] in
theorem MapB.ch {S : Nat → Prop} {w' : World} (h : MapB w r enc l) (hc : Ch S w w') (hs : ¬ S r) : MapB w' r enc l := by
  obtain ⟨es, c, h1, h2⟩ := h
  exact ⟨es, c, (hc.block r (Array.getElem?_eq_some_iff.1 h1).1 hs).trans h1, h2⟩
omit [DecidableEq κ] in
theorem MapB.ext {w' : World} (h : MapB w r enc l) (hc : Ext w w') : MapB w' r enc l := h.ch hc id

theorem find_idx (l : List (κ × Value)) (k : κ) : ((l.findIdx? fun p => decide (p.1 = k)).bind fun i => (l[i]?).map fun p => (i, p.2)).map (·.2) = mget l k := by
  unfold mget
  rw [List.findIdx?_eq_guard_findIdx_lt, List.find?_eq_getElem?_findIdx]
  by_cases h : l.findIdx (fun p => decide (p.1 = k)) < l.length
  · simp [Option.guard, h]
  · simp [Option.guard, h]

theorem lookup_run {t kt et : TypeId} {z : Value} {size bytes : Nat} (hk : KeyLaw P kt enc) (ht : P.underlying t = some (.map kt et)) (hz : TI P et z size bytes) (hm : MapB w r enc l) (k : κ) :
    (Instr.lookup t (.map (some r)) (enc k) true).run P w = .ok (.tuple #[(mget l k).getD z, .bool (mget l k).isSome]) w := by
  obtain ⟨es, c, h1, h2, h3⟩ := hm
  have hf := hk.find k l es.toList w h2
  have hg := find_idx l k
  have hobj : (getObj r).run P w = .ok (.map es c) w := by simp [getObj, Sem.run, h1]
  simp only [Instr.lookup, Sem.run_bind, run_underlying ht, Result.andThen_ok, hobj, hk.check, hf, Sem.run_pure]
  cases hq : ((l.findIdx? fun p => decide (p.1 = k)).bind fun i => (l[i]?).map fun p => (i, p.2)) with
  | none => rw [hq] at hg; simp [← hg, hz.zeroValue]
  | some q => rw [hq] at hg; simp [← hg]
theorem lookup_run1 {t kt et : TypeId} {z : Value} {size bytes : Nat} (hk : KeyLaw P kt enc) (ht : P.underlying t = some (.map kt et)) (hz : TI P et z size bytes) (hm : MapB w r enc l) (k : κ) :
    (Instr.lookup t (.map (some r)) (enc k) false).run P w = .ok ((mget l k).getD z) w := by
  obtain ⟨es, c, h1, h2, h3⟩ := hm
  have hf := hk.find k l es.toList w h2
  have hg := find_idx l k
  have hobj : (getObj r).run P w = .ok (.map es c) w := by simp [getObj, Sem.run, h1]
  simp only [Instr.lookup, Sem.run_bind, run_underlying ht, Result.andThen_ok, hobj, hk.check, hf, Sem.run_pure]
  cases hq : ((l.findIdx? fun p => decide (p.1 = k)).bind fun i => (l[i]?).map fun p => (i, p.2)) with
  | none => rw [hq] at hg; simp [← hg, hz.zeroValue]
  | some q => rw [hq] at hg; simp [← hg]
theorem len_run {t kt et ty : TypeId} (ht : P.underlying t = some (.map kt et)) (hm : MapB w r enc l) : (Builtin.len_ #[t] ty #[.map (some r)]).run P w = .ok (.int .i64 l.length) w := by
  obtain ⟨es, c, h1, h2, h3⟩ := hm
  have hobj : (getObj r).run P w = .ok (.map es c) w := by simp [getObj, Sem.run, h1]
  have hlen : es.size = l.length := by have := congrArg List.length h2; simpa using this
  simp [Builtin.len_, run_underlying ht, hobj, goInt, hlen]
theorem makeMap_run {t : TypeId} : ∃ w', (Instr.makeMap t none).run P w = .ok (.map (some w.heap.size)) w' ∧ MapB w' w.heap.size enc ([] : List (κ × Value)) ∧ Ext w w' ∧ w'.heap.size = w.heap.size + 1 :=
  ⟨w.alloc (.map #[] 0), by simp [Instr.makeMap, newObj, Sem.run], ⟨#[], 0, by show (w.heap.push _)[w.heap.size]? = _; simp, rfl, by simp, by simp, by simp⟩, Ch.alloc w _, by simp⟩
theorem setObj_run {o o' : Obj} (h : w.heap[r]? = some o) (hc : ∀ c e f, o ≠ .cells c e f) : ∃ w', (setObj r o').run P w = .ok () w' ∧ w'.heap[r]? = some o' ∧ Ch (· = r) w w' ∧ w'.heap.size = w.heap.size := by
  have hlt := (Array.getElem?_eq_some_iff.1 h).1
  refine ⟨{ w with heap := w.heap.setIfInBounds r o' }, ?_, ?_, ⟨rfl, rfl, rfl, by simp, fun k hk hn => ?_⟩, by simp⟩
  · cases o <;> first | (exact absurd rfl (hc _ _ _)) | simp [setObj, Sem.run, h]
  · simp [hlt]
  · show (w.heap.setIfInBounds r o')[k]? = _
    rw [Array.getElem?_setIfInBounds_ne (fun e => hn e.symm)]
theorem mapUpdate_run {t kt et : TypeId} (hk : KeyLaw P kt enc) (ht : P.underlying t = some (.map kt et)) (hm : MapB w r enc l) (k : κ) (v : Value) :
    ∃ w', (Instr.mapUpdate t (.map (some r)) (enc k) v).run P w = .ok () w' ∧ MapB w' r enc (mset l k v) ∧ Ch (· = r) w w' ∧ w'.heap.size = w.heap.size := by
  obtain ⟨es, c, h1, h2, h3, h4, h5⟩ := hm
  have hf := hk.find k l es.toList w h2
  have hobj : (getObj r).run P w = .ok (.map es c) w := by simp [getObj, Sem.run, h1]
  have hlen : es.size = l.length := by have := congrArg List.length h2; simpa using this
  cases hq : l.findIdx? fun p => decide (p.1 = k) with
  | none =>
    rw [hq] at hf
    obtain ⟨w', e1, e2, e3, e4⟩ := setObj_run (P := P) (w := w) (o' := .map (es.push { key := enc k, val := v, born := c }) (c + 1)) h1 (by simp)
    refine ⟨w', ?_, ⟨_, _, e2, ?_, ?_, ?_, ?_⟩, e3, e4⟩
    · simp only [Instr.mapUpdate, Sem.run_bind, run_underlying ht, Result.andThen_ok, hobj, hk.check, hf, Option.bind_none, e1]
    · have hc : (l.map (·.1)).contains k = false := by
        rw [List.findIdx?_eq_none_iff] at hq
        simp only [List.contains_eq_mem, List.mem_map, decide_eq_false_iff_not, not_exists, not_and]
        intro p hp e
        simpa [e] using hq p hp
      simp only [mset, hc, Bool.false_eq_true, if_false, Array.toList_push, List.map_append, h2, List.map_cons, List.map_nil]
    · have hc : k ∉ l.map (·.1) := by
        rw [List.findIdx?_eq_none_iff] at hq
        simp only [List.mem_map, not_exists, not_and]
        intro p hp e
        simpa [e] using hq p hp
      have hc' : (l.map (·.1)).contains k = false := by simpa using hc
      simp only [mset, hc', Bool.false_eq_true, if_false, List.map_append, List.map_cons, List.map_nil]
      rw [List.nodup_append]
      refine ⟨h3, by simp, ?_⟩
      intro a ha b hb
      simp only [List.mem_singleton] at hb
      rintro rfl
      exact hc (hb ▸ ha)
    · simp only [Array.toList_push, List.map_append, List.map_cons, List.map_nil]
      rw [List.pairwise_append]
      refine ⟨h4, by simp, ?_⟩
      intro a ha b hb
      simp only [List.mem_singleton] at hb
      obtain ⟨e, he, rfl⟩ := List.mem_map.1 ha
      rw [hb]
      exact h5 e he
    · intro e he
      simp only [Array.toList_push, List.mem_append, List.mem_singleton] at he
      rcases he with he | rfl
      · have := h5 e he; omega
      · simp
  | some i =>
    rw [hq] at hf
    rw [List.findIdx?_eq_some_iff_getElem] at hq
    obtain ⟨hi, hik, _⟩ := hq
    have hik' : l[i].1 = k := by simpa using hik
    have hie : i < es.size := by omega
    have hg : es.toList[i]? = some es[i] := by simp [hie]
    have hkey : es[i].key = enc k := by
      have := congrArg (fun x => x[i]?) h2
      simp only [List.getElem?_map, hg, Option.map_some, List.getElem?_eq_getElem hi, Option.some.injEq, Prod.mk.injEq] at this
      rw [this.1, hik']
    obtain ⟨w', e1, e2, e3, e4⟩ := setObj_run (P := P) (w := w) (o' := .map (es.modify i fun e => { e with key := enc k, val := v }) c) h1 (by simp)
    have hc : (l.map (·.1)).contains k = true := by
      simp only [List.contains_eq_mem, decide_eq_true_eq, List.mem_map]
      exact ⟨l[i], List.getElem_mem hi, hik'⟩
    refine ⟨w', ?_, ⟨_, _, e2, ?_, ?_, ?_, ?_⟩, e3, e4⟩
    · have hks : (keyThatStays (enc k) (enc k)).run P w = .ok (enc k) w := by simp [keyThatStays, hk.same]
      have hkk : ((es[i]?.map (·.key)).getD (enc k)) = enc k := by simp [hie, hkey]
      simp only [Instr.mapUpdate, Sem.run_bind, run_underlying ht, Result.andThen_ok, hobj, hk.check, hf, Option.bind_some, List.getElem?_eq_getElem hi, Option.map_some, hkk, hks, e1]
    · simp only [mset, hc, if_true]
      apply List.ext_getElem?
      intro j
      have hj := congrArg (fun x => x[j]?) h2
      simp only [List.getElem?_map] at hj
      simp only [Array.toList_modify, List.getElem?_map, List.getElem?_modify]
      by_cases hji : i = j
      · subst hji
        simp only [hg, if_true, Option.map_some, List.getElem?_eq_getElem hi, hik', Option.map_some, if_true]
        simp
      · simp only [hji, if_false]
        rw [show (fun a : MapEntry => a) <$> es.toList[j]? = es.toList[j]? from by cases es.toList[j]? <;> rfl] 
        rw [hj]
        cases hlj : l[j]? with
        | none => rfl
        | some p =>
          have hne : ¬ p.1 = k := by
            intro e
            have hjl : j < l.length := (List.getElem?_eq_some_iff.1 hlj).1
            refine hji ((List.getElem?_inj (l := l.map (·.1)) (i := i) (j := j) (by simpa using hi) h3).1 ?_)
            simp [hlj, List.getElem?_eq_getElem hi, hik', e]
          simp [hne]
    · simp only [mset, hc, if_true, List.map_map]
      have : (List.map ((fun x => x.1) ∘ fun p : κ × Value => if p.1 = k then (k, v) else p) l) = l.map (·.1) := by
        apply List.map_congr_left
        intro p _
        simp only [Function.comp]
        split
        · rename_i e; simp [e]
        · rfl
      rw [this]
      exact h3
    · have : ((es.modify i fun e => { e with key := enc k, val := v }).toList.map (·.born)) = es.toList.map (·.born) := by
        simp only [Array.toList_modify]
        apply List.ext_getElem?
        intro j
        simp only [List.getElem?_map, List.getElem?_modify]
        by_cases hji : i = j
        · subst hji; simp [hg]
        · simp [hji]
      rw [this]
      exact h4
    · intro e he
      simp only [Array.toList_modify] at he
      obtain ⟨j, hj⟩ := List.mem_iff_getElem?.1 he
      simp only [List.getElem?_modify] at hj
      by_cases hji : i = j
      · subst hji
        simp only [hg, if_true, Option.map_eq_map, Option.map_some, Option.some.injEq] at hj
        subst hj
        exact h5 es[i] (by simp)
      · simp only [hji, if_false] at hj
        rw [show (fun a : MapEntry => a) <$> es.toList[j]? = es.toList[j]? from by cases es.toList[j]? <;> rfl] at hj
        exact h5 e (List.mem_of_getElem? hj)
theorem delete_run {t kt et ty : TypeId} {ts : Array TypeId} (hk : KeyLaw P kt enc) (h0 : ts[0]? = some t) (ht : P.underlying t = some (.map kt et)) (hm : MapB w r enc l) (k : κ) :
    ∃ w', (Builtin.delete_ ts ty #[.map (some r), enc k]).run P w = .ok (.tuple #[]) w' ∧ MapB w' r enc (mdel l k) ∧ Ch (· = r) w w' ∧ w'.heap.size = w.heap.size := by
  obtain ⟨es, c, h1, h2, h3, h4, h5⟩ := hm
  have hf := hk.find k l es.toList w h2
  have hobj : (getObj r).run P w = .ok (.map es c) w := by simp [getObj, Sem.run, h1]
  have hlen : es.size = l.length := by have := congrArg List.length h2; simpa using this
  cases hq : l.findIdx? fun p => decide (p.1 = k) with
  | none =>
    rw [hq] at hf
    obtain ⟨w', e1, e2, e3, e4⟩ := setObj_run (P := P) (w := w) (o' := .map es c) h1 (by simp)
    have hd : mdel l k = l := by
      rw [List.findIdx?_eq_none_iff] at hq
      unfold mdel
      rw [List.filter_eq_self]
      intro p hp
      simpa using hq p hp
    refine ⟨w', ?_, ⟨_, _, e2, by rw [hd]; exact h2, by rw [hd]; exact h3, h4, h5⟩, e3, e4⟩
    simp [Builtin.delete_, h0, run_underlying ht, hobj, hk.check, hf, e1]
  | some i =>
    rw [hq] at hf
    rw [List.findIdx?_eq_some_iff_getElem] at hq
    obtain ⟨hi, hik, hlt⟩ := hq
    have hik' : l[i].1 = k := by simpa using hik
    have hd : mdel l k = l.eraseIdx i := by
      unfold mdel
      have hsp : l = l.take i ++ l[i] :: l.drop (i + 1) := by rw [← List.drop_eq_getElem_cons hi, List.take_append_drop]
      have hnd := h3
      rw [hsp, List.map_append, List.map_cons, List.nodup_append] at hnd
      obtain ⟨n1, n2, n3⟩ := hnd
      rw [List.nodup_cons] at n2
      conv => lhs; rw [hsp]
      rw [List.filter_append, List.filter_cons, List.eraseIdx_eq_take_drop_succ]
      have a1 : (l.take i).filter (fun p => !decide (p.1 = k)) = l.take i := by
        rw [List.filter_eq_self]
        intro p hp
        have := n3 p.1 (List.mem_map.2 ⟨p, hp, rfl⟩) l[i].1 (by simp)
        rw [hik'] at this
        simpa using this
      have a2 : (l.drop (i + 1)).filter (fun p => !decide (p.1 = k)) = l.drop (i + 1) := by
        rw [List.filter_eq_self]
        intro p hp
        have : p.1 ≠ k := fun e => n2.1 (by rw [hik', ← e]; exact List.mem_map.2 ⟨p, hp, rfl⟩)
        simpa using this
      rw [a1, a2]
      simp [hik']
    obtain ⟨w', e1, e2, e3, e4⟩ := setObj_run (P := P) (w := w) (o' := .map (es.eraseIdxIfInBounds i) c) h1 (by simp)
    refine ⟨w', ?_, ⟨_, _, e2, ?_, ?_, ?_, ?_⟩, e3, e4⟩
    · simp [Builtin.delete_, h0, run_underlying ht, hobj, hk.check, hf, e1, hi]
    · rw [hd, Array.toList_eraseIdxIfInBounds, Go.ChangeMaps.map_eraseIdx, Go.ChangeMaps.map_eraseIdx, h2]
    · rw [hd, Go.ChangeMaps.map_eraseIdx]
      exact h3.sublist (List.eraseIdx_sublist _ _)
    · rw [Array.toList_eraseIdxIfInBounds, Go.ChangeMaps.map_eraseIdx]
      exact h4.sublist (List.eraseIdx_sublist _ _)
    · intro e he
      rw [Array.toList_eraseIdxIfInBounds] at he
      exact h5 e (List.mem_of_mem_eraseIdx he)

/-! ## Ranges over a map that the loop leaves alone -/
/-- A range's iterator: what is left of the map's entries. -/
def RangeB {κ : Type} (w : World) (r bm : Nat) (enc : κ → Value) (l left : List (κ × Value)) : Prop :=
  r ≠ bm ∧ ∃ (es : Array MapEntry) (c : Nat) (seen : Array Nat), w.heap[r]? = some (.mapIter (some bm) c seen c) ∧ w.heap[bm]? = some (.map es c) ∧ es.toList.map (fun e => (e.key, e.val)) = l.map (fun p => (enc p.1, p.2)) ∧ (l.map (·.1)).Nodup ∧
    (es.toList.map (·.born)).Pairwise (· < ·) ∧ (∀ e ∈ es.toList, e.born < c) ∧ (leftOf es seen).toList.map (fun e => (e.key, e.val)) = left.map (fun p => (enc p.1, p.2)) ∧ left.length + seen.size = l.length
/-- How many entries an iterator has handed out. -/
def iterN (w : World) (r : Nat) : Nat := match w.heap[r]? with | some (.mapIter _ _ seen _) => seen.size | _ => 0
omit [DecidableEq κ] in
theorem RangeB.count {bm : Nat} {left : List (κ × Value)} (h : RangeB w r bm enc l left) : left.length + iterN w r = l.length := by
  obtain ⟨hne, es, c, seen, a, b, _, _, _, _, _, h⟩ := h
  unfold iterN
  rw [a]
  exact h
omit [DecidableEq κ] in
theorem RangeB.ch {S : Nat → Prop} {w' : World} {bm : Nat} {left : List (κ × Value)} (h : RangeB w r bm enc l left) (hc : Ch S w w') (h1 : ¬ S r) (h2 : ¬ S bm) : RangeB w' r bm enc l left := by
  obtain ⟨hne, es, c, seen, a, b, rest⟩ := h
  exact ⟨hne, es, c, seen, (hc.block r (Array.getElem?_eq_some_iff.1 a).1 h1).trans a, (hc.block bm (Array.getElem?_eq_some_iff.1 b).1 h2).trans b, rest⟩
omit [DecidableEq κ] in
theorem RangeB.ext {w' : World} {bm : Nat} {left : List (κ × Value)} (h : RangeB w r bm enc l left) (hc : Ext w w') : RangeB w' r bm enc l left := h.ch hc id id
omit [DecidableEq κ] in
theorem RangeB.map {bm : Nat} {left : List (κ × Value)} (h : RangeB w r bm enc l left) : MapB w bm enc l := by
  obtain ⟨hne, es, c, seen, a, b, h2, h3, h4, h5, h6, h7⟩ := h
  exact ⟨es, c, b, h2, h3, h4, h5⟩
omit [DecidableEq κ] in
theorem range_run {t kt et : TypeId} (ht : P.underlying t = some (.map kt et)) (hm : MapB w r enc l) :
    ∃ w', (Instr.range t (.map (some r))).run P w = .ok (.pointer (some ⟨w.heap.size, 0, none⟩)) w' ∧ RangeB w' w.heap.size r enc l l ∧ Ext w w' ∧ w'.heap.size = w.heap.size + 1 := by
  have hlt := hm.lt
  obtain ⟨es, c, h1, h2, h3, h4, h5⟩ := hm
  have hobj : (getObj r).run P w = .ok (.map es c) w := by simp [getObj, Sem.run, h1]
  refine ⟨w.alloc (.mapIter (some r) c #[] c), by simp [Instr.range, run_underlying ht, hobj, newObj, Sem.run], ⟨by omega, es, c, #[], ?_, ?_, h2, h3, h4, h5, ?_, by simp⟩, Ch.alloc w _, by simp⟩
  · show (w.heap.push _)[w.heap.size]? = _; simp
  · rw [Go.RowKit.Below.heap_alloc w _ r hlt]; exact h1
  · have : leftOf es #[] = es := by unfold leftOf; rw [Array.filter_eq_self]; simp
    rw [this, h2]
theorem filter_born (L : List MapEntry) (hn : (L.map (·.born)).Nodup) (i : Nat) (hi : i < L.length) : L.filter (fun e => !decide (e.born = L[i].born)) = L.eraseIdx i := by
  have hsp : L = L.take i ++ L[i] :: L.drop (i + 1) := by rw [← List.drop_eq_getElem_cons hi, List.take_append_drop]
  have hnd := hn
  rw [hsp, List.map_append, List.map_cons, List.nodup_append] at hnd
  obtain ⟨n1, n2, n3⟩ := hnd
  rw [List.nodup_cons] at n2
  generalize he : L[i] = e at *
  conv => lhs; rw [hsp]
  rw [List.filter_append, List.filter_cons, List.eraseIdx_eq_take_drop_succ]
  have a1 : (L.take i).filter (fun p => !decide (p.born = e.born)) = L.take i := by
    rw [List.filter_eq_self]
    intro p hp
    have := n3 p.born (List.mem_map.2 ⟨p, hp, rfl⟩) e.born (by simp)
    simpa using this
  have a2 : (L.drop (i + 1)).filter (fun p => !decide (p.born = e.born)) = L.drop (i + 1) := by
    rw [List.filter_eq_self]
    intro p hp
    have : p.born ≠ e.born := fun e' => n2.1 (by rw [← e']; exact List.mem_map.2 ⟨p, hp, rfl⟩)
    simpa using this
  rw [a1, a2]
  simp
omit [DecidableEq κ] in
theorem next_run {ty : TypeId} {bm : Nat} {left : List (κ × Value)} (h : RangeB w r bm enc l left) :
    (left = [] ∧ (Instr.next (.pointer (some ⟨r, 0, none⟩)) false ty).run P w = .ok (.tuple #[.bool false]) w) ∨
    ∃ (i : Nat) (hi : i < left.length) (w' : World), (Instr.next (.pointer (some ⟨r, 0, none⟩)) false ty).run P w = .ok (.tuple #[.bool true, enc left[i].1, left[i].2]) w' ∧
      (Instr.entry (.pointer (some ⟨r, 0, none⟩))).run P w' = .ok (.tuple #[enc left[i].1, left[i].2]) w' ∧ RangeB w' r bm enc l (left.eraseIdx i) ∧ Ch (· = r) w w' ∧ w'.heap.size = w.heap.size := by
  obtain ⟨hne, es, c, seen, a, b, h2, h3, h4, h5, h6, h7⟩ := h
  have hll : (leftOf es seen).toList.length = left.length := by have := congrArg List.length h6; simpa using this
  rcases run_next_at (P := P) w ty r bm c c seen es c a b h5 (Nat.le_refl _) with ⟨h0, hr⟩ | ⟨e, he, w1, hw1, hr⟩
  · left
    exact ⟨List.eq_nil_of_length_eq_zero (by rw [← hll]; simpa using h0), hr⟩
  · right
    obtain ⟨i, hi, hie⟩ := List.getElem_of_mem he
    have hkv : (e.key, e.val) = (enc left[i].1, left[i].2) := by
      have := congrArg (fun x => x[i]?) h6
      simp only [List.getElem?_map, List.getElem?_eq_getElem hi, List.getElem?_eq_getElem (show i < left.length by omega), Option.map_some, Option.some.injEq] at this
      rw [← hie]
      exact this
    simp only [Prod.mk.injEq] at hkv
    have hsub : (leftOf es seen).toList.Sublist es.toList := by unfold leftOf; rw [Array.toList_filter]; exact List.filter_sublist
    have hnd : (es.toList.map (·.born)).Nodup := h4.imp fun h => Nat.ne_of_lt h
    have hc1 : Ext w w1 := by rcases hw1 with rfl | rfl; exact Ch.refl _ _; exact Ch.drew _
    have hs1 : w1.heap = w.heap := by rcases hw1 with rfl | rfl <;> rfl
    have hlt : r < w.heap.size := (Array.getElem?_eq_some_iff.1 a).1
    have ar : (Go.ChangeMaps.setBlock w1 r (.mapIter (some bm) c (seen.push e.born) c)).heap[r]? = some (.mapIter (some bm) c (seen.push e.born) c) := by
      simp [Go.ChangeMaps.setBlock, hs1, hlt]
    have bb : (Go.ChangeMaps.setBlock w1 r (.mapIter (some bm) c (seen.push e.born) c)).heap[bm]? = some (.map es c) := by
      simp only [Go.ChangeMaps.setBlock, hs1]
      rw [Array.getElem?_setIfInBounds_ne hne]
      exact b
    refine ⟨i, by omega, _, by rw [← hkv.1, ← hkv.2]; exact hr, by rw [← hkv.1, ← hkv.2]; exact run_entry_at (P := P) _ r bm c seen es c e ar bb (hsub.subset he) hnd, ⟨hne, es, c, _, ar, bb, h2, h3, h4, h5, ?_, by rw [List.length_eraseIdx_of_lt (by omega), Array.size_push]; omega⟩, ?_, by simp [Go.ChangeMaps.setBlock, hs1]⟩
    · have : (leftOf es (seen.push e.born)).toList = (leftOf es seen).toList.eraseIdx i := by
        rw [← filter_born _ (hnd.sublist (hsub.map _)) i hi, hie]
        unfold leftOf
        simp only [Array.toList_filter, List.filter_filter]
        apply List.filter_congr
        intro x _
        simp [Array.contains_push, Bool.and_comm, eq_comm]
      rw [this, Go.ChangeMaps.map_eraseIdx, h6, Go.ChangeMaps.map_eraseIdx]
    · refine hc1.step (T := (· = r)) ⟨rfl, rfl, rfl, by simp [Go.ChangeMaps.setBlock], fun k hk hn => ?_⟩ (fun _ _ h => h.elim) (fun _ _ h => h)
      simp only [Go.ChangeMaps.setBlock]
      rw [Array.getElem?_setIfInBounds_ne (fun e => hn e.symm)]

/-! ## Maps of typed values -/
variable {β : Type}
theorem mget_map (l : List (κ × β)) (f : β → Value) (k : κ) : mget (l.map fun p => (p.1, f p.2)) k = (mget l k).map f := by
  unfold mget
  induction l with
  | nil => rfl
  | cons p l ih => simp only [List.map_cons, List.find?_cons]; split <;> simp_all
theorem mset_map (l : List (κ × β)) (f : β → Value) (k : κ) (v : β) : mset (l.map fun p => (p.1, f p.2)) k (f v) = (mset l k v).map fun p => (p.1, f p.2) := by
  unfold mset
  have h : (l.map fun p => (p.1, f p.2)).map (·.1) = l.map (·.1) := by rw [List.map_map]; rfl
  rw [h]
  split
  · simp only [List.map_map]
    apply List.map_congr_left
    intro p _
    simp only [Function.comp]
    split <;> rfl
  · simp
theorem mdel_map (l : List (κ × β)) (f : β → Value) (k : κ) : mdel (l.map fun p => (p.1, f p.2)) k = (mdel l k).map fun p => (p.1, f p.2) := by
  unfold mdel
  rw [List.filter_map]
  rfl
end
end Go.X
