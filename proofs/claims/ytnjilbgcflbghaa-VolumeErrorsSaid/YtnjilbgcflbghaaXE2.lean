/- Laid by program. -/
import Derived.Test.YtnjilbgcflbghaaXE1
import Derived.Maps.RangeRun
import Derived.ChangeKeysEq
import Derived.Lib.ConvBytes
import Derived.Laws.Strings
import GoSem.ClaimWide
import Derived.Laws.Externs
import GoSem.Extern.MapsClone
import GoSem.Extern.BytealgCompare
import Derived.RangeFuncIn
/- Plain laws on numbers: bytes, varints. -/
set_option linter.all false
namespace Go.X
open Go
def u8s (l : List Nat) : List Value := l.map fun n : Nat => .int .u8 (n : Int)
@[simp] theorem u8s_nil : u8s [] = [] := rfl
@[simp] theorem u8s_cons (a : Nat) (l : List Nat) : u8s (a :: l) = .int .u8 (a : Int) :: u8s l := rfl
@[simp] theorem u8s_append (a b : List Nat) : u8s (a ++ b) = u8s a ++ u8s b := by simp [u8s]
@[simp] theorem u8s_length (a : List Nat) : (u8s a).length = a.length := by simp [u8s]
theorem u8s_one (l : List Nat) : ∀ u ∈ u8s l, u.oneCell' = true := by
  intro u hu
  obtain ⟨n, _, rfl⟩ := List.mem_map.1 hu
  rfl
theorem u8s_inj {a b : List Nat} (h : u8s a = u8s b) : a = b := by
  have hinj : Function.Injective (fun n : Nat => Value.int .u8 (n : Int)) := fun x y hxy => by
    simp only [Value.int.injEq, true_and] at hxy
    omega
  exact (List.map_inj_right (fun x y hxy => hinj hxy)).1 h

/-- A number, seven bits a byte. -/
def vint (v : Nat) : List Nat := if h : v < 128 then [v] else (v % 128 + 128) :: vint (v / 128)
theorem vint_small {v : Nat} (h : v < 128) : vint v = [v] := by rw [vint, dif_pos h]
theorem vint_big {v : Nat} (h : ¬ v < 128) : vint v = (v % 128 + 128) :: vint (v / 128) := by rw [vint, dif_neg h]
theorem vint_len : ∀ (k v : Nat), v < 128 ^ (k + 1) → (vint v).length ≤ k + 1
  | 0, v, h => by rw [vint_small (by omega)]; simp
  | k + 1, v, h => by
    by_cases hv : v < 128
    · rw [vint_small hv]; simp
    · rw [vint_big hv]
      have := vint_len k (v / 128) (by rw [Nat.div_lt_iff_lt_mul (by omega)]; rw [← Nat.pow_succ]; exact h)
      simp only [List.length_cons]
      omega
theorem vint_len10 {v : Nat} (h : v < 18446744073709551616) : (vint v).length ≤ 10 := vint_len 9 v (by omega)
theorem vint_pos (v : Nat) : 0 < (vint v).length := by
  rw [vint]; split <;> simp
theorem vint_byte (v : Nat) : ∀ b ∈ vint v, b < 256 := by
  induction v using vint.induct with
  | case1 v h => rw [vint_small h]; simp; omega
  | case2 v h ih =>
    rw [vint_big h]
    intro b hb
    rcases List.mem_cons.1 hb with rfl | hb
    · omega
    · exact ih b hb
theorem or128 (b : BitVec 8) : (b ||| 128#8).toNat = b.toNat % 128 + 128 := by revert b; decide
theorem orK_128 (n : Nat) : orK .u8 (IntKind.u8.wrap (n : Int)) 128 = ((n % 128 + 128 : Nat) : Int) := by
  have e1 : BitVec.ofInt IntKind.u8.bits (IntKind.u8.wrap (n : Int)) = BitVec.ofNat 8 n := by
    apply BitVec.eq_of_toNat_eq
    simp [IntKind.bits, IntKind.wrap, IntKind.signed, BitVec.toNat_ofInt]
    omega
  have e2 : BitVec.ofInt IntKind.u8.bits 128 = 128#8 := rfl
  unfold orK
  rw [e1, e2]
  have h := or128 (BitVec.ofNat 8 n)
  change IntKind.u8.wrap (((BitVec.ofNat 8 n ||| 128#8 : BitVec 8).toNat : Nat) : Int) = _
  rw [h]
  rw [wrap_u8 (by omega) (by have := Nat.mod_lt (BitVec.ofNat 8 n).toNat (show 0 < 128 by omega); omega)]
  simp only [BitVec.toNat_ofNat]
  omega
theorem wrap8_nat (n : Nat) : IntKind.u8.wrap (n : Int) = ((n % 256 : Nat) : Int) := by
  simp only [IntKind.wrap, IntKind.bits, IntKind.signed, Bool.false_and, Bool.false_eq_true, if_false]; omega
theorem shrK_nat {k : IntKind} (m n : Nat) (h : n ≤ k.bits) : shrK k (m : Int) (n : Int) = ((m / 2 ^ n : Nat) : Int) := by
  unfold shrK
  rw [show min (n : Int).toNat k.bits = n from by simp; omega]
  rw [Int.fdiv_eq_ediv_of_nonneg _ (by exact Int.pow_nonneg (by omega))]
  simp
end Go.X

/- Maps: what a block of a map holds, and the laws of look-up, update, delete, len. -/
set_option linter.all false
namespace Go.X
open Go Go.Instr

/-- What keys of a kind do. -/
structure KeyLaw (P : Program) (kt : TypeId) {κ : Type} [DecidableEq κ] (enc : κ → Value) : Prop where
  find : ∀ (k : κ) (l : List (κ × Value)) (es : List MapEntry) (w : World), es.map (fun e => (e.key, e.val)) = l.map (fun p => (enc p.1, p.2)) →
    (findKey kt (enc k) es).run P w = .ok ((l.findIdx? fun p => decide (p.1 = k)).bind fun i => (l[i]?).map fun p => (i, p.2)) w
  check : ∀ (b : Bool) (k : κ) (w : World), (checkKey b 10000 kt (enc k)).run P w = .ok () w
  same : ∀ k : κ, sameBits 10000 (enc k) (enc k) = true

theorem findNow_law {κ : Type} [DecidableEq κ] {enc : κ → Value} {d : TypeDesc} (h : ∀ a b : κ, sameNow d (enc a) (enc b) = some (decide (a = b))) (k : κ) :
    ∀ (l : List (κ × Value)) (es : List MapEntry) (i : Nat), es.map (fun e => (e.key, e.val)) = l.map (fun p => (enc p.1, p.2)) →
    findNow d (enc k) es i = some ((l.findIdx? fun p => decide (p.1 = k)).bind fun j => (l[j]?).map fun p => (i + j, p.2))
  | [], [], i, _ => by simp [findNow]
  | [], e :: es, i, he => by simp at he
  | p :: l, [], i, he => by simp at he
  | p :: l, e :: es, i, he => by
    simp only [List.map_cons, List.cons.injEq, Prod.mk.injEq] at he
    obtain ⟨⟨h1, h2⟩, h3⟩ := he
    simp only [findNow, h1, h]
    by_cases hk : k = p.1
    · simp [List.findIdx?_cons, hk, h2]
    · have hk' : ¬ p.1 = k := fun e => hk e.symm
      simp only [hk, decide_false]
      rw [findNow_law h k l es (i + 1) h3]
      simp only [List.findIdx?_cons, hk', decide_false, Bool.false_eq_true, if_false]
      cases hf : l.findIdx? fun p => decide (p.1 = k) with
      | none => rfl
      | some j =>
        simp only [Option.map_some, Option.bind_some, List.getElem?_cons_succ]
        rw [show i + (j + 1) = i + 1 + j from by omega]

theorem KeyLaw.mk_now {P : Program} {kt : TypeId} {κ : Type} [DecidableEq κ] {enc : κ → Value} {d : TypeDesc} (hd : P.underlying kt = some d) (h : ∀ a b : κ, sameNow d (enc a) (enc b) = some (decide (a = b)))
    (hc : ∀ (b : Bool) (k : κ) (w : World), (checkKey b 10000 kt (enc k)).run P w = .ok () w) (hs : ∀ k : κ, sameBits 10000 (enc k) (enc k) = true) : KeyLaw P kt enc where
  find k l es w he := by
    simp only [findKey, Sem.run_bind, run_underlying hd, Result.andThen_ok, findNow_law h k l es 0 he, Sem.run_pure, Nat.zero_add]
  check := hc
  same := hs

theorem check_run {P : Program} {kt : TypeId} {d : TypeDesc} {v : Value} (hd : P.underlying kt = some d) (h1 : ∀ m, d ≠ .interface m) (h2 : ∀ n e, d ≠ .array n e) (h3 : ∀ f, d ≠ .struct f) (b : Bool) (w : World) : (checkKey b 10000 kt v).run P w = .ok () w := by
  suffices h : ∀ n, (checkKey b (n + 1) kt v).run P w = .ok () w from h 9999
  intro n
  simp only [checkKey, Sem.run_bind, run_underlying hd, Result.andThen_ok]
  cases d <;> first | (exact absurd rfl (h1 _)) | (exact absurd rfl (h2 _ _)) | (exact absurd rfl (h3 _)) | simp
theorem bytes_beq (a b : ByteArray) : (a == b) = decide (a = b) := by
  rw [Bool.eq_iff_iff, decide_eq_true_eq]
  constructor
  · intro h
    cases a; cases b
    simp only [ByteArray.mk.injEq]
    exact beq_iff_eq.1 h
  · rintro rfl
    cases a
    exact (beq_iff_eq (α := Array UInt8)).2 rfl
theorem same_int {k : IntKind} (n : Int) : sameBits 10000 (.int k n) (.int k n) = true := by
  suffices h : ∀ m, sameBits m (.int k n) (.int k n) = true from h 10000
  intro m; cases m <;> simp [sameBits]
theorem same_str (n : ByteArray) : sameBits 10000 (.string n) (.string n) = true := by
  suffices h : ∀ m, sameBits m (.string n) (.string n) = true from h 10000
  intro m; cases m <;> simp [sameBits, bytes_beq]
theorem KeyLaw.int {P : Program} {kt : TypeId} {k : IntKind} (hd : P.underlying kt = some (.int k)) : KeyLaw P kt (Value.int k) :=
  .mk_now hd (fun a b => by simp [sameNow, BEq.beq]) (fun b n w => check_run hd (by simp) (by simp) (by simp) b w) (fun n => same_int n)
theorem KeyLaw.string {P : Program} {kt : TypeId} (hd : P.underlying kt = some .string) : KeyLaw P kt Value.string :=
  .mk_now hd (fun a b => by simp only [sameNow, bytes_beq]) (fun b n w => check_run hd (by simp) (by simp) (by simp) b w) (fun n => same_str n)

/-- What a block of a map holds. -/
def MapB {κ : Type} (w : World) (r : Nat) (enc : κ → Value) (l : List (κ × Value)) : Prop :=
  ∃ (es : Array MapEntry) (clock : Nat), w.heap[r]? = some (.map es clock) ∧ es.toList.map (fun e => (e.key, e.val)) = l.map (fun p => (enc p.1, p.2)) ∧ (l.map (·.1)).Nodup ∧
    (es.toList.map (·.born)).Pairwise (· < ·) ∧ ∀ e ∈ es.toList, e.born < clock
/-- The value at a key. -/
def mget {κ β : Type} [DecidableEq κ] (l : List (κ × β)) (k : κ) : Option β := (l.find? fun p => decide (p.1 = k)).map (·.2)
def mset {κ β : Type} [DecidableEq κ] (l : List (κ × β)) (k : κ) (v : β) : List (κ × β) :=
  if (l.map (·.1)).contains k then l.map fun p => if p.1 = k then (k, v) else p else l ++ [(k, v)]
def mdel {κ β : Type} [DecidableEq κ] (l : List (κ × β)) (k : κ) : List (κ × β) := l.filter fun p => !decide (p.1 = k)
section
variable {κ : Type} [DecidableEq κ] {enc : κ → Value} {P : Program} {w : World} {r : Nat} {l : List (κ × Value)}
omit [DecidableEq κ] in
theorem MapB.lt (h : MapB w r enc l) : r < w.heap.size := by
  obtain ⟨es, c, h, _⟩ := h
  exact (Array.getElem?_eq_some_iff.1 h).1
omit [DecidableEq κ] in
theorem MapB.ch {S : Nat → Prop} {w' : World} (h : MapB w r enc l) (hc : Ch S w w') (hs : ¬ S r) : MapB w' r enc l := by
  obtain ⟨es, c, h1, h2⟩ := h
  exact ⟨es, c, (hc.block r (Array.getElem?_eq_some_iff.1 h1).1 hs).trans h1, h2⟩
omit [DecidableEq κ] in
theorem MapB.ext {w' : World} (h : MapB w r enc l) (hc : Ext w w') : MapB w' r enc l := h.ch hc id

theorem find_idx (l : List (κ × Value)) (k : κ) : ((l.findIdx? fun p => decide (p.1 = k)).bind fun i => (l[i]?).map fun p => (i, p.2)).map (·.2) = mget l k := by
  unfold mget
  rw [List.findIdx?_eq_guard_findIdx_lt, List.find?_eq_getElem?_findIdx]
  by_cases h : l.findIdx (fun p => decide (p.1 = k)) < l.length
  · simp [Option.guard, h]
  · simp [Option.guard, h]

theorem lookup_run {t kt et : TypeId} {z : Value} {size bytes : Nat} (hk : KeyLaw P kt enc) (ht : P.underlying t = some (.map kt et)) (hz : TI P et z size bytes) (hm : MapB w r enc l) (k : κ) :
    (Instr.lookup t (.map (some r)) (enc k) true).run P w = .ok (.tuple #[(mget l k).getD z, .bool (mget l k).isSome]) w := by
  obtain ⟨es, c, h1, h2, h3⟩ := hm
  have hf := hk.find k l es.toList w h2
  have hg := find_idx l k
  have hobj : (getObj r).run P w = .ok (.map es c) w := by simp [getObj, Sem.run, h1]
  simp only [Instr.lookup, Sem.run_bind, run_underlying ht, Result.andThen_ok, hobj, hk.check, hf, Sem.run_pure]
  cases hq : ((l.findIdx? fun p => decide (p.1 = k)).bind fun i => (l[i]?).map fun p => (i, p.2)) with
  | none => rw [hq] at hg; simp [← hg, hz.zeroValue]
  | some q => rw [hq] at hg; simp [← hg]
theorem lookup_run1 {t kt et : TypeId} {z : Value} {size bytes : Nat} (hk : KeyLaw P kt enc) (ht : P.underlying t = some (.map kt et)) (hz : TI P et z size bytes) (hm : MapB w r enc l) (k : κ) :
    (Instr.lookup t (.map (some r)) (enc k) false).run P w = .ok ((mget l k).getD z) w := by
  obtain ⟨es, c, h1, h2, h3⟩ := hm
  have hf := hk.find k l es.toList w h2
  have hg := find_idx l k
  have hobj : (getObj r).run P w = .ok (.map es c) w := by simp [getObj, Sem.run, h1]
  simp only [Instr.lookup, Sem.run_bind, run_underlying ht, Result.andThen_ok, hobj, hk.check, hf, Sem.run_pure]
  cases hq : ((l.findIdx? fun p => decide (p.1 = k)).bind fun i => (l[i]?).map fun p => (i, p.2)) with
  | none => rw [hq] at hg; simp [← hg, hz.zeroValue]
  | some q => rw [hq] at hg; simp [← hg]
theorem len_run {t kt et ty : TypeId} (ht : P.underlying t = some (.map kt et)) (hm : MapB w r enc l) : (Builtin.len_ #[t] ty #[.map (some r)]).run P w = .ok (.int .i64 l.length) w := by
  obtain ⟨es, c, h1, h2, h3⟩ := hm
  have hobj : (getObj r).run P w = .ok (.map es c) w := by simp [getObj, Sem.run, h1]
  have hlen : es.size = l.length := by have := congrArg List.length h2; simpa using this
  simp [Builtin.len_, run_underlying ht, hobj, goInt, hlen]
theorem makeMap_run {t : TypeId} : ∃ w', (Instr.makeMap t none).run P w = .ok (.map (some w.heap.size)) w' ∧ MapB w' w.heap.size enc ([] : List (κ × Value)) ∧ Ext w w' ∧ w'.heap.size = w.heap.size + 1 :=
  ⟨w.alloc (.map #[] 0), by simp [Instr.makeMap, newObj, Sem.run], ⟨#[], 0, by show (w.heap.push _)[w.heap.size]? = _; simp, rfl, by simp, by simp, by simp⟩, Ch.alloc w _, by simp⟩
theorem setObj_run {o o' : Obj} (h : w.heap[r]? = some o) (hc : ∀ c e f, o ≠ .cells c e f) : ∃ w', (setObj r o').run P w = .ok () w' ∧ w'.heap[r]? = some o' ∧ Ch (· = r) w w' ∧ w'.heap.size = w.heap.size := by
  have hlt := (Array.getElem?_eq_some_iff.1 h).1
  refine ⟨{ w with heap := w.heap.setIfInBounds r o' }, ?_, ?_, ⟨rfl, rfl, rfl, by simp, fun k hk hn => ?_⟩, by simp⟩
  · cases o <;> first | (exact absurd rfl (hc _ _ _)) | simp [setObj, Sem.run, h]
  · simp [hlt]
  · show (w.heap.setIfInBounds r o')[k]? = _
    rw [Array.getElem?_setIfInBounds_ne (fun e => hn e.symm)]
theorem mapUpdate_run {t kt et : TypeId} (hk : KeyLaw P kt enc) (ht : P.underlying t = some (.map kt et)) (hm : MapB w r enc l) (k : κ) (v : Value) :
    ∃ w', (Instr.mapUpdate t (.map (some r)) (enc k) v).run P w = .ok () w' ∧ MapB w' r enc (mset l k v) ∧ Ch (· = r) w w' ∧ w'.heap.size = w.heap.size := by
  obtain ⟨es, c, h1, h2, h3, h4, h5⟩ := hm
  have hf := hk.find k l es.toList w h2
  have hobj : (getObj r).run P w = .ok (.map es c) w := by simp [getObj, Sem.run, h1]
  have hlen : es.size = l.length := by have := congrArg List.length h2; simpa using this
  cases hq : l.findIdx? fun p => decide (p.1 = k) with
  | none =>
    rw [hq] at hf
    obtain ⟨w', e1, e2, e3, e4⟩ := setObj_run (P := P) (w := w) (o' := .map (es.push { key := enc k, val := v, born := c }) (c + 1)) h1 (by simp)
    refine ⟨w', ?_, ⟨_, _, e2, ?_, ?_, ?_, ?_⟩, e3, e4⟩
    · simp only [Instr.mapUpdate, Sem.run_bind, run_underlying ht, Result.andThen_ok, hobj, hk.check, hf, Option.bind_none, e1]
    · have hc : (l.map (·.1)).contains k = false := by
        rw [List.findIdx?_eq_none_iff] at hq
        simp only [List.contains_eq_mem, List.mem_map, decide_eq_false_iff_not, not_exists, not_and]
        intro p hp e
        simpa [e] using hq p hp
      simp only [mset, hc, Bool.false_eq_true, if_false, Array.toList_push, List.map_append, h2, List.map_cons, List.map_nil]
    · have hc : k ∉ l.map (·.1) := by
        rw [List.findIdx?_eq_none_iff] at hq
        simp only [List.mem_map, not_exists, not_and]
        intro p hp e
        simpa [e] using hq p hp
      have hc' : (l.map (·.1)).contains k = false := by simpa using hc
      simp only [mset, hc', Bool.false_eq_true, if_false, List.map_append, List.map_cons, List.map_nil]
      rw [List.nodup_append]
      refine ⟨h3, by simp, ?_⟩
      intro a ha b hb
      simp only [List.mem_singleton] at hb
      rintro rfl
      exact hc (hb ▸ ha)
    · simp only [Array.toList_push, List.map_append, List.map_cons, List.map_nil]
      rw [List.pairwise_append]
      refine ⟨h4, by simp, ?_⟩
      intro a ha b hb
      simp only [List.mem_singleton] at hb
      obtain ⟨e, he, rfl⟩ := List.mem_map.1 ha
      rw [hb]
      exact h5 e he
    · intro e he
      simp only [Array.toList_push, List.mem_append, List.mem_singleton] at he
      rcases he with he | rfl
      · have := h5 e he; omega
      · simp
  | some i =>
    rw [hq] at hf
    rw [List.findIdx?_eq_some_iff_getElem] at hq
    obtain ⟨hi, hik, _⟩ := hq
    have hik' : l[i].1 = k := by simpa using hik
    have hie : i < es.size := by omega
    have hg : es.toList[i]? = some es[i] := by simp [hie]
    have hkey : es[i].key = enc k := by
      have := congrArg (fun x => x[i]?) h2
      simp only [List.getElem?_map, hg, Option.map_some, List.getElem?_eq_getElem hi, Option.some.injEq, Prod.mk.injEq] at this
      rw [this.1, hik']
    obtain ⟨w', e1, e2, e3, e4⟩ := setObj_run (P := P) (w := w) (o' := .map (es.modify i fun e => { e with key := enc k, val := v }) c) h1 (by simp)
    have hc : (l.map (·.1)).contains k = true := by
      simp only [List.contains_eq_mem, decide_eq_true_eq, List.mem_map]
      exact ⟨l[i], List.getElem_mem hi, hik'⟩
    refine ⟨w', ?_, ⟨_, _, e2, ?_, ?_, ?_, ?_⟩, e3, e4⟩
    · have hks : (keyThatStays (enc k) (enc k)).run P w = .ok (enc k) w := by simp [keyThatStays, hk.same]
      have hkk : ((es[i]?.map (·.key)).getD (enc k)) = enc k := by simp [hie, hkey]
      simp only [Instr.mapUpdate, Sem.run_bind, run_underlying ht, Result.andThen_ok, hobj, hk.check, hf, Option.bind_some, List.getElem?_eq_getElem hi, Option.map_some, hkk, hks, e1]
    · simp only [mset, hc, if_true]
      apply List.ext_getElem?
      intro j
      have hj := congrArg (fun x => x[j]?) h2
      simp only [List.getElem?_map] at hj
      simp only [Array.toList_modify, List.getElem?_map, List.getElem?_modify]
      by_cases hji : i = j
      · subst hji
        simp only [hg, if_true, Option.map_some, List.getElem?_eq_getElem hi, hik', Option.map_some, if_true]
        simp
      · simp only [hji, if_false]
        rw [show (fun a : MapEntry => a) <$> es.toList[j]? = es.toList[j]? from by cases es.toList[j]? <;> rfl] 
        rw [hj]
        cases hlj : l[j]? with
        | none => rfl
        | some p =>
          have hne : ¬ p.1 = k := by
            intro e
            have hjl : j < l.length := (List.getElem?_eq_some_iff.1 hlj).1
            refine hji ((List.getElem?_inj (l := l.map (·.1)) (i := i) (j := j) (by simpa using hi) h3).1 ?_)
            simp [hlj, List.getElem?_eq_getElem hi, hik', e]
          simp [hne]
    · simp only [mset, hc, if_true, List.map_map]
      have : (List.map ((fun x => x.1) ∘ fun p : κ × Value => if p.1 = k then (k, v) else p) l) = l.map (·.1) := by
        apply List.map_congr_left
        intro p _
        simp only [Function.comp]
        split
        · rename_i e; simp [e]
        · rfl
      rw [this]
      exact h3
    · have : ((es.modify i fun e => { e with key := enc k, val := v }).toList.map (·.born)) = es.toList.map (·.born) := by
        simp only [Array.toList_modify]
        apply List.ext_getElem?
        intro j
        simp only [List.getElem?_map, List.getElem?_modify]
        by_cases hji : i = j
        · subst hji; simp [hg]
        · simp [hji]
      rw [this]
      exact h4
    · intro e he
      simp only [Array.toList_modify] at he
      obtain ⟨j, hj⟩ := List.mem_iff_getElem?.1 he
      simp only [List.getElem?_modify] at hj
      by_cases hji : i = j
      · subst hji
        simp only [hg, if_true, Option.map_eq_map, Option.map_some, Option.some.injEq] at hj
        subst hj
        exact h5 es[i] (by simp)
      · simp only [hji, if_false] at hj
        rw [show (fun a : MapEntry => a) <$> es.toList[j]? = es.toList[j]? from by cases es.toList[j]? <;> rfl] at hj
        exact h5 e (List.mem_of_getElem? hj)
theorem delete_run {t kt et ty : TypeId} {ts : Array TypeId} (hk : KeyLaw P kt enc) (h0 : ts[0]? = some t) (ht : P.underlying t = some (.map kt et)) (hm : MapB w r enc l) (k : κ) :
    ∃ w', (Builtin.delete_ ts ty #[.map (some r), enc k]).run P w = .ok (.tuple #[]) w' ∧ MapB w' r enc (mdel l k) ∧ Ch (· = r) w w' ∧ w'.heap.size = w.heap.size := by
  obtain ⟨es, c, h1, h2, h3, h4, h5⟩ := hm
  have hf := hk.find k l es.toList w h2
  have hobj : (getObj r).run P w = .ok (.map es c) w := by simp [getObj, Sem.run, h1]
  have hlen : es.size = l.length := by have := congrArg List.length h2; simpa using this
  cases hq : l.findIdx? fun p => decide (p.1 = k) with
  | none =>
    rw [hq] at hf
    obtain ⟨w', e1, e2, e3, e4⟩ := setObj_run (P := P) (w := w) (o' := .map es c) h1 (by simp)
    have hd : mdel l k = l := by
      rw [List.findIdx?_eq_none_iff] at hq
      unfold mdel
      rw [List.filter_eq_self]
      intro p hp
      simpa using hq p hp
    refine ⟨w', ?_, ⟨_, _, e2, by rw [hd]; exact h2, by rw [hd]; exact h3, h4, h5⟩, e3, e4⟩
    simp [Builtin.delete_, h0, run_underlying ht, hobj, hk.check, hf, e1]
  | some i =>
    rw [hq] at hf
    rw [List.findIdx?_eq_some_iff_getElem] at hq
    obtain ⟨hi, hik, hlt⟩ := hq
    have hik' : l[i].1 = k := by simpa using hik
    have hd : mdel l k = l.eraseIdx i := by
      unfold mdel
      have hsp : l = l.take i ++ l[i] :: l.drop (i + 1) := by rw [← List.drop_eq_getElem_cons hi, List.take_append_drop]
      have hnd := h3
      rw [hsp, List.map_append, List.map_cons, List.nodup_append] at hnd
      obtain ⟨n1, n2, n3⟩ := hnd
      rw [List.nodup_cons] at n2
      conv => lhs; rw [hsp]
      rw [List.filter_append, List.filter_cons, List.eraseIdx_eq_take_drop_succ]
      have a1 : (l.take i).filter (fun p => !decide (p.1 = k)) = l.take i := by
        rw [List.filter_eq_self]
        intro p hp
        have := n3 p.1 (List.mem_map.2 ⟨p, hp, rfl⟩) l[i].1 (by simp)
        rw [hik'] at this
        simpa using this
      have a2 : (l.drop (i + 1)).filter (fun p => !decide (p.1 = k)) = l.drop (i + 1) := by
        rw [List.filter_eq_self]
        intro p hp
        have : p.1 ≠ k := fun e => n2.1 (by rw [hik', ← e]; exact List.mem_map.2 ⟨p, hp, rfl⟩)
        simpa using this
      rw [a1, a2]
      simp [hik']
    obtain ⟨w', e1, e2, e3, e4⟩ := setObj_run (P := P) (w := w) (o' := .map (es.eraseIdxIfInBounds i) c) h1 (by simp)
    refine ⟨w', ?_, ⟨_, _, e2, ?_, ?_, ?_, ?_⟩, e3, e4⟩
    · simp [Builtin.delete_, h0, run_underlying ht, hobj, hk.check, hf, e1, hi]
    · rw [hd, Array.toList_eraseIdxIfInBounds, Go.ChangeMaps.map_eraseIdx, Go.ChangeMaps.map_eraseIdx, h2]
    · rw [hd, Go.ChangeMaps.map_eraseIdx]
      exact h3.sublist (List.eraseIdx_sublist _ _)
    · rw [Array.toList_eraseIdxIfInBounds, Go.ChangeMaps.map_eraseIdx]
      exact h4.sublist (List.eraseIdx_sublist _ _)
    · intro e he
      rw [Array.toList_eraseIdxIfInBounds] at he
      exact h5 e (List.mem_of_mem_eraseIdx he)

/-! ## Ranges over a map that the loop leaves alone -/
/-- A range's iterator: what is left of the map's entries. -/
def RangeB {κ : Type} (w : World) (r bm : Nat) (enc : κ → Value) (l left : List (κ × Value)) : Prop :=
  r ≠ bm ∧ ∃ (es : Array MapEntry) (c : Nat) (seen : Array Nat), w.heap[r]? = some (.mapIter (some bm) c seen c) ∧ w.heap[bm]? = some (.map es c) ∧ es.toList.map (fun e => (e.key, e.val)) = l.map (fun p => (enc p.1, p.2)) ∧ (l.map (·.1)).Nodup ∧
    (es.toList.map (·.born)).Pairwise (· < ·) ∧ (∀ e ∈ es.toList, e.born < c) ∧ (leftOf es seen).toList.map (fun e => (e.key, e.val)) = left.map (fun p => (enc p.1, p.2)) ∧ left.length + seen.size = l.length
/-- How many entries an iterator has handed out. -/
def iterN (w : World) (r : Nat) : Nat := match w.heap[r]? with | some (.mapIter _ _ seen _) => seen.size | _ => 0
omit [DecidableEq κ] in
theorem RangeB.count {bm : Nat} {left : List (κ × Value)} (h : RangeB w r bm enc l left) : left.length + iterN w r = l.length := by
  obtain ⟨hne, es, c, seen, a, b, _, _, _, _, _, h⟩ := h
  unfold iterN
  rw [a]
  exact h
omit [DecidableEq κ] in
theorem RangeB.ch {S : Nat → Prop} {w' : World} {bm : Nat} {left : List (κ × Value)} (h : RangeB w r bm enc l left) (hc : Ch S w w') (h1 : ¬ S r) (h2 : ¬ S bm) : RangeB w' r bm enc l left := by
  obtain ⟨hne, es, c, seen, a, b, rest⟩ := h
  exact ⟨hne, es, c, seen, (hc.block r (Array.getElem?_eq_some_iff.1 a).1 h1).trans a, (hc.block bm (Array.getElem?_eq_some_iff.1 b).1 h2).trans b, rest⟩
omit [DecidableEq κ] in
theorem RangeB.ext {w' : World} {bm : Nat} {left : List (κ × Value)} (h : RangeB w r bm enc l left) (hc : Ext w w') : RangeB w' r bm enc l left := h.ch hc id id
omit [DecidableEq κ] in
theorem RangeB.map {bm : Nat} {left : List (κ × Value)} (h : RangeB w r bm enc l left) : MapB w bm enc l := by
  obtain ⟨hne, es, c, seen, a, b, h2, h3, h4, h5, h6, h7⟩ := h
  exact ⟨es, c, b, h2, h3, h4, h5⟩
omit [DecidableEq κ] in
theorem range_run {t kt et : TypeId} (ht : P.underlying t = some (.map kt et)) (hm : MapB w r enc l) :
    ∃ w', (Instr.range t (.map (some r))).run P w = .ok (.pointer (some ⟨w.heap.size, 0, none⟩)) w' ∧ RangeB w' w.heap.size r enc l l ∧ Ext w w' ∧ w'.heap.size = w.heap.size + 1 := by
  have hlt := hm.lt
  obtain ⟨es, c, h1, h2, h3, h4, h5⟩ := hm
  have hobj : (getObj r).run P w = .ok (.map es c) w := by simp [getObj, Sem.run, h1]
  refine ⟨w.alloc (.mapIter (some r) c #[] c), by simp [Instr.range, run_underlying ht, hobj, newObj, Sem.run], ⟨by omega, es, c, #[], ?_, ?_, h2, h3, h4, h5, ?_, by simp⟩, Ch.alloc w _, by simp⟩
  · show (w.heap.push _)[w.heap.size]? = _; simp
  · rw [Go.RowKit.Below.heap_alloc w _ r hlt]; exact h1
  · have : leftOf es #[] = es := by unfold leftOf; rw [Array.filter_eq_self]; simp
    rw [this, h2]
theorem filter_born (L : List MapEntry) (hn : (L.map (·.born)).Nodup) (i : Nat) (hi : i < L.length) : L.filter (fun e => !decide (e.born = L[i].born)) = L.eraseIdx i := by
  have hsp : L = L.take i ++ L[i] :: L.drop (i + 1) := by rw [← List.drop_eq_getElem_cons hi, List.take_append_drop]
  have hnd := hn
  rw [hsp, List.map_append, List.map_cons, List.nodup_append] at hnd
  obtain ⟨n1, n2, n3⟩ := hnd
  rw [List.nodup_cons] at n2
  generalize he : L[i] = e at *
  conv => lhs; rw [hsp]
  rw [List.filter_append, List.filter_cons, List.eraseIdx_eq_take_drop_succ]
  have a1 : (L.take i).filter (fun p => !decide (p.born = e.born)) = L.take i := by
    rw [List.filter_eq_self]
    intro p hp
    have := n3 p.born (List.mem_map.2 ⟨p, hp, rfl⟩) e.born (by simp)
    simpa using this
  have a2 : (L.drop (i + 1)).filter (fun p => !decide (p.born = e.born)) = L.drop (i + 1) := by
    rw [List.filter_eq_self]
    intro p hp
    have : p.born ≠ e.born := fun e' => n2.1 (by rw [← e']; exact List.mem_map.2 ⟨p, hp, rfl⟩)
    simpa using this
  rw [a1, a2]
  simp
omit [DecidableEq κ] in
theorem next_run {ty : TypeId} {bm : Nat} {left : List (κ × Value)} (h : RangeB w r bm enc l left) :
    (left = [] ∧ (Instr.next (.pointer (some ⟨r, 0, none⟩)) false ty).run P w = .ok (.tuple #[.bool false]) w) ∨
    ∃ (i : Nat) (hi : i < left.length) (w' : World), (Instr.next (.pointer (some ⟨r, 0, none⟩)) false ty).run P w = .ok (.tuple #[.bool true, enc left[i].1, left[i].2]) w' ∧
      (Instr.entry (.pointer (some ⟨r, 0, none⟩))).run P w' = .ok (.tuple #[enc left[i].1, left[i].2]) w' ∧ RangeB w' r bm enc l (left.eraseIdx i) ∧ Ch (· = r) w w' ∧ w'.heap.size = w.heap.size := by
  obtain ⟨hne, es, c, seen, a, b, h2, h3, h4, h5, h6, h7⟩ := h
  have hll : (leftOf es seen).toList.length = left.length := by have := congrArg List.length h6; simpa using this
  rcases run_next_at (P := P) w ty r bm c c seen es c a b h5 (Nat.le_refl _) with ⟨h0, hr⟩ | ⟨e, he, w1, hw1, hr⟩
  · left
    exact ⟨List.eq_nil_of_length_eq_zero (by rw [← hll]; simpa using h0), hr⟩
  · right
    obtain ⟨i, hi, hie⟩ := List.getElem_of_mem he
    have hkv : (e.key, e.val) = (enc left[i].1, left[i].2) := by
      have := congrArg (fun x => x[i]?) h6
      simp only [List.getElem?_map, List.getElem?_eq_getElem hi, List.getElem?_eq_getElem (show i < left.length by omega), Option.map_some, Option.some.injEq] at this
      rw [← hie]
      exact this
    simp only [Prod.mk.injEq] at hkv
    have hsub : (leftOf es seen).toList.Sublist es.toList := by unfold leftOf; rw [Array.toList_filter]; exact List.filter_sublist
    have hnd : (es.toList.map (·.born)).Nodup := h4.imp fun h => Nat.ne_of_lt h
    have hc1 : Ext w w1 := by rcases hw1 with rfl | rfl; exact Ch.refl _ _; exact Ch.drew _
    have hs1 : w1.heap = w.heap := by rcases hw1 with rfl | rfl <;> rfl
    have hlt : r < w.heap.size := (Array.getElem?_eq_some_iff.1 a).1
    have ar : (Go.ChangeMaps.setBlock w1 r (.mapIter (some bm) c (seen.push e.born) c)).heap[r]? = some (.mapIter (some bm) c (seen.push e.born) c) := by
      simp [Go.ChangeMaps.setBlock, hs1, hlt]
    have bb : (Go.ChangeMaps.setBlock w1 r (.mapIter (some bm) c (seen.push e.born) c)).heap[bm]? = some (.map es c) := by
      simp only [Go.ChangeMaps.setBlock, hs1]
      rw [Array.getElem?_setIfInBounds_ne hne]
      exact b
    refine ⟨i, by omega, _, by rw [← hkv.1, ← hkv.2]; exact hr, by rw [← hkv.1, ← hkv.2]; exact run_entry_at (P := P) _ r bm c seen es c e ar bb (hsub.subset he) hnd, ⟨hne, es, c, _, ar, bb, h2, h3, h4, h5, ?_, by rw [List.length_eraseIdx_of_lt (by omega), Array.size_push]; omega⟩, ?_, by simp [Go.ChangeMaps.setBlock, hs1]⟩
    · have : (leftOf es (seen.push e.born)).toList = (leftOf es seen).toList.eraseIdx i := by
        rw [← filter_born _ (hnd.sublist (hsub.map _)) i hi, hie]
        unfold leftOf
        simp only [Array.toList_filter, List.filter_filter]
        apply List.filter_congr
        intro x _
        simp [Array.contains_push, Bool.and_comm, eq_comm]
      rw [this, Go.ChangeMaps.map_eraseIdx, h6, Go.ChangeMaps.map_eraseIdx]
    · refine hc1.step (T := (· = r)) ⟨rfl, rfl, rfl, by simp [Go.ChangeMaps.setBlock], fun k hk hn => ?_⟩ (fun _ _ h => h.elim) (fun _ _ h => h)
      simp only [Go.ChangeMaps.setBlock]
      rw [Array.getElem?_setIfInBounds_ne (fun e => hn e.symm)]

/-! ## Maps of typed values -/
variable {β : Type}
theorem mget_map (l : List (κ × β)) (f : β → Value) (k : κ) : mget (l.map fun p => (p.1, f p.2)) k = (mget l k).map f := by
  unfold mget
  induction l with
  | nil => rfl
  | cons p l ih => simp only [List.map_cons, List.find?_cons]; split <;> simp_all
theorem mset_map (l : List (κ × β)) (f : β → Value) (k : κ) (v : β) : mset (l.map fun p => (p.1, f p.2)) k (f v) = (mset l k v).map fun p => (p.1, f p.2) := by
  unfold mset
  have h : (l.map fun p => (p.1, f p.2)).map (·.1) = l.map (·.1) := by rw [List.map_map]; rfl
  rw [h]
  split
  · simp only [List.map_map]
    apply List.map_congr_left
    intro p _
    simp only [Function.comp]
    split <;> rfl
  · simp
theorem mdel_map (l : List (κ × β)) (f : β → Value) (k : κ) : mdel (l.map fun p => (p.1, f p.2)) k = (mdel l k).map fun p => (p.1, f p.2) := by
  unfold mdel
  rw [List.filter_map]
  rfl
end
end Go.X

/- Values of Go's kinds, and laws on them: bytes of strings, arrays' equality. -/
set_option linter.all false
namespace Go.X
open Go

def bs (s : ByteArray) : List Nat := s.data.toList.map UInt8.toNat
@[simp] theorem bs_length (s : ByteArray) : (bs s).length = s.size := by simp [bs]
theorem bs_byte (s : ByteArray) : ∀ b ∈ bs s, b < 256 := by
  intro b hb
  obtain ⟨x, _, rfl⟩ := List.mem_map.1 hb
  exact x.toNat_lt
theorem bs_inj {a b : ByteArray} (h : bs a = bs b) : a = b := by
  cases a; cases b
  simp only [bs, ByteArray.mk.injEq] at *
  apply Array.toList_inj.1
  exact (List.map_inj_right (fun x y hxy => UInt8.toNat_inj.1 hxy)).1 h

theorem seq_eq (a b : ByteArray) : seq a b = decide (a = b) := by
  unfold seq
  rw [Bool.eq_iff_iff, beq_iff_eq, decide_eq_true_eq, ByteArray.toList_eq, ByteArray.toList_eq]
  constructor
  · intro h
    cases a; cases b
    simp only [ByteArray.mk.injEq]
    exact Array.toList_inj.1 h
  · intro h; rw [h]
theorem Sees.part {w : World} {b i n size : Nat} {cs : Array Value} {e : TypeId} {xs : List Value} (h : Blk w b cs e) (hx : ∀ j v, xs[j]? = some v → cs[i + j]? = some v) (hn : xs.length = n * size) : Sees w ⟨some ⟨b, i, none⟩, n, n⟩ size xs :=
  ⟨hn, Nat.le_refl _, (fun h => by cases h), fun a ha => by
    obtain rfl : _ = a := by injection ha
    exact ⟨rfl, fun j v hj => by rw [addr_add]; exact h.cell (hx j v hj)⟩⟩

theorem Cut.all {s : Sl} {size : Nat} {K : Sl → Prop} (hle : s.len ≤ s.cap) (hs : ∀ a, s.a = some a → a.spot = none) (k : K s) : Cut s size none none none K := by
  refine ⟨0, s.len, s.cap, rfl, Nat.le_refl _, ⟨rfl, rfl⟩, rfl, Nat.zero_le _, ?_⟩
  have : (if s.cap = 0 then s.a else s.a.map (·.add (0 * size))) = s.a := by
    split
    · rfl
    · cases h : s.a with
      | none => rfl
      | some a =>
        have := hs a h
        obtain ⟨b, o, p⟩ := a
        simp only at this
        subst this
        simp
  rw [this]
  exact k
/-- The bytes of a string. -/
theorem Ef.bytes {P : Program} {w : World} {src dst e : TypeId} {s : ByteArray} {u : TypeDesc} {K : Sl → World → Prop} (hs : P.underlying src = some u) (hd : P.underlying dst = some (.slice e)) (he : P.underlying e = some (.int .u8))
    (k : ∀ s' w', Sees w' s' 1 (u8s (bs s)) → Ext w w' → s'.len = s.size → (∀ b, s'.blk b → b = w.heap.size) → w'.heap.size = w.heap.size + 1 → K s' w') : Ef P (convert src dst (.string s)) Sl.v w K := by
  refine ⟨⟨some ⟨w.heap.size, 0, none⟩, s.size, grownCap w s.size 0 e⟩, _, Go.Lib.run_convert_string_bytes w src dst e s hs hd he, k _ _ ?_ ?_ rfl ?_ (Go.Lib.bytesWorld_size w e s)⟩
  · refine ⟨by simp, grownCap_ge .., (fun h => by cases h), fun a ha => ?_⟩
    obtain rfl : _ = a := by injection ha
    refine ⟨rfl, fun i v hv => ?_⟩
    have hi : i < s.size := by
      have := (List.getElem?_eq_some_iff.1 hv).1
      simpa using this
    rw [addr_add, Nat.zero_add, Go.Lib.bytesWorld_cell w e s i hi]
    simp only [u8s, bs, List.map_map, List.getElem?_map] at hv
    rw [← hv]
    have hi' : i < s.data.size := hi
    rw [List.getElem?_eq_getElem (show i < s.data.toList.length from hi')]
    simp only [List.getD, Array.getElem?_toList, Array.getElem?_eq_getElem hi', Option.getD_some, Option.map_some, Function.comp, Array.getElem_toList]
  · refine ⟨?_, ?_, ?_, by rw [Go.Lib.bytesWorld_size]; omega, fun k hk _ => Go.Lib.bytesWorld_at_old w e s k hk⟩ <;> rfl
  · rintro b ⟨a, ha, rfl⟩
    obtain rfl : _ = a := by injection ha
    rfl

theorem eqItems_ints {P : Program} {d : Nat} {e : TypeId} {k : IntKind} (he : P.underlying e = some (.int k)) (xs ys : List Int) (w : World) (hl : xs.length = ys.length) : ∀ c s, s + c = xs.length →
    (Op.eqItems (d + 1) e 1 (xs.map (Value.int k)).toArray (ys.map (Value.int k)).toArray (List.range' s c)).run P w = .ok (decide (xs.drop s = ys.drop s)) w
  | 0, s, h => by
    rw [List.drop_of_length_le (by omega), List.drop_of_length_le (by omega)]
    simp [Op.eqItems]
  | c + 1, s, h => by
    have h1 : s < xs.length := by omega
    have h2 : s < ys.length := by omega
    have ih := eqItems_ints (d := d) he xs ys w hl c (s + 1) (by omega)
    rw [List.range'_succ, show (decide (xs.drop s = ys.drop s)) = decide (xs[s] :: xs.drop (s + 1) = ys[s] :: ys.drop (s + 1)) from by rw [← List.drop_eq_getElem_cons h1, ← List.drop_eq_getElem_cons h2]]
    have ha : (isAgg e).run P w = .ok false w := by simp [isAgg, run_underlying he]
    have hp : ∀ (cs : Array Value) (v : Value), cs[s]? = some v → (part e cs s).run P w = .ok v w := fun cs v hv => by
      simp only [part, Sem.run_bind, ha, Result.andThen_ok, Bool.false_eq_true, if_false, hv, Sem.run_pure]
    have hq : ∀ a b : Int, (Op.equalIn (d + 1) e (.int k a) (.int k b)).run P w = .ok (a == b) w := fun a b => by
      simp only [Op.equalIn, Sem.run_bind, run_underlying he, Result.andThen_ok, if_true, Sem.run_pure]
    simp only [Op.eqItems, Nat.mul_one, Sem.run_bind, hp (xs.map (Value.int k)).toArray (.int k xs[s]) (by simp [h1]), hp (ys.map (Value.int k)).toArray (.int k ys[s]) (by simp [h2]), Result.andThen_ok, hq]
    by_cases hx : xs[s] = ys[s]
    · simp only [hx, beq_self_eq_true, Bool.not_true, Bool.false_eq_true, if_false, ih, List.cons.injEq, true_and]
    · simp only [beq_eq_false_iff_ne.2 hx, Bool.not_false, if_true, Sem.run_pure, List.cons.injEq, hx, false_and, decide_false]
/-- Arrays of numbers. -/
theorem EqOK.ints {P : Program} {t e : TypeId} {n : Nat} {k : IntKind} {i : TypeInfo} (ht : P.underlying t = some (.array n e)) (he : P.underlying e = some (.int k)) (hi : P.info? e = some i) (hc : P.cellsOf e = 1) (hg : P.eqGuardType P.depth t = false)
    {xs ys : List Int} (hx : xs.length = n) (hy : ys.length = n) : EqOK P t (.agg (xs.map (Value.int k)).toArray) (.agg (ys.map (Value.int k)).toArray) (decide (xs = ys)) :=
  ⟨hg, fun w d => by
    rw [run_equalIn_array w (d + 4) _ _ ht hi, hc, List.range_eq_range']
    simpa using eqItems_ints (d := d + 3) he xs ys w (by omega) n 0 (by omega)⟩
theorem u8s_ints (l : List Nat) : u8s l = (l.map fun n : Nat => (n : Int)).map (Value.int .u8) := by simp [u8s]
theorem EqOK.u8s {P : Program} {t e : TypeId} {n : Nat} {i : TypeInfo} (ht : P.underlying t = some (.array n e)) (he : P.underlying e = some (.int .u8)) (hi : P.info? e = some i) (hc : P.cellsOf e = 1) (hg : P.eqGuardType P.depth t = false)
    {xs ys : List Nat} (hx : xs.length = n) (hy : ys.length = n) : EqOK P t (.agg (u8s xs).toArray) (.agg (u8s ys).toArray) (decide (xs = ys)) := by
  rw [u8s_ints, u8s_ints]
  have h : (xs = ys) ↔ (xs.map fun n : Nat => (n : Int)) = ys.map fun n : Nat => (n : Int) := ⟨fun h => by rw [h], fun h => (List.map_inj_right (fun x y hxy => Int.ofNat.inj hxy)).1 h⟩
  simp only [h]
  exact EqOK.ints ht he hi hc hg (by simpa using hx) (by simpa using hy)

/-- An integer as a number of 64 bits without sign. -/
def u64n (z : Int) : Nat := (z % 18446744073709551616).toNat
theorem wrap_u64n (z : Int) : IntKind.u64.wrap z = (u64n z : Int) := by
  simp only [IntKind.wrap, IntKind.bits, IntKind.signed, Bool.false_and, Bool.false_eq_true, if_false, u64n]; omega
theorem u64n_lt (z : Int) : u64n z < 18446744073709551616 := by unfold u64n; omega
theorem u64n_inj {a b : Int} (ha : -9223372036854775808 ≤ a ∧ a ≤ 9223372036854775807) (hb : -9223372036854775808 ≤ b ∧ b ≤ 9223372036854775807) (h : u64n a = u64n b) : a = b := by
  unfold u64n at h; omega
/-- A number's bytes end where they end: what is behind is told too. -/
theorem vint_append : ∀ (a b : Nat) {xs ys : List Nat}, vint a ++ xs = vint b ++ ys → a = b ∧ xs = ys := by
  intro a
  induction a using vint.induct with
  | case1 a h =>
    intro b xs ys he
    rw [vint_small h] at he
    by_cases hb : b < 128
    · rw [vint_small hb] at he
      simpa using he
    · rw [vint_big hb] at he
      simp only [List.cons_append, List.nil_append, List.cons.injEq] at he
      omega
  | case2 a h ih =>
    intro b xs ys he
    rw [vint_big h] at he
    by_cases hb : b < 128
    · rw [vint_small hb] at he
      simp only [List.cons_append, List.nil_append, List.cons.injEq] at he
      omega
    · rw [vint_big hb] at he
      simp only [List.cons_append, List.cons.injEq] at he
      have := ih _ he.2
      exact ⟨by omega, this.2⟩
end Go.X

/- Records in memory: stores of whole blocks, rows of records, maps keyed by arrays of bytes. -/
set_option linter.all false
namespace Go.X
open Go Go.Instr

theorem setRow_blk {b i : Nat} {e : TypeId} : ∀ (vs : List Value) (k : Nat) (w : World) (cs : Array Value), Blk w b cs e → i + k + vs.length ≤ cs.size →
    ∃ cs', Blk (setRow' w ⟨b, i, none⟩ vs k) b cs' e ∧ cs'.size = cs.size ∧ (∀ j, cs'[j]? = if i + k ≤ j ∧ j < i + k + vs.length then vs[j - (i + k)]? else cs[j]?) ∧ Ch (· = b) w (setRow' w ⟨b, i, none⟩ vs k) ∧ (setRow' w ⟨b, i, none⟩ vs k).heap.size = w.heap.size
  | [], k, w, cs, h, hs => ⟨cs, h, rfl, fun j => by rw [if_neg (by simp only [List.length_nil]; omega)], Ch.refl _ _, rfl⟩
  | v :: vs, k, w, cs, h, hs => by
    simp only [setRow', List.length_cons] at *
    have h1 : Blk (w.setCell ((⟨b, i, none⟩ : Addr).add k) v) b (cs.setIfInBounds (i + k) v) e := by rw [addr_add]; exact h.set
    have hc1 : Ch (· = b) w (w.setCell ((⟨b, i, none⟩ : Addr).add k) v) := by rw [addr_add]; exact Ch.setCell w ⟨b, i + k, none⟩ v
    obtain ⟨cs', h2, hsz, hj, hc2, hz⟩ := setRow_blk (i := i) vs (k + 1) _ _ h1 (by simp only [Array.size_setIfInBounds]; omega)
    refine ⟨cs', h2, by simpa using hsz, fun j => ?_, hc1.trans hc2, by rw [hz]; simp [World.setCell]⟩
    rw [hj j]
    by_cases e1 : j = i + k
    · subst e1
      rw [if_neg (by omega), if_pos (by omega)]
      have : i + k < cs.size := by omega
      simp [this]
    · by_cases e2 : i + k ≤ j ∧ j < i + k + (vs.length + 1)
      · rw [if_pos (by omega), if_pos e2]
        obtain ⟨m, rfl⟩ : ∃ m, j = i + k + (m + 1) := ⟨j - (i + k) - 1, by omega⟩
        rw [show i + k + (m + 1) - (i + (k + 1)) = m from by omega, show i + k + (m + 1) - (i + k) = m + 1 from by omega]
        simp
      · rw [if_neg (by omega), if_neg e2]
        rw [Array.getElem?_setIfInBounds_ne (by omega)]
theorem Blk.free' {w : World} {b i : Nat} {cs : Array Value} {e : TypeId} (h : Blk w b cs e) (j : Nat) : w.frozen? ((⟨b, i, none⟩ : Addr).add j) = false := by
  rw [addr_add]; exact h.free
/-- A store of some cells. -/
theorem StN.part {n b i : Nat} {ds cs : Array Value} {e : TypeId} {w : World} {K : World → Prop} (h : Blk w b ds e) (hn : cs.size = n) (h1 : ∀ v ∈ cs, v.oneCell' = true) (hi : i + n ≤ ds.size)
    (k : ∀ w' ds', Blk w' b ds' e → ds'.size = ds.size → (∀ j, ds'[j]? = if i ≤ j ∧ j < i + n then cs[j - i]? else ds[j]?) → Ch (· = b) w w' → w'.heap.size = w.heap.size → K w') : StN n (some ⟨b, i, none⟩) cs w K := by
  refine ⟨_, rfl, hn, h1, fun j hj => ⟨?_, h.free' j⟩, ?_⟩
  · rw [addr_add, h.cell (v := ds[i + j]'(by omega)) (Array.getElem?_eq_getElem _)]; rfl
  · obtain ⟨ds', a1, a2, a3, a4, a5⟩ := setRow_blk (i := i) cs.toList 0 w ds h (by simp; omega)
    refine k _ ds' a1 a2 (fun j => ?_) a4 a5
    simpa [hn] using a3 j
theorem StN.all {n b : Nat} {ds cs : Array Value} {e : TypeId} {w : World} {K : World → Prop} (h : Blk w b ds e) (hn : cs.size = n) (h1 : ∀ v ∈ cs, v.oneCell' = true) (hi : ds.size = n)
    (k : ∀ w', Blk w' b cs e → Ch (· = b) w w' → w'.heap.size = w.heap.size → K w') : StN n (some ⟨b, 0, none⟩) cs w K :=
  StN.part h hn h1 (by omega) fun w' ds' a1 a2 a3 a4 a5 => k w' (by
    have : ds' = cs := by
      apply Array.ext_getElem?
      intro j
      rw [a3 j]
      split
      · simp
      · rw [Array.getElem?_eq_none (by omega), Array.getElem?_eq_none (by omega)]
    exact this ▸ a1) a4 a5

/-- A row of records. -/
theorem flatMap_at {α : Type} {enc : α → List Value} {n : Nat} : ∀ (l : List α) (i : Nat), (∀ r ∈ l, (enc r).length = n) → (hi : i < l.length) → ∀ j, j < n → (l.flatMap enc)[i * n + j]? = (enc l[i])[j]?
  | [], i, _, hi => by simp at hi
  | r :: l, 0, h, hi => fun j hj => by
    have := h r (by simp)
    simp only [List.flatMap_cons, Nat.zero_mul, Nat.zero_add, List.getElem_cons_zero]
    rw [List.getElem?_append_left (by omega)]
  | r :: l, i + 1, h, hi => fun j hj => by
    have hr := h r (by simp)
    simp only [List.flatMap_cons, List.getElem_cons_succ]
    rw [List.getElem?_append_right (by rw [hr, Nat.succ_mul]; omega), hr]
    rw [show (i + 1) * n + j - n = i * n + j from by rw [Nat.succ_mul]; omega]
    exact flatMap_at l i (fun x hx => h x (by simp [hx])) (by simpa using hi) j hj
theorem flatMap_len {α : Type} {enc : α → List Value} {n : Nat} : ∀ (l : List α), (∀ r ∈ l, (enc r).length = n) → (l.flatMap enc).length = l.length * n
  | [], _ => by simp
  | r :: l, h => by
    rw [List.flatMap_cons, List.length_append, h r (by simp), flatMap_len l (fun x hx => h x (by simp [hx])), List.length_cons, Nat.succ_mul]; omega
theorem Sees.at {α : Type} {enc : α → List Value} {w : World} {s : Sl} {n : Nat} {l : List α} (hs : Sees w s n (l.flatMap enc)) (hn : ∀ r ∈ l, (enc r).length = n) (h0 : 0 < n) (i : Nat) (hi : i < l.length) :
    ∃ a, s.a = some a ∧ a.spot = none ∧ Row w (a.add (i * n)) (enc l[i]).toArray ∧ (enc l[i]).toArray.size = n := by
  have hl : l.length = s.len := Nat.eq_of_mul_eq_mul_right h0 ((flatMap_len l hn).symm.trans hs.1)
  obtain ⟨a, ha⟩ : ∃ a, s.a = some a := by
    cases h : s.a with
    | none => have := hs.2.2.1 h; omega
    | some a => exact ⟨a, rfl⟩
  obtain ⟨h1, h2⟩ := hs.2.2.2 a ha
  refine ⟨a, ha, h1, fun j v hj => ?_, by simpa using hn _ (List.getElem_mem hi)⟩
  obtain ⟨b, o, p⟩ := a
  simp only at h1
  subst h1
  have hjn : j < n := by
    have := (Array.getElem?_eq_some_iff.1 hj).1
    have hh := hn _ (List.getElem_mem hi)
    simp at this
    omega
  have := h2 (i * n + j) v (by rw [flatMap_at l i hn hi j hjn]; simpa using hj)
  simpa [Nat.add_assoc] using this
theorem Sees.count {α : Type} {enc : α → List Value} {w : World} {s : Sl} {n : Nat} {l : List α} (hs : Sees w s n (l.flatMap enc)) (hn : ∀ r ∈ l, (enc r).length = n) (h0 : 0 < n) : l.length = s.len :=
  Nat.eq_of_mul_eq_mul_right h0 ((flatMap_len l hn).symm.trans hs.1)

/-! ## Maps keyed by arrays of bytes -/
abbrev Arr (n : Nat) := {l : List Nat // l.length = n}
def arrV (l : List Nat) : Value := .agg (u8s l).toArray
theorem findAsking_law {P : Program} {kt : TypeId} {κ : Type} [DecidableEq κ] {enc : κ → Value} (h : ∀ (a b : κ) (w : World), (Op.equal kt (enc a) (enc b)).run P w = .ok (decide (a = b)) w) (k : κ) (w : World) :
    ∀ (l : List (κ × Value)) (es : List MapEntry) (i : Nat), es.map (fun e => (e.key, e.val)) = l.map (fun p => (enc p.1, p.2)) →
    (findAsking kt (enc k) es i).run P w = .ok ((l.findIdx? fun p => decide (p.1 = k)).bind fun j => (l[j]?).map fun p => (i + j, p.2)) w
  | [], [], i, _ => by simp [findAsking]
  | [], e :: es, i, he => by simp at he
  | p :: l, [], i, he => by simp at he
  | p :: l, e :: es, i, he => by
    simp only [List.map_cons, List.cons.injEq, Prod.mk.injEq] at he
    obtain ⟨⟨h1, h2⟩, h3⟩ := he
    simp only [findAsking, h1, Sem.run_bind, h, Result.andThen_ok]
    by_cases hk : k = p.1
    · simp [List.findIdx?_cons, hk, h2]
    · have hk' : ¬ p.1 = k := fun e => hk e.symm
      simp only [hk, decide_false, Bool.false_eq_true, if_false]
      rw [findAsking_law h k w l es (i + 1) h3]
      simp only [List.findIdx?_cons, hk', decide_false, Bool.false_eq_true, if_false]
      cases hf : l.findIdx? fun p => decide (p.1 = k) with
      | none => rfl
      | some j =>
        simp only [Option.map_some, Option.bind_some, List.getElem?_cons_succ]
        rw [show i + (j + 1) = i + 1 + j from by omega]
theorem check_parts {P : Program} {e : TypeId} {k : IntKind} {b : Bool} {m : Nat} (he : P.underlying e = some (.int k)) {z : Value} {bytes : Nat} (hz : TI P e z 1 bytes) (cs : Array Value) (w : World) : ∀ (c s : Nat), s + c ≤ cs.size →
    (forIn (List.range' s c) PUnit.unit fun i (_ : PUnit) => do checkKey b (m + 1) e (← part e cs (i * (← sizeOf e))); pure (ForInStep.yield PUnit.unit) : Sem PUnit).run P w = .ok PUnit.unit w
  | 0, s, _ => by simp
  | c + 1, s, h => by
    have ha : (isAgg e).run P w = .ok false w := by simp [isAgg, run_underlying he]
    have hv : cs[s]? = some cs[s] := by simp
    have hp : (part e cs s).run P w = .ok cs[s] w := by
      simp only [part, Sem.run_bind, ha, Result.andThen_ok, Bool.false_eq_true, if_false, hv, Sem.run_pure]
    have hck : (checkKey b (m + 1) e cs[s]).run P w = .ok () w := by simp [checkKey, run_underlying he]
    rw [List.range'_succ, List.forIn_cons]
    simp only [Sem.run_bind, hz.sizeOf, Result.andThen_ok, Nat.mul_one, hp, hck, Sem.run_pure]
    exact check_parts he hz cs w c (s + 1) (by omega)
theorem KeyLaw.arr {P : Program} {t e : TypeId} {n : Nat} {i : TypeInfo} {z : Value} {bytes : Nat} (ht : P.underlying t = some (.array n e)) (he : P.underlying e = some (.int .u8)) (hi : P.info? e = some i) (hz : TI P e z 1 bytes) (hc : P.cellsOf e = 1) (hg : P.eqGuardType P.depth t = false) :
    KeyLaw P t (fun k : Arr n => arrV k.1) where
  find k l es w hes := by
    have hlaw := findAsking_law (P := P) (kt := t) (enc := fun k : Arr n => arrV k.1) (fun a b w => by
      have := (EqOK.u8s ht he hi hc hg a.2 b.2).2 w 9995
      unfold Op.equal arrV
      rw [show Op.maxDepth = 9995 + 5 from rfl, this]
      simp only [Subtype.ext_iff]) k w l es 0 hes
    simp only [Nat.zero_add] at hlaw
    cases es with
    | nil =>
      have : l = [] := by cases l with | nil => rfl | cons => simp at hes
      subst this
      simp [findKey, run_underlying ht, findNow]
    | cons e0 es =>
      simp only [findKey, Sem.run_bind, run_underlying ht, Result.andThen_ok, findNow, sameNow]
      exact hlaw
  check b k w := by
    have : ∀ m, (checkKey b (m + 2) t (arrV k.1)).run P w = .ok () w := by
      intro m
      have hp := check_parts (P := P) (e := e) (b := b) (m := m) he hz (u8s k.1).toArray w n 0 (by simp [k.2])
      simp only [checkKey, arrV, Sem.run_bind, run_underlying ht, Result.andThen_ok]
      simp only [Std.Legacy.Range.forIn_eq_forIn_range', Std.Legacy.Range.size, Nat.sub_zero, Nat.add_one_sub_one, Nat.div_one]
      simp only [checkKey] at hp
      simp at hp ⊢
      rw [hp]
      rfl
    exact this 9998
  same k := by
    have : ∀ m, sameBits (m + 1) (arrV k.1) (arrV k.1) = true := by
      intro m
      simp only [sameBits, arrV, BEq.rfl, Bool.true_and, List.all_eq_true]
      intro p hp
      have h2 : ∀ (l : List Value), (∀ v ∈ l, ∃ n, v = .int .u8 n) → ∀ p ∈ l.zip l, sameBits m p.1 p.2 = true := by
        intro l
        induction l with
        | nil => simp
        | cons a l ih =>
          intro hl p hp
          simp only [List.zip_cons_cons, List.mem_cons] at hp
          rcases hp with rfl | hp
          · obtain ⟨n, rfl⟩ := hl a (by simp)
            cases m <;> simp [sameBits]
          · exact ih (fun v hv => hl v (by simp [hv])) p hp
      exact h2 _ (fun v hv => by obtain ⟨n, _, rfl⟩ := List.mem_map.1 (show v ∈ u8s k.1 from hv); exact ⟨_, rfl⟩) p hp
    exact this 9999

/-! ## Records put together -/
theorem fill_step {place : Nat → Option (Nat × Nat)} {cells : Array Value} {i off size : Nat} {v : Value} {rest : List (Nat × Value)} (pre mid post : List Value) (hp : place i = some (off, size)) (hc : cells.toList = pre ++ mid ++ post)
    (hl : pre.length = off) (hm : mid.length = size) (hv : v.cells.size = size) : fill place cells ((i, v) :: rest) = fill place (pre ++ v.cells.toList ++ post).toArray rest := by
  have hsz : cells.size = off + size + post.length := by
    have := congrArg List.length hc
    simp at this
    omega
  simp only [fill, hp]
  rw [if_neg (by simp [hv]; omega)]
  congr 1
  rw [← Array.foldl_toList, Array.toList_zipIdx]
  have h1 : ∀ (l : List Value) (k : Nat) (init : Array Value), (l.zipIdx k).foldl (fun (cs : Array Value) (p : Value × Nat) => cs.setIfInBounds (off + p.2) p.1) init = (l.zipIdx (off + k)).foldl (fun (cs : Array Value) (p : Value × Nat) => cs.setIfInBounds p.2 p.1) init := by
    intro l
    induction l with
    | nil => intro k init; rfl
    | cons a l ih => intro k init; simp only [List.zipIdx_cons, List.foldl_cons]; rw [ih (k + 1)]; rfl
  have h2 := h1 v.cells.toList 0 cells
  rw [h2, foldl_set _ _ _ (by simp [hv]; omega), hc]
  congr 1
  rw [show off + 0 = off from rfl, ← hl]
  simp only [List.append_assoc, List.take_left, List.append_cancel_left_eq]
  rw [show pre.length + v.cells.toList.length = (pre ++ mid).length from by simp [hv, hm], ← List.append_assoc, List.drop_left]
theorem fill_recs {n : Nat} : ∀ (xs : List (Array Value)) (k : Nat) (init : Array Value), (∀ x ∈ xs, x.size = n) → init.size = (k + xs.length) * n →
    fill (fun i => some (i * n, n)) init ((xs.zipIdx k).map fun p => (p.2, .agg p.1)) = some (init.toList.take (k * n) ++ xs.flatMap (·.toList)).toArray
  | [], k, init, _, h => by
    simp only [List.length_nil, Nat.add_zero] at h
    simp only [List.zipIdx_nil, List.map_nil, fill, List.flatMap_nil, List.append_nil]
    rw [List.take_of_length_le (by simp [h])]
  | x :: xs, k, init, hx, h => by
    have hxs := hx x (by simp)
    have hl : init.toList.length = k * n + n + xs.length * n := by
      simp only [List.length_cons] at h
      rw [Array.length_toList, h, Nat.add_mul, Nat.add_mul]; omega
    have h1 : init.toList = init.toList.take (k * n) ++ (init.toList.drop (k * n)).take n ++ init.toList.drop (k * n + n) := by
      rw [List.append_assoc, ← List.drop_drop, List.take_append_drop, List.take_append_drop]
    simp only [List.zipIdx_cons, List.map_cons]
    rw [fill_step (off := k * n) (size := n) _ _ _ rfl h1 (by rw [List.length_take]; omega) (by rw [List.length_take, List.length_drop]; omega) (by simpa [Value.cells] using hxs)]
    rw [fill_recs xs (k + 1) _ (fun y hy => hx y (by simp [hy])) (by
      have e : (k + 1 + xs.length) * n = k * n + n + xs.length * n := by rw [Nat.add_mul, Nat.add_mul, Nat.one_mul]
      have e2 : x.toList.length = n := by simpa using hxs
      rw [e]
      simp only [List.size_toArray, List.length_append, List.length_take, List.length_drop, Value.cells, hl, e2]
      omega)]
    congr 1
    simp only [List.flatMap_cons, Value.cells]
    congr 1
    have hlen : (init.toList.take (k * n) ++ x.toList).length = (k + 1) * n := by
      have e2 : x.toList.length = n := by simpa using hxs
      rw [List.length_append, List.length_take, e2, hl, Nat.add_mul]; omega
    rw [← hlen, List.take_left, List.append_assoc]
end Go.X

/- What comes in, opened: the cells of an argument that is a struct or an array. -/
set_option linter.all false
namespace Go.X
open Go

def CellsOK (P : Program) (W : World) (base : Nat) : List TypeId → List Value → Prop
  | [], [] => True
  | t :: ts, v :: vs => Cell.okWide P W .any base t v ∧ CellsOK P W base ts vs
  | _, _ => False
section
variable {P : Program} {W : World} {base : Nat}
theorem CellsOK.of_all : ∀ (ts : List TypeId) (vs : List Value), vs.length = ts.length → (∀ (i : Nat) (v : Value), vs[i]? = some v → ∃ u, ts[i]? = some u ∧ Cell.okWide P W .any base u v) → CellsOK P W base ts vs
  | [], [], _, _ => trivial
  | [], v :: vs, h, _ => by simp at h
  | t :: ts, [], h, _ => by simp at h
  | t :: ts, v :: vs, h, hc => by
    refine ⟨?_, CellsOK.of_all ts vs (by simpa using h) fun i u hi => ?_⟩
    · obtain ⟨u, hu, hw⟩ := hc 0 v rfl
      simp only [List.getElem?_cons_zero, Option.some.injEq] at hu
      exact hu ▸ hw
    · obtain ⟨u', hu, hw⟩ := hc (i + 1) u (by simpa using hi)
      exact ⟨u', by simpa using hu, hw⟩
theorem CellsOK.of_row {t : TypeId} {cs : Array Value} {ts : List TypeId} (h : Row.okWide P W .any base t cs) (ht : P.cellTypes P.depth t = some ts) (hs : cs.size = ts.length) : CellsOK P W base ts cs.toList := by
  obtain ⟨ts', h1, _, h3⟩ := h
  obtain rfl : ts = ts' := by rw [ht] at h1; exact Option.some.inj h1
  refine CellsOK.of_all ts cs.toList (by simpa using hs) fun i v hv => ?_
  have hi : i < ts.length := by
    have := (List.getElem?_eq_some_iff.1 hv).1
    simp at this
    omega
  obtain ⟨u, hu, hw⟩ := h3 i v (by simpa using hv)
  rw [Nat.mod_eq_of_lt hi] at hu
  exact ⟨u, hu, hw⟩
theorem CellsOK.of_value {t : TypeId} {v : Value} {ts : List TypeId} (h : Value.okWide P W .any base t v) (hd : (match P.underlying t with | some (.struct _) | some (.array _ _) => true | _ => false) = true) (ht : P.cellTypes P.depth t = some ts) (hs : P.cellsOf t = ts.length) :
    ∃ l, v = .agg l.toArray ∧ CellsOK P W base ts l := by
  unfold Value.okWide at h
  split at h
  · obtain ⟨cs, rfl, h1, h2⟩ := h
    exact ⟨cs.toList, rfl, CellsOK.of_row h2 ht (h1.trans hs)⟩
  · obtain ⟨cs, rfl, h1, h2⟩ := h
    exact ⟨cs.toList, rfl, CellsOK.of_row h2 ht (h1.trans hs)⟩
  · rename_i h1 h2
    split at hd
    · rename_i hu; exact absurd hu (h1 _)
    · rename_i hu; exact absurd hu (h2 _ _)
    · cases hd
theorem CellsOK.cons {t : TypeId} {ts : List TypeId} {l : List Value} (h : CellsOK P W base (t :: ts) l) : ∃ v vs, l = v :: vs ∧ Cell.okWide P W .any base t v ∧ CellsOK P W base ts vs := by
  cases l with
  | nil => exact h.elim
  | cons v vs => exact ⟨v, vs, rfl, h.1, h.2⟩
theorem CellsOK.nil {l : List Value} (h : CellsOK P W base [] l) : l = [] := by
  cases l with
  | nil => rfl
  | cons v vs => exact h.elim
theorem cell_int {t : TypeId} {k : IntKind} {v : Value} (ht : P.underlying t = some (.int k)) (h : Cell.okWide P W .any base t v) : ∃ n, v = .int k n ∧ k.has n := by
  unfold Cell.okWide Cell.ok at h
  rw [ht] at h
  cases v <;> simp at h
  obtain ⟨rfl, h⟩ := h
  exact ⟨_, rfl, h⟩
theorem cell_string {t : TypeId} {v : Value} (ht : P.underlying t = some .string) (h : Cell.okWide P W .any base t v) : ∃ s : ByteArray, v = .string s ∧ (s.size : Int) ≤ IntKind.i64.max := by
  unfold Cell.okWide Cell.ok at h
  rw [ht] at h
  cases v <;> simp at h
  exact ⟨_, rfl, h⟩
theorem cell_bool {t : TypeId} {v : Value} (ht : P.underlying t = some .bool) (h : Cell.okWide P W .any base t v) : ∃ b, v = .bool b := by
  unfold Cell.okWide Cell.ok at h
  rw [ht] at h
  cases v <;> simp at h
  exact ⟨_, rfl⟩
theorem cells_u8 {e : TypeId} (he : P.underlying e = some (.int .u8)) : ∀ (n : Nat) (ts : List TypeId) (l : List Value), CellsOK P W base (List.replicate n e ++ ts) l → ∃ bs rest, l = u8s bs ++ rest ∧ bs.length = n ∧ (∀ b ∈ bs, b < 256) ∧ CellsOK P W base ts rest
  | 0, ts, l, h => ⟨[], l, rfl, rfl, by simp, h⟩
  | n + 1, ts, l, h => by
    rw [List.replicate_succ, List.cons_append] at h
    obtain ⟨v, vs, rfl, h1, h2⟩ := CellsOK.cons h
    obtain ⟨m, rfl, hm⟩ := cell_int he h1
    obtain ⟨bs, rest, rfl, h3, h4, h5⟩ := cells_u8 he n ts vs h2
    have h0 : 0 ≤ m ∧ m ≤ 255 := hm
    refine ⟨m.toNat :: bs, rest, ?_, by simp [h3], ?_, h5⟩
    · simp only [u8s_cons, List.cons_append]
      rw [Int.toNat_of_nonneg h0.1]
    · intro b hb
      rcases List.mem_cons.1 hb with rfl | hb
      · omega
      · exact h4 b hb
end
end Go.X

/- min and max of two numbers; calls of functions of the library without a Go body. -/
set_option linter.all false
set_option linter.all false
namespace Go.X
open Go
theorem minI_eq (m n : Int) : (if n < m then n else m) = minI m n := by unfold minI; split <;> split <;> omega
theorem maxI_eq (m n : Int) : (if n > m then n else m) = maxI m n := by unfold maxI; split <;> split <;> omega
section
variable {P : Program} {ρ : Operand → Value} {o : Oper} {x y : Operand} {k : IntKind} {m n : Int} {ts : Array TypeId} {w : World}
theorem p_min (ho : o.op = .call { callee := .builtin .min, args := #[x, y], argTypes := ts }) (hx : ρ x = .int k m) (hy : ρ y = .int k n) : PureOp P ρ o (.int k (minI m n)) := fun w => by
  rw [← minI_eq]
  simp [execOp, ho, resolve, invoke, builtin, Builtin.min_, hx, hy, Builtin.min2]
theorem p_max (ho : o.op = .call { callee := .builtin .max, args := #[x, y], argTypes := ts }) (hx : ρ x = .int k m) (hy : ρ y = .int k n) : PureOp P ρ o (.int k (maxI m n)) := fun w => by
  rw [← maxI_eq]
  simp [execOp, ho, resolve, invoke, builtin, Builtin.max_, hx, hy, Builtin.max2]
theorem e_extV {g : FuncId} {fn : Func} {e : Array Value → Sem Value} {xs : Array Operand} {args : List Value} {K : Value → World → Prop} (h : Ef P (e args.toArray) id w K) (ho : o.op = .call { callee := .value (.func g), args := xs, argTypes := ts }) (hg : ρ (.func g) = .func (.func g) #[] #[])
    (hf : P.funcs[g]? = some fn) (hn : (fn.name == "runtime.NumGoroutine") = false) (hb : fn.body.isNone = true) (hn2 : Extern.findNext fn = none) (he : Extern.find fn = some e) (ha' : xs.toList.map ρ = args) : EffOp P ρ o w K := by
  obtain ⟨v, w', hr, hk⟩ := h
  have ha : xs.map ρ = args.toArray := by subst ha'; apply Array.ext'; simp
  unfold EffOp
  have e' : (execOp ρ o).run P w = .ok (.value v) w' := by
    simp only [execOp, ho, resolve, Deferred.ofValue, hg, Sem.run_bind, Sem.run_pure, Result.andThen_ok, ha, invoke, Array.empty_append, Array.append_empty, run_callFunc_extern hf hn hb hn2 he, hr]
    rfl
  rw [e']
  exact hk
theorem e_ext {α : Type} {enc : α → Value} {g : FuncId} {fn : Func} {e : Array Value → Sem Value} {xs : Array Operand} {args : List Value} {K : α → World → Prop} (h : Ef P (e args.toArray) enc w K) (ho : o.op = .call { callee := .value (.func g), args := xs, argTypes := ts }) (hg : ρ (.func g) = .func (.func g) #[] #[])
    (hf : P.funcs[g]? = some fn) (hn : (fn.name == "runtime.NumGoroutine") = false) (hb : fn.body.isNone = true) (hn2 : Extern.findNext fn = none) (he : Extern.find fn = some e) (ha' : xs.toList.map ρ = args) : EffOp P ρ o w fun v w' => ∃ x, v = enc x ∧ K x w' := by
  obtain ⟨v, w', hr, hk⟩ := h
  exact e_extV ⟨enc v, w', hr, v, rfl, hk⟩ ho hg hf hn hb hn2 he ha'
end
def XE_clone := Extern.MapsClone.clone
def XE_Compare := Extern.BytealgCompare.compare
/-- maps.Clone's body: a map in an interface. -/
theorem clone_run {P : Program} {κ : Type} [DecidableEq κ] {enc : κ → Value} {w : World} {r : Nat} {l : List (κ × Value)} {t : TypeId} (hm : MapB w r enc l) :
    ∃ w', (XE_clone #[.iface t (.map (some r))]).run P w = .ok (.iface t (.map (some w.heap.size))) w' ∧ MapB w' w.heap.size enc l ∧ Ext w w' ∧ w'.heap.size = w.heap.size + 1 := by
  have hlt := hm.lt
  obtain ⟨es, c, h1, h2⟩ := hm
  have hobj : (getObj r).run P w = .ok (.map es c) w := by simp [getObj, Sem.run, h1]
  refine ⟨w.alloc (.map es c), ?_, ⟨es, c, ?_, h2⟩, Ch.alloc w _, by simp⟩
  · have e : XE_clone #[.iface t (.map (some r))] = (getObj r >>= fun o => match o with | .map entries clock => (do pure (.iface t (.map (some (← newObj (.map entries clock)))))) | _ => stuck "maps.clone: a map expected") := rfl
    rw [e]
    simp [Sem.run_bind, hobj, newObj, Sem.run]
  · show (w.heap.push _)[w.heap.size]? = _; simp
end Go.X

/- Ranges over functions: the statement, the round, the call of yield. -/
set_option linter.all false
set_option linter.all false
namespace Go.X
open Go

/-- The loop's record in a state, with a pending jump. -/
def LRof (lr : Loop) (st : LoopState) (c : Option Code) : Obj := .loop { lr with state := st, pending := c }
/-- The round begins. -/
def BegR (l : Nat) (lr : Loop) (w : World) (K : World → Prop) : Prop := w.heap[l]? = some (LRof lr .ready none) ∧ K (w.putObj l (LRof lr .busy none))
/-- The round ends, by a jump or by none. -/
def EndR (l : Nat) (lr : Loop) (c : Option Code) (w : World) (K : Value → World → Prop) : Prop :=
  w.heap[l]? = some (LRof lr .busy none) ∧ K (.bool c.isNone) (w.putObj l (LRof lr (if c.isNone then .ready else .done) c))
/-- A range over a function: whatever the record and yield are, the function's call comes to its end, and the loop goes on as K says. Y: what a round comes to. -/
def RF (P : Program) (fv : Value) (Y : Nat → Loop → Array Value → World → (Value → World → Prop) → Prop) (w : World) (K : Nat → Option Code → World → Prop) : Prop :=
  ∀ (lr : Loop) (y : Value),
    (∀ args w' K', w'.heap[w.heap.size + 1]? = some (LRof lr .ready none) → Y (w.heap.size + 1) lr args w' K' → CallV P y args w' K') →
    CallC P fv #[y] ((w.alloc (.deferred (some []))).alloc (LRof lr .ready none)) fun _ w' =>
      ∃ st c, st ≠ .busy ∧ w'.heap[w.heap.size + 1]? = some (LRof lr st c) ∧ K w.heap.size c (w'.putObj (w.heap.size + 1) (LRof lr .exhausted c))

section rules
variable {P : Program} {f : Fr} {n : Nat} {R : Value → World → Prop} {k : List Item} {σ : Env} {w : World}

theorem r_beg {l : Nat} {lr : Loop} (hro : f.ro = some l) (h : w.heap[l]? = some (LRof lr .ready none)) (hk : Runs P f n R k σ (w.putObj l (LRof lr .busy none))) : Runs P f n R (.beginRound :: k) σ w :=
  Ends.steps hk fun cs => .one (stepR_beginRound (b := f.frame) hro (run_beginRound h rfl))

theorem ends_round {l : Nat} {m : List Frame → Machine} (hro : f.ro = some l) (h : ∀ c cs, ∃ v w', R v w' ∧ Steps P (m (c :: cs)) (lone (c.finish v) cs w')) : Ends P f R m := by
  unfold Ends; rw [hro]; exact h
theorem r_rEnd {l : Nat} {lr : Loop} (hro : f.ro = some l) (h : EndR l lr none w R) : Runs P f n R [] σ w :=
  ends_round hro fun c cs => ⟨_, _, h.2, .one (stepR_round_end (b := f.frame) hro rfl (run_endRound (r := { lr with state := .busy, pending := none }) none h.1))⟩
theorem r_rRet {l : Nat} {lr : Loop} (hro : f.ro = some l) (h : EndR l lr (some .ret) w R) : Runs P f n R (.code .ret :: k) σ w :=
  ends_round hro fun c cs => ⟨_, _, h.2, .one (stepR_round_ret (b := f.frame) hro rfl (run_endRound (r := { lr with state := .busy, pending := none }) (some .ret) h.1))⟩
theorem r_rExit {l id : Nat} {lr : Loop} (hro : f.ro = some l) (hx : exitTo id k = none) (h : EndR l lr (some (.exit id)) w R) : Runs P f n R (.code (.exit id) :: k) σ w :=
  ends_round hro fun c cs => ⟨_, _, h.2, .one (stepR_round_exit (b := f.frame) hro rfl hx (run_endRound (r := { lr with state := .busy, pending := none }) (some (.exit id)) h.1))⟩

/-- The slots of a round: the parameters are laid upon those of the loop. -/
def updL : List (Nat × Value) → Env → Env
  | [], σ => σ
  | (i, v) :: l, σ => updL l (upd i v σ)
theorem foldl_updL (n : Nat) : ∀ (l : List (Nat × Value)) (σ : Env), l.foldl (fun tmps (p : Nat × Value) => tmps.setIfInBounds p.1 p.2) (mkAct n σ).tmps = (mkAct n (updL l σ)).tmps
  | [], σ => rfl
  | (i, v) :: l, σ => by
    have h := mkAct_put n σ i v
    simp only [Act.put, mkAct, Act.mk.injEq] at h
    simp only [List.foldl_cons, updL]
    rw [← foldl_updL n l]
    exact congrArg (fun x => List.foldl (fun tmps (p : Nat × Value) => tmps.setIfInBounds p.1 p.2) x l) h.1

theorem callV_yield {l : Nat} {lr : Loop} {args : Array Value} {fn : FuncId} {n : Nat} {σ : Env} {K : Value → World → Prop} (h : w.heap[l]? = some (LRof lr .ready none)) (hn : args.size = lr.params.size) (hfn : lr.fn = fn) (ht : lr.tmps = (mkAct n σ).tmps)
    (hr : Runs P ⟨fn, some l, []⟩ n K [.code lr.assign, .beginRound, .code lr.body] (updL (lr.params.toList.zip args.toList) σ) w) : CallV P (.func (.yield l) #[] #[]) args w K := by
  unfold CallV
  have e : (do let d ← Deferred.ofValue (.func (.yield l) #[] #[]) args; invoke d.target d.args : Sem Next).run P w =
      .ok (.round l fn (mkAct n (updL (lr.params.toList.zip args.toList) σ)).tmps lr.assign lr.body) w := by
    simp only [Deferred.ofValue, Sem.run_bind, Sem.run_pure, Result.andThen_ok, invoke, Array.empty_append]
    have hy := run_yield (P := P) (r := { lr with state := .ready, pending := none }) h (args := args) hn
    rw [hy]
    congr 2
    rw [← foldl_updL, ← ht, ← Array.foldl_toList]
    simp [Array.toList_zip]
  rw [e]
  intro c cs
  obtain ⟨v, w', hK, hs⟩ := hr c cs
  refine ⟨v, w', hK, ?_⟩
  exact hs

theorem r_range {g : Operand} {ps : Array Tmp} {asg body : Code} {fv : Value} {Y : Nat → Loop → Array Value → World → (Value → World → Prop) → Prop} {K : Nat → Option Code → World → Prop} (hro : f.ro = none) (hg : ev n σ g = fv) (H : RF P fv Y w K)
    (hY : ∀ l lr args w K, Y l lr args w K → ∃ vs : List Value, args = vs.toArray ∧ vs.length = ps.size ∧ Runs P ⟨f.fn, some l, []⟩ n K [.code asg, .beginRound, .code body] (updL (ps.toList.zip vs) σ) w)
    (hK : ∀ r c w', K r c w' → Runs P ⟨f.fn, f.ro, r :: f.ds⟩ n R ((c.map Item.code).toList ++ k) σ w') : Runs P f n R (.code (.rangeFunc g ps asg body) :: k) σ w := by
  let lr : Loop := { state := .ready, pending := none, fn := f.fn, tmps := (f.act n σ).tmps, params := ps, assign := asg, body := body, defers := w.heap.size }
  obtain ⟨gf, fn, c, pre, cap, e1, e2, e3, e4, hc⟩ := H lr (.func (.yield (w.heap.size + 1)) #[] #[]) fun args w' K' hl hy => by
    obtain ⟨vs, rfl, hvs, hr⟩ := hY _ _ _ _ _ hy
    exact callV_yield (lr := lr) hl (by simpa using hvs) rfl rfl hr
  unfold Runs Ends
  rw [hro]
  intro cs
  have he : (Instr.enterLoop f.frame.fn (f.act n σ).tmps ps asg body f.frame.roundOf).run P w = .ok (w.heap.size + 1, [{ target := .collected w.heap.size, args := #[] }]) ((w.alloc (.deferred (some []))).alloc (LRof lr .ready none)) := by
    have hr : f.frame.roundOf = none := hro
    rw [hr]
    exact run_enterLoop_outer _ _ _ _ _
  have hres : (resolve (f.act n σ).eval (rangeCall g (w.heap.size + 1)) 0).run P ((w.alloc (.deferred (some []))).alloc (LRof lr .ready none)) = .ok { target := .fn (.func gf) cap, args := pre ++ #[.func (.yield (w.heap.size + 1)) #[] #[]] } ((w.alloc (.deferred (some []))).alloc (LRof lr .ready none)) := by
    have ha : (f.act n σ).eval (.const (.func (.yield (w.heap.size + 1)) #[] #[])) = .func (.yield (w.heap.size + 1)) #[] #[] := rfl
    have hb : (f.act n σ).eval g = .func (.func gf) pre cap := by rw [act_eval, hg, e1]
    simp [resolve, rangeCall, hb, ha, Deferred.ofValue]
  have hinv : (invoke (.fn (.func gf) cap) (pre ++ #[.func (.yield (w.heap.size + 1)) #[] #[]])).run P ((w.alloc (.deferred (some []))).alloc (LRof lr .ready none)) = .ok (.enter gf (pre ++ #[.func (.yield (w.heap.size + 1)) #[] #[]] ++ cap)) ((w.alloc (.deferred (some []))).alloc (LRof lr .ready none)) := by
    simp only [invoke, callFunc_run e2 e3 e4]
  have hs1 := stepR_rangeFunc (b := f.frame) (k := k) (cs := cs) he hres hinv
  obtain ⟨e, w', fr, ⟨v, rfl, st, c', hst, hl, hKK⟩, hst2, _, hleave⟩ := hc (f.frame.atR { (f.act n σ) with defers := [{ target := .collected w.heap.size, args := #[] }] ++ (f.act n σ).defers } (.inRangeFunc (w.heap.size + 1) :: k) :: cs)
  have hend : (Instr.endLoop (w.heap.size + 1)).run P w' = .ok c' (w'.putObj (w.heap.size + 1) (LRof lr .exhausted c')) := run_endLoop (r := { lr with state := st, pending := c' }) hl hst
  have hs3 := stepR_endRangeFunc (b := f.frame) (a := { (f.act n σ) with defers := [{ target := .collected w.heap.size, args := #[] }] ++ (f.act n σ).defers }) (k := k) (cs := cs) hend
  have hrest := hK _ _ _ hKK
  unfold Runs Ends at hrest
  simp only [hro] at hrest
  obtain ⟨v2, w2, fr2, hR, hsteps, hf2, hl2⟩ := hrest cs
  refine ⟨v2, w2, fr2, hR, ?_, hf2, hl2⟩
  refine .head hs1 (hst2.trans (.head ?_ (.head hs3 ?_)))
  · rw [← finish_atR_inRangeFunc (v := v)]; exact step_leave_returned hleave
  · have hfr : (⟨f.fn, f.ro, w.heap.size :: f.ds⟩ : Fr).frame = f.frame := rfl
    simpa [Fr.act, Fr.marks, Fr.frame, hro] using hsteps
theorem r_rangeJ {α : Type} {g : Operand} {ps : Array Tmp} {asg body : Code} (enc : α → Env → Env) (N : (Value → World → Prop) → Nat → Loop → α → World → Prop)
    (hJ : ∀ K l lr s σ w, N K l lr s w → Runs P ⟨f.fn, some l, []⟩ n K [.code asg, .beginRound, .code body] (enc s σ) w)
    (h : (∀ K l lr s σ w, N K l lr s w → Runs P ⟨f.fn, some l, []⟩ n K [.code asg, .beginRound, .code body] (enc s σ) w) → Runs P f n R (.code (.rangeFunc g ps asg body) :: k) σ w) : Runs P f n R (.code (.rangeFunc g ps asg body) :: k) σ w := h hJ
theorem rj_none (h : Runs P f n R k σ w) : Runs P f n R (((none : Option Code).map Item.code).toList ++ k) σ w := h
theorem rj_some {c : Code} (h : Runs P f n R (.code c :: k) σ w) : Runs P f n R (((some c).map Item.code).toList ++ k) σ w := h
end rules
end Go.X
