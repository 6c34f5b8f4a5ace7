/- Values of Go's kinds, and laws on them: bytes of strings, arrays' equality. -/
import Derived.Test.YtnjilbgcflbghaaXNum
import Derived.ChangeKeysEq
import Derived.Lib.ConvBytes
import Derived.Laws.Strings
set_option linter.all false
namespace Go.X
open Go

def bs (s : ByteArray) : List Nat := s.data.toList.map UInt8.toNat
@[simp] theorem bs_length (s : ByteArray) : (bs s).length = s.size := by simp [bs]
theorem bs_byte (s : ByteArray) : ∀ b ∈ bs s, b < 256 := by
  intro b hb
  obtain ⟨x, _, rfl⟩ := List.mem_map.1 hb
  exact x.toNat_lt
theorem bs_inj {a b : ByteArray} (h : bs a = bs b) : a = b := by
  cases a; cases b
  simp only [bs, ByteArray.mk.injEq] at *
  apply Array.toList_inj.1
  exact (List.map_inj_right (fun x y hxy => UInt8.toNat_inj.1 hxy)).1 h

theorem seq_eq (a b : ByteArray) : seq a b = decide (a = b) := by
  unfold seq
  rw [Bool.eq_iff_iff, beq_iff_eq, decide_eq_true_eq, ByteArray.toList_eq, ByteArray.toList_eq]
  constructor
  · intro h
    cases a; cases b
    simp only [ByteArray.mk.injEq]
    exact Array.toList_inj.1 h
  · intro h; rw [h]
theorem Sees.part {w : World} {b i n size : Nat} {cs : Array Value} {e : TypeId} {xs : List Value} (h : Blk w b cs e) (hx : ∀ j v, xs[j]? = some v → cs[i + j]? = some v) (hn : xs.length = n * size) : Sees w ⟨some ⟨b, i, none⟩, n, n⟩ size xs :=
  ⟨hn, Nat.le_refl _, (fun h => by cases h), fun a ha => by
    obtain rfl : _ = a := by injection ha
    exact ⟨rfl, fun j v hj => by rw [addr_add]; exact h.cell (hx j v hj)⟩⟩

theorem Cut.all {s : Sl} {size : Nat} {K : Sl → Prop} (hle : s.len ≤ s.cap) (hs : ∀ a, s.a = some a → a.spot = none) (k : K s) : Cut s size none none none K := by
  refine ⟨0, s.len, s.cap, rfl, Nat.le_refl _, ⟨rfl, rfl⟩, rfl, Nat.zero_le _, ?_⟩
  have : (if s.cap = 0 then s.a else s.a.map (·.add (0 * size))) = s.a := by
    split
    · rfl
    · cases h : s.a with
      | none => rfl
      | some a =>
        have := hs a h
        obtain ⟨b, o, p⟩ := a
        simp only at this
        subst this
        simp
  rw [this]
  exact k
/-- The bytes of a string. -/
theorem Ef.bytes {P : Program} {w : World} {src dst e : TypeId} {s : ByteArray} {u : TypeDesc} {K : Sl → World → Prop} (hs : P.underlying src = some u) (hd : P.underlying dst = some (.slice e)) (he : P.underlying e = some (.int .u8))
    (k : ∀ s' w', Sees w' s' 1 (u8s (bs s)) → Ext w w' → s'.len = s.size → (∀ b, s'.blk b → b = w.heap.size) → w'.heap.size = w.heap.size + 1 → K s' w') : Ef P (convert src dst (.string s)) Sl.v w K := by
  refine ⟨⟨some ⟨w.heap.size, 0, none⟩, s.size, grownCap w s.size 0 e⟩, _, Go.Lib.run_convert_string_bytes w src dst e s hs hd he, k _ _ ?_ ?_ rfl ?_ (Go.Lib.bytesWorld_size w e s)⟩
  · refine ⟨by simp, grownCap_ge .., (fun h => by cases h), fun a ha => ?_⟩
    obtain rfl : _ = a := by injection ha
    refine ⟨rfl, fun i v hv => ?_⟩
    have hi : i < s.size := by
      have := (List.getElem?_eq_some_iff.1 hv).1
      simpa using this
    rw [addr_add, Nat.zero_add, Go.Lib.bytesWorld_cell w e s i hi]
    simp only [u8s, bs, List.map_map, List.getElem?_map] at hv
    rw [← hv]
    have hi' : i < s.data.size := hi
    rw [List.getElem?_eq_getElem (show i < s.data.toList.length from hi')]
    simp only [List.getD, Array.getElem?_toList, Array.getElem?_eq_getElem hi', Option.getD_some, Option.map_some, Function.comp, Array.getElem_toList]
  · refine ⟨?_, ?_, ?_, by rw [Go.Lib.bytesWorld_size]; omega, fun k hk _ => Go.Lib.bytesWorld_at_old w e s k hk⟩ <;> rfl
  · rintro b ⟨a, ha, rfl⟩
    obtain rfl : _ = a := by injection ha
    rfl

theorem eqItems_ints {P : Program} {d : Nat} {e : TypeId} {k : IntKind} (he : P.underlying e = some (.int k)) (xs ys : List Int) (w : World) (hl : xs.length = ys.length) : ∀ c s, s + c = xs.length →
    (Op.eqItems (d + 1) e 1 (xs.map (Value.int k)).toArray (ys.map (Value.int k)).toArray (List.range' s c)).run P w = .ok (decide (xs.drop s = ys.drop s)) w
  | 0, s, h => by
    rw [List.drop_of_length_le (by omega), List.drop_of_length_le (by omega)]
    simp [Op.eqItems]
  | c + 1, s, h => by
    have h1 : s < xs.length := by omega
    have h2 : s < ys.length := by omega
    have ih := eqItems_ints (d := d) he xs ys w hl c (s + 1) (by omega)
    rw [List.range'_succ, show (decide (xs.drop s = ys.drop s)) = decide (xs[s] :: xs.drop (s + 1) = ys[s] :: ys.drop (s + 1)) from by rw [← List.drop_eq_getElem_cons h1, ← List.drop_eq_getElem_cons h2]]
    have ha : (isAgg e).run P w = .ok false w := by simp [isAgg, run_underlying he]
    have hp : ∀ (cs : Array Value) (v : Value), cs[s]? = some v → (part e cs s).run P w = .ok v w := fun cs v hv => by
      simp only [part, Sem.run_bind, ha, Result.andThen_ok, Bool.false_eq_true, if_false, hv, Sem.run_pure]
    have hq : ∀ a b : Int, (Op.equalIn (d + 1) e (.int k a) (.int k b)).run P w = .ok (a == b) w := fun a b => by
      simp only [Op.equalIn, Sem.run_bind, run_underlying he, Result.andThen_ok, if_true, Sem.run_pure]
    simp only [Op.eqItems, Nat.mul_one, Sem.run_bind, hp (xs.map (Value.int k)).toArray (.int k xs[s]) (by simp [h1]), hp (ys.map (Value.int k)).toArray (.int k ys[s]) (by simp [h2]), Result.andThen_ok, hq]
    by_cases hx : xs[s] = ys[s]
    · simp only [hx, beq_self_eq_true, Bool.not_true, Bool.false_eq_true, if_false, ih, List.cons.injEq, true_and]
    · simp only [beq_eq_false_iff_ne.2 hx, Bool.not_false, if_true, Sem.run_pure, List.cons.injEq, hx, false_and, decide_false]
/-- Arrays of numbers. -/
theorem EqOK.ints {P : Program} {t e : TypeId} {n : Nat} {k : IntKind} {i : TypeInfo} (ht : P.underlying t = some (.array n e)) (he : P.underlying e = some (.int k)) (hi : P.info? e = some i) (hc : P.cellsOf e = 1) (hg : P.eqGuardType P.depth t = false)
    {xs ys : List Int} (hx : xs.length = n) (hy : ys.length = n) : EqOK P t (.agg (xs.map (Value.int k)).toArray) (.agg (ys.map (Value.int k)).toArray) (decide (xs = ys)) :=
  ⟨hg, fun w d => by
    rw [run_equalIn_array w (d + 4) _ _ ht hi, hc, List.range_eq_range']
    simpa using eqItems_ints (d := d + 3) he xs ys w (by omega) n 0 (by omega)⟩
theorem u8s_ints (l : List Nat) : u8s l = (l.map fun n : Nat => (n : Int)).map (Value.int .u8) := by simp [u8s]
theorem EqOK.u8s {P : Program} {t e : TypeId} {n : Nat} {i : TypeInfo} (ht : P.underlying t = some (.array n e)) (he : P.underlying e = some (.int .u8)) (hi : P.info? e = some i) (hc : P.cellsOf e = 1) (hg : P.eqGuardType P.depth t = false)
    {xs ys : List Nat} (hx : xs.length = n) (hy : ys.length = n) : EqOK P t (.agg (u8s xs).toArray) (.agg (u8s ys).toArray) (decide (xs = ys)) := by
  rw [u8s_ints, u8s_ints]
  have h : (xs = ys) ↔ (xs.map fun n : Nat => (n : Int)) = ys.map fun n : Nat => (n : Int) := ⟨fun h => by rw [h], fun h => (List.map_inj_right (fun x y hxy => Int.ofNat.inj hxy)).1 h⟩
  simp only [h]
  exact EqOK.ints ht he hi hc hg (by simpa using hx) (by simpa using hy)

/-- An integer as a number of 64 bits without sign. -/
def u64n (z : Int) : Nat := (z % 18446744073709551616).toNat
theorem wrap_u64n (z : Int) : IntKind.u64.wrap z = (u64n z : Int) := by
  simp only [IntKind.wrap, IntKind.bits, IntKind.signed, Bool.false_and, Bool.false_eq_true, if_false, u64n]; omega
theorem u64n_lt (z : Int) : u64n z < 18446744073709551616 := by unfold u64n; omega
theorem u64n_inj {a b : Int} (ha : -9223372036854775808 ≤ a ∧ a ≤ 9223372036854775807) (hb : -9223372036854775808 ≤ b ∧ b ≤ 9223372036854775807) (h : u64n a = u64n b) : a = b := by
  unfold u64n at h; omega
/-- A number's bytes end where they end: what is behind is told too. -/
theorem vint_append : ∀ (a b : Nat) {xs ys : List Nat}, vint a ++ xs = vint b ++ ys → a = b ∧ xs = ys := by
  intro a
  induction a using vint.induct with
  | case1 a h =>
    intro b xs ys he
    rw [vint_small h] at he
    by_cases hb : b < 128
    · rw [vint_small hb] at he
      simpa using he
    · rw [vint_big hb] at he
      simp only [List.cons_append, List.nil_append, List.cons.injEq] at he
      omega
  | case2 a h ih =>
    intro b xs ys he
    rw [vint_big h] at he
    by_cases hb : b < 128
    · rw [vint_small hb] at he
      simp only [List.cons_append, List.nil_append, List.cons.injEq] at he
      omega
    · rw [vint_big hb] at he
      simp only [List.cons_append, List.cons.injEq] at he
      have := ih _ he.2
      exact ⟨by omega, this.2⟩
end Go.X
