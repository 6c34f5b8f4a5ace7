/- Laid by program. -/
import Derived.Test.YtnjilbgcflbghaaXE2
import Derived.Test.YtnjilbgcflbghaaXE1
import Derived.Sort.AssemblyPlain
import Derived.Sort.LotA
import Derived.ChangeArms
import Derived.OpenShut
import Derived.Deep.Slices
import Derived.Laws.StructEq
/- Whole numbers of a kind as bit vectors. -/
set_option linter.all false
set_option linter.all false
namespace Go.X
open Go
/-- An unsigned kind of so many bits. -/
def UK (k : IntKind) (n : Nat) : Prop := k.bits = n ∧ k.signed = false
theorem uk32 : UK .u32 32 := ⟨rfl, rfl⟩
theorem uk64 : UK .u64 64 := ⟨rfl, rfl⟩
theorem uk8 : UK .u8 8 := ⟨rfl, rfl⟩
theorem uk16 : UK .u16 16 := ⟨rfl, rfl⟩
/-- The number of a bit vector. -/
def iv {n : Nat} (x : BitVec n) : Int := (x.toNat : Int)
section
variable {k : IntKind} {n : Nat} (h : UK k n)
include h
theorem wrap_iv (z : Int) : k.wrap z = iv (BitVec.ofInt n z) := by
  obtain ⟨h1, h2⟩ := h
  simp only [IntKind.wrap, h1, h2, Bool.false_and, Bool.false_eq_true, if_false, iv, BitVec.toNat_ofInt]
  have hp : (0 : Int) < 2 ^ n := by exact Int.pow_pos (by omega)
  rw [Int.toNat_of_nonneg (Int.emod_nonneg _ (by simp; omega))]
  simp
theorem ofInt_iv (x : BitVec n) : BitVec.ofInt n (iv x) = x := by
  apply BitVec.eq_of_toNat_eq
  simp [iv, BitVec.toNat_ofInt]
theorem wrapN (x : Nat) : k.wrap (x : Int) = iv (BitVec.ofNat n x) := by rw [wrap_iv h]; rfl
theorem wrap_self (x : BitVec n) : k.wrap (iv x) = iv x := by rw [wrap_iv h, ofInt_iv h]
theorem add_iv (x y : BitVec n) : k.wrap (iv x + iv y) = iv (x + y) := by rw [wrap_iv h]; congr 1
theorem mul_iv (x y : BitVec n) : k.wrap (iv x * iv y) = iv (x * y) := by rw [wrap_iv h]; congr 1
theorem and_iv (x y : BitVec n) : andK k (iv x) (iv y) = iv (x &&& y) := by
  have h1 := h.1; subst h1
  unfold andK; rw [ofInt_iv h, ofInt_iv h]; exact wrap_self h _
theorem or_iv (x y : BitVec n) : orK k (iv x) (iv y) = iv (x ||| y) := by
  have h1 := h.1; subst h1
  unfold orK; rw [ofInt_iv h, ofInt_iv h]; exact wrap_self h _
theorem xor_iv (x y : BitVec n) : xorK k (iv x) (iv y) = iv (x ^^^ y) := by
  have h1 := h.1; subst h1
  unfold xorK; rw [ofInt_iv h, ofInt_iv h]; exact wrap_self h _
theorem andNot_iv (x y : BitVec n) : andNotK k (iv x) (iv y) = iv (x &&& ~~~y) := by
  have h1 := h.1; subst h1
  unfold andNotK; rw [ofInt_iv h, ofInt_iv h]; exact wrap_self h _
theorem shl_iv (x : BitVec n) (m : Nat) : shlK k (iv x) (m : Int) = iv (x <<< m) := by
  have h1 := h.1; subst h1
  unfold shlK; rw [wrap_iv h]; congr 1; apply BitVec.eq_of_toNat_eq
  rcases Nat.lt_or_ge k.bits m with hm | hm
  · rw [show min (m : Int).toNat k.bits = k.bits from by simp; omega]
    have e : (iv x * 2 ^ k.bits) = (((x.toNat * 2 ^ k.bits : Nat)) : Int) := by simp [iv]
    rw [e]
    simp only [BitVec.toNat_ofInt, BitVec.toNat_shiftLeft, Nat.shiftLeft_eq]
    have : 2 ^ m = 2 ^ k.bits * 2 ^ (m - k.bits) := by rw [← Nat.pow_add]; congr 1; omega
    rw [this, ← Nat.mul_assoc, Nat.mul_right_comm]
    norm_cast
    simp
  · rw [show min (m : Int).toNat k.bits = m from by simp; omega]
    have e : (iv x * 2 ^ m) = (((x.toNat * 2 ^ m : Nat)) : Int) := by simp [iv]
    rw [e]
    simp only [BitVec.toNat_ofInt, BitVec.toNat_shiftLeft, Nat.shiftLeft_eq]
    norm_cast
theorem shr_iv (x : BitVec n) (m : Nat) : shrK k (iv x) (m : Int) = iv (x >>> m) := by
  have h1 := h.1; subst h1
  rcases Nat.lt_or_ge k.bits m with hm | hm
  · unfold shrK
    rw [show min (m : Int).toNat k.bits = k.bits from by simp; omega]
    have : (x >>> m).toNat = 0 := by
      simp only [BitVec.toNat_ushiftRight, Nat.shiftRight_eq_div_pow]
      exact Nat.div_eq_of_lt (Nat.lt_of_lt_of_le x.isLt (Nat.pow_le_pow_right (by omega) (by omega)))
    simp only [iv, this]
    rw [Int.fdiv_eq_ediv_of_nonneg _ (by exact Int.pow_nonneg (by omega))]
    norm_cast
    exact Nat.div_eq_of_lt x.isLt
  · show shrK k (x.toNat : Int) (m : Int) = _
    rw [shrK_nat x.toNat m hm]
    simp [iv, Nat.shiftRight_eq_div_pow]
end
theorem iv_inj {n : Nat} {x y : BitVec n} (h : iv x = iv y) : x = y := BitVec.eq_of_toNat_eq (by unfold iv at h; omega)
@[simp] theorem iv_inj' {n : Nat} {x y : BitVec n} : iv x = iv y ↔ x = y := ⟨iv_inj, fun h => by rw [h]⟩
theorem iv_nonneg {n : Nat} (x : BitVec n) : 0 ≤ iv x := by unfold iv; omega
theorem iv_lt {n : Nat} {x y : BitVec n} : iv x < iv y ↔ x < y := by unfold iv; rw [BitVec.lt_def]; omega
theorem iv_le {n : Nat} {x y : BitVec n} : iv x ≤ iv y ↔ x ≤ y := by unfold iv; rw [BitVec.le_def]; omega
theorem iv_ofNat (n m : Nat) (h : m < 2 ^ n) : iv (BitVec.ofNat n m) = (m : Int) := by simp [iv, Nat.mod_eq_of_lt h]
end Go.X

/- Sequences that functions give: what a loop over one may count on. -/
set_option linter.all false
set_option linter.all false
namespace Go.X
open Go
/-- A function gives its loop some things, one behind the other, at most N; when it has ended by itself, G holds of them all. J: what holds between two rounds (priv: the function's own blocks); Jx: what holds behind a round that wants no more. -/
def SeqOK {α : Type} (P : Program) (fv : Value) (encs : α → Array Value) (N : Nat) (G : List α → Prop) (w : World) : Prop :=
  ∀ (y : Value) (J : (Nat → Prop) → List α → World → Prop) (Jx : World → Prop) (w1 : World) (K : Value → World → Prop), Ext w w1 →
    (∀ priv w2, Ext w1 w2 → (∀ k, priv k → w1.heap.size ≤ k ∧ k < w2.heap.size) → J priv [] w2) →
    (∀ priv xs u u', J priv xs u → Ch priv u u' → J priv xs u') →
    (∀ priv xs x u, J priv xs u → xs.length < N → (∀ k, priv k → w1.heap.size ≤ k ∧ k < u.heap.size) →
      CallV P y (encs x) u fun v u' => (v = .bool true ∧ J priv (xs ++ [x]) u' ∧ Ch (fun k => ¬ priv k ∧ w.heap.size ≤ k) u u') ∨ (v = .bool false ∧ Jx u')) →
    (∀ priv xs u, G xs → J priv xs u → K (.tuple #[]) u) → (∀ u, Jx u → K (.tuple #[]) u) →
    CallC P fv #[y] w1 K
theorem SeqOK.ext {α : Type} {P : Program} {fv : Value} {encs : α → Array Value} {N : Nat} {G : List α → Prop} {w w' : World} (h : SeqOK P fv encs N G w) (hc : Ext w w') : SeqOK P fv encs N G w' :=
  fun y J Jx w1 K h1 h2 h3 h4 h5 h6 => h y J Jx w1 K (hc.trans h1) h2 h3 (fun priv xs x u a b c => (h4 priv xs x u a b c).mono fun v u' h => h.imp (fun ⟨p, q, r⟩ => ⟨p, q, r.mono fun i hi ⟨s, t⟩ => ⟨s, Nat.le_trans hc.size t⟩⟩) id) h5 h6
/-- A function value that is a closure of a function with a body. -/
theorem CallC.mk {P : Program} {g : FuncId} {fn : Func} {c : Code} {pre cap args : Array Value} {w : World} {K : Value → World → Prop} (hf : P.funcs[g]? = some fn) (hn : (fn.name == "runtime.NumGoroutine") = false) (hb : fn.body = some c)
    (h : CallF P g (pre ++ args ++ cap) w K) : CallC P (.func (.func g) pre cap) args w K := ⟨g, fn, c, pre, cap, rfl, hf, hn, hb, h⟩
theorem putObj_ch (w : World) (r : Nat) (o : Obj) : Ch (· = r) w (w.putObj r o) := ⟨rfl, rfl, rfl, by simp, fun k hk hn => World.putObj_heap_other hn⟩
theorem putObj_get {w : World} {r : Nat} {o o' : Obj} (h : w.heap[r]? = some o) : (w.putObj r o').heap[r]? = some o' := by
  have := (Array.getElem?_eq_some_iff.1 h).1
  simp [World.putObj, this]
/-- A block that is no row of cells. -/
theorem obj_ch {S : Nat → Prop} {w w' : World} {r : Nat} {o : Obj} (h : w.heap[r]? = some o) (hc : Ch S w w') (hs : ¬ S r) : w'.heap[r]? = some o := (hc.block r (Array.getElem?_eq_some_iff.1 h).1 hs).trans h
theorem obj_lt {w : World} {r : Nat} {o : Obj} (h : w.heap[r]? = some o) : r < w.heap.size := (Array.getElem?_eq_some_iff.1 h).1
/-- What a loop over a function begins with: its two blocks. -/
theorem loop_start (w : World) (lr : Loop) : ((w.alloc (.deferred (some []))).alloc (LRof lr .ready none)).heap[w.heap.size]? = some (.deferred (some [])) ∧
    ((w.alloc (.deferred (some []))).alloc (LRof lr .ready none)).heap[w.heap.size + 1]? = some (LRof lr .ready none) ∧ Ext w ((w.alloc (.deferred (some []))).alloc (LRof lr .ready none)) ∧
    ((w.alloc (.deferred (some []))).alloc (LRof lr .ready none)).heap.size = w.heap.size + 2 := by
  refine ⟨?_, ?_, (Ch.alloc w _).trans ((Ch.alloc _ _).mono fun _ _ h => h), by simp⟩
  · show ((w.heap.push _).push _)[w.heap.size]? = _
    rw [Array.getElem?_push_lt (by simp)]; simp
  · have := World.alloc_heap_new (w.alloc (.deferred (some []))) (LRof lr .ready none)
    rwa [show (w.alloc (.deferred (some []))).heap.size = w.heap.size + 1 from by simp] at this
theorem perm_erase {α : Type} {l : List α} {i : Nat} (h : i < l.length) : l.Perm (l[i] :: l.eraseIdx i) := by
  rw [List.eraseIdx_eq_take_drop_succ]
  conv => lhs; rw [← List.take_append_drop i l, List.drop_eq_getElem_cons h]
  exact List.perm_middle
/-- Only blocks that lay below the first world's end count. -/
theorem Ch.toExt {S : Nat → Prop} {w w' : World} (h : Ch S w w') (hs : ∀ i, i < w.heap.size → ¬ S i) : Ext w w' := h.mono hs
end Go.X

/- A slice whose block is known as an array of things: reads, comparisons, exchanges; what sorting leans on. -/
set_option linter.all false
set_option linter.all false
namespace Go.X
open Go Go.Sort

/-- A 64-bit number, in a form that omega takes. -/
theorem wrap_i64e (n : Int) : IntKind.i64.wrap n = (n + 9223372036854775808) % 18446744073709551616 - 9223372036854775808 := by
  simp only [IntKind.wrap, IntKind.bits, IntKind.signed, Bool.true_and, decide_eq_true_eq, ge_iff_le]; split <;> omega
theorem wrap_u64e (n : Int) : IntKind.u64.wrap n = n % 18446744073709551616 := by
  simp only [IntKind.wrap, IntKind.bits, IntKind.signed, Bool.false_and, Bool.false_eq_true, if_false]; omega
theorem tdiv_nat (a : Int) (n : Nat) (h : 0 ≤ a) : Int.tdiv a n = a / n := Int.tdiv_eq_ediv_of_nonneg h

/-- A loop, its way back a variable. -/
theorem Lp.mk {α : Type} {F : (α → World → Prop) → α → World → Prop} {s : α} {w : World} (I : α → World → Prop) (μ : α → World → Nat) (h0 : I s w)
    (h : ∀ s w, I s w → ∀ ag : α → World → Prop, (∀ s' w', I s' w' → μ s' w' < μ s w → ag s' w') → F ag s w) : Lp F s w :=
  ⟨I, μ, h0, fun s w hI => h s w hI _ fun _ _ a b => ⟨a, b⟩⟩
theorem scanUp_stop {α : Type} [Inhabited α] {p : α → Bool} {d : Array α} {j i : Nat} (h : i ≤ j → p d[i]! = false) : scanUp p d j i = i := by
  rw [scanUp, if_neg (by simp only [Bool.and_eq_true, decide_eq_true_eq, not_and, Bool.not_eq_true]; exact h)]
theorem scanUp_go {α : Type} [Inhabited α] {p : α → Bool} {d : Array α} {j i : Nat} (h1 : i ≤ j) (h2 : p d[i]! = true) : scanUp p d j i = scanUp p d j (i + 1) := by
  conv => lhs; rw [scanUp, if_pos (by simp [h1, h2])]
theorem scanDown_stop {α : Type} [Inhabited α] {p : α → Bool} {d : Array α} {j i : Nat} (h : i ≤ j → p d[j]! = false) : scanDown p d i j = j := by
  cases j with
  | zero => rfl
  | succ j => rw [scanDown, if_neg (by simp only [Bool.and_eq_true, decide_eq_true_eq, not_and, Bool.not_eq_true]; exact h)]
theorem scanDown_go {α : Type} [Inhabited α] {p : α → Bool} {d : Array α} {j i : Nat} (h0 : 0 < i) (h1 : i ≤ j) (h2 : p d[j]! = true) : scanDown p d i j = scanDown p d i (j - 1) := by
  obtain ⟨j, rfl⟩ : ∃ k, j = k + 1 := ⟨j - 1, by omega⟩
  conv => lhs; rw [scanDown, if_pos (by simp [h1, h2])]
  rfl
section
variable {α : Type} [Inhabited α]
/-- A block of cells: things, one cell each, and what is behind them. -/
def SB (enc : α → Value) (e : TypeId) (b : Nat) (rest : List Value) (n : Nat) (w : World) (d : Array α) : Prop := Blk w b (d.toList.map enc ++ rest).toArray e ∧ d.size = n
/-- The slice of the things. -/
def slc (b n c : Nat) : Sl := ⟨some ⟨b, 0, none⟩, n, c⟩
variable {enc : α → Value} {e : TypeId} {b n c : Nat} {rest : List Value} {w : World} {d : Array α}
theorem SB.ch {S : Nat → Prop} {w' : World} (h : SB enc e b rest n w d) (hc : Ch S w w') (hs : ¬ S b) : SB enc e b rest n w' d := ⟨h.1.ch hc hs, h.2⟩
theorem SB.ext {w' : World} (h : SB enc e b rest n w d) (hc : Ext w w') : SB enc e b rest n w' d := h.ch hc id
theorem SB.drew (h : SB enc e b rest n w d) : SB enc e b rest n w.drew d := h.ext (Ch.drew w)
theorem SB.get (h : SB enc e b rest n w d) {i : Nat} (hi : i < n) : (d.toList.map enc ++ rest).toArray[0 + i]? = some (enc d[i]!) := by
  have hi' : i < d.size := by rw [h.2]; exact hi
  simp [List.getElem?_append, hi', getElem!_pos d i hi']
theorem s_ix {i : Int} {K : Addr → Prop} (a : Nat) (hi : i = a) (ha : a < n) (k : K ⟨b, 0, none⟩) : Ix (slc b n c) i K := ⟨_, rfl, by omega, by simp only [slc]; omega, k⟩
theorem s_ld {i : Int} {K : α → Prop} (a : Nat) (h : SB enc e b rest n w d) (hi : i = a) (ha : a < n) (k : K d[a]!) : Ld enc (some ((⟨b, 0, none⟩ : Addr).add (i.toNat * 1))) w K := by
  have e0 : ((⟨b, 0, none⟩ : Addr).add (i.toNat * 1)) = ⟨b, 0 + a, none⟩ := by rw [addr_add]; congr 1; omega
  rw [e0]
  exact Ld.blk h.1 (h.get ha) k
theorem s_st {i : Int} {v : α} {K : World → Prop} (a : Nat) (h : SB enc e b rest n w d) (hi : i = a) (ha : a < n) (k : ∀ w', SB enc e b rest n w' (d.setIfInBounds a v) → Ch (· = b) w w' → K w') :
    St (some ((⟨b, 0, none⟩ : Addr).add (i.toNat * 1))) (enc v) w K := by
  have e0 : ((⟨b, 0, none⟩ : Addr).add (i.toNat * 1)) = ⟨b, 0 + a, none⟩ := by rw [addr_add]; congr 1; omega
  have ha' : a < d.size := by rw [h.2]; exact ha
  rw [e0]
  refine St.blk h.1 (by simp; omega) fun w' hb hc => k w' ⟨?_, by simpa using h.2⟩ hc
  have e1 : ((d.toList.map enc ++ rest).toArray.setIfInBounds (0 + a) (enc v)) = ((d.setIfInBounds a v).toList.map enc ++ rest).toArray := by
    apply Array.ext'
    simp only [Array.toList_setIfInBounds, Nat.zero_add]
    rw [List.set_append_left _ _ (by simpa using ha'), List.map_set]
  rwa [e1] at hb
/-- Two reads, and their comparison. -/
theorem s_cmp {P : Program} {lt : α → α → Bool} {f : FuncId} {i j : Int} {N : Bool → World → Prop} (x y : Nat) (hl : ∀ (u v : α) (w : World) (K : Value → World → Prop), K (.bool (lt u v)) w → CallF P f #[enc u, enc v] w K)
    (h : SB enc e b rest n w d) (hi : i = x) (hx : x < n) (hj : j = y) (hy : y < n) (k : N (lt d[x]! d[y]!) w.drew) :
    Ix (slc b n c) i fun p_1 => Ld enc (some (p_1.add (i.toNat * 1))) w.drew fun v_2 => Ix (slc b n c) j fun p_3 => Ld enc (some (p_3.add (j.toNat * 1))) w.drew fun v_4 =>
      CallF P f #[enc v_2, enc v_4] w.drew fun u_5 w_2 => As Value.bool u_5 fun v_6 => N v_6 w_2 :=
  s_ix x hi hx (s_ld x h.drew hi hx (s_ix y hj hy (s_ld y h.drew hj hy (hl _ _ _ _ ⟨_, rfl, k⟩))))
/-- data[x], data[y] = data[y], data[x] -/
theorem s_swp {i j : Int} {N : World → Prop} (x y : Nat) (h : SB enc e b rest n w d) (hi : i = x) (hx : x < n) (hj : j = y) (hy : y < n) (k : ∀ w', SB enc e b rest n w' (swp d x y) → Ch (· = b) w w' → N w') :
    Ix (slc b n c) j fun p_1 => Ld enc (some (p_1.add (j.toNat * 1))) w.drew fun v_2 => Ix (slc b n c) i fun p_3 => Ld enc (some (p_3.add (i.toNat * 1))) w.drew fun v_4 =>
      Ix (slc b n c) i fun p_5 => St (some (p_5.add (i.toNat * 1))) (enc v_2) w.drew fun w_2 => Ix (slc b n c) j fun p_6 => St (some (p_6.add (j.toNat * 1))) (enc v_4) w_2 fun w_3 => N w_3 :=
  s_ix y hj hy (s_ld y h.drew hj hy (s_ix x hi hx (s_ld x h.drew hi hx (s_ix x hi hx (s_st x h.drew hi hx fun w2 h2 c2 => s_ix y hj hy (s_st y h2 hj hy fun w3 h3 c3 => k w3 h3 (((Ch.drew w).mono fun _ _ h => h.elim).trans (c2.trans c3))))))))
theorem chd {b : Nat} {w w1 : World} (h : Ch (· = b) w w1) : Ch (· = b) w w1.drew := h.trans ((Ch.drew w1).mono fun _ _ h => h.elim)
theorem SB.size (h : SB enc e b rest n w d) : d.size = n := h.2
theorem SB.sz {d' : Array α} {w' : World} (h : SB enc e b rest n w d) (h' : SB enc e b rest n w' d') : d'.size = d.size := by rw [h.2, h'.2]
end
end Go.X

/- Plain laws that the sort's walks lean on: lengths in bits; the order of strings. -/
set_option linter.all false
set_option linter.all false
namespace Go.X
open Go Go.Sort
theorem bitsLen_shift {x k : Nat} (h : 2 ^ k ≤ x) : bitsLen (x / 2 ^ k) + k = bitsLen x := by
  have hp : 0 < 2 ^ k := Nat.pow_pos (by omega)
  have hk : k < bitsLen x := by
    rcases Nat.lt_or_ge k (bitsLen x) with h' | h'
    · exact h'
    · exact absurd ((bitsLen_le_iff x k).1 h') (by omega)
  apply Nat.le_antisymm
  · have h1 : bitsLen (x / 2 ^ k) ≤ bitsLen x - k := (bitsLen_le_iff _ _).2 (by
      rw [Nat.div_lt_iff_lt_mul hp, ← Nat.pow_add, Nat.sub_add_cancel (by omega)]
      exact lt_two_pow_bitsLen x)
    omega
  · exact (bitsLen_le_iff _ _).2 (by
      have := lt_two_pow_bitsLen (x / 2 ^ k)
      rw [Nat.div_lt_iff_lt_mul hp, ← Nat.pow_add] at this
      exact this)
theorem bitsLen_64 {x : Nat} (h : x < 18446744073709551616) : bitsLen x ≤ 64 := (bitsLen_le_iff x 64).2 (by omega)
/-- the library's table of lengths of bytes -/
def len8 : List UInt8 := [0, 1, 2, 2, 3, 3, 3, 3, 4, 4, 4, 4, 4, 4, 4, 4, 5, 5, 5, 5, 5, 5, 5, 5, 5, 5, 5, 5, 5, 5, 5, 5] ++ List.replicate 32 6 ++ List.replicate 64 7 ++ List.replicate 128 8
theorem len8_tab : ∀ m : Fin 256, (len8.getD m.val 0).toNat = bitsLen m.val := by decide +kernel
theorem tbytes_toList (a : ByteArray) : a.toList = a.data.toList := ByteArray.toList_eq a
theorem bytesLess_ltStr : ∀ (x y : List UInt8), Op.bytesLess x y = ltStr x y
  | [], [] => by simp [Op.bytesLess, ltStr]
  | _ :: _, [] => by simp [Op.bytesLess, ltStr]
  | [], _ :: _ => by simp [Op.bytesLess, ltStr]
  | a :: x, b :: y => by
    have ih := bytesLess_ltStr x y
    unfold ltStr at *
    rw [Op.bytesLess, ih]
    simp only [List.cons_lt_cons_iff]
    by_cases h1 : a < b <;> by_cases h2 : a = b <;> simp [h1, h2]
theorem slt_ltStr (a b : ByteArray) : slt a b = ltStr a.toList b.toList := bytesLess_ltStr _ _
theorem swo_slt : SWO slt where
  irrefl x := by rw [slt_ltStr]; exact swo_ltStr.irrefl _
  trans x y z h1 h2 := by rw [slt_ltStr] at *; exact swo_ltStr.trans _ _ _ h1 h2
  ntrans x y z h1 h2 := by rw [slt_ltStr] at *; exact swo_ltStr.ntrans _ _ _ h1 h2
theorem slt_eq {a b : ByteArray} (h1 : slt a b = false) (h2 : slt b a = false) : a = b := by
  rw [slt_ltStr] at h1 h2
  unfold ltStr at h1 h2
  simp only [decide_eq_false_iff_not, List.not_lt] at h1 h2
  have e := List.le_antisymm h1 h2
  rw [tbytes_toList, tbytes_toList] at e
  obtain ⟨a⟩ := a; obtain ⟨b⟩ := b
  congr 1
  exact (Array.ext' e.symm : a = b)
/-- Sorted, and a permutation, of what order there is one. -/
theorem ltInt_eq {a b : Int} (h1 : ltInt a b = false) (h2 : ltInt b a = false) : a = b := by unfold ltInt at *; simp at *; omega
end Go.X

/- A slice at the head of its own block, as an array of things. -/
set_option linter.all false
set_option linter.all false
namespace Go.X
open Go Go.Sort
theorem own_sb {α : Type} [Inhabited α] {enc : α → Value} {w : World} {s : Sl} {e : TypeId} {xs : List α} (h : Own w s e 1 (xs.map enc)) :
    (s = Sl.nil ∧ xs = []) ∨ ∃ g c rest, s = slc g xs.length c ∧ SB enc e g rest xs.length w xs.toArray ∧ ∀ w' d', SB enc e g rest xs.length w' d' → Own w' s e 1 (d'.toList.map enc) := by
  obtain ⟨a, l, c⟩ := s
  have hl := h.1
  simp only [List.length_map, Nat.mul_one] at hl
  rcases h.2 with ⟨hv, hn⟩ | ⟨g, cap, cur, hv, hb, hg, hnc, hcm, hsz, ht⟩
  · left
    simp only [Sl.v, Value.slice.injEq] at hv
    obtain ⟨rfl, rfl, rfl⟩ := hv
    exact ⟨rfl, List.eq_nil_of_length_eq_zero hl⟩
  · right
    simp only [Sl.v, Value.slice.injEq] at hv
    obtain ⟨rfl, _, rfl⟩ := hv
    subst hl
    have hsp : cur = ((xs.map enc) ++ cur.toList.drop xs.length).toArray := by
      apply Array.ext'
      simp only [List.length_map, Nat.mul_one] at ht
      simp only [← ht]
      exact (List.take_append_drop _ _).symm
    refine ⟨g, c, cur.toList.drop xs.length, rfl, ⟨?_, by simp⟩, ?_⟩
    · unfold Blk
      simp only [List.toList_toArray]
      rw [← hsp]; exact hg
    · intro w' d' hd'
      refine ⟨by simp [hd'.2], .inr ⟨g, c, _, rfl, hb, hd'.1, hnc, hcm, ?_, ?_⟩⟩
      · have := congrArg Array.size hsp
        simp only [List.size_toArray, List.length_append, List.length_map] at this ⊢
        rw [← hsz, this, Array.length_toList, hd'.2]
      · have : (d'.toList.map enc).length = xs.length := by simp [hd'.2]
        simp only [List.toList_toArray, Nat.mul_one, this]
        rw [← this, List.take_left]
/-- A list of which each is no less than those ahead: of the things of another one: it is that one, sorted. -/
theorem sorted_at {α : Type} [Inhabited α] {lt : α → α → Bool} {d : Array α} {n : Nat} (hn : d.size = n) (h : ∀ i j, i < j → j < n → lt d[j]! d[i]! = false) : d.toList.Pairwise (fun a b => lt b a = false) := by
  rw [List.pairwise_iff_getElem]
  intro i j hi hj hij
  simp only [Array.length_toList] at hi hj
  have := h i j hij (by omega)
  rw [getElem!_pos d j hj, getElem!_pos d i hi] at this
  simpa using this
end Go.X

/- What comes in, opened by what it reads as: slices of records. -/
set_option linter.all false
set_option linter.all false
namespace Go.X
open Go Go.ChangeShapes Go.WideShapes
section
variable {H : Type} {enc : TypeId × Value → H} {P : Program} {w : World} {base : Nat} {spare : Nat → Bool} {held : Bool}
/-- Each cell reads as what its type says. -/
def CellsTr (enc : TypeId × Value → H) (P : Program) (w : World) (base : Nat) (spare : Nat → Bool) (held : Bool) : List TypeId → List Value → Prop
  | [], [] => True
  | t :: ts, v :: vs => (∃ m x, DataW.trod enc P w base spare held m t [v] = some x) ∧ CellsTr enc P w base spare held ts vs
  | _, _ => False
theorem CellsTr.append : ∀ {ts us : List TypeId} {vs xs : List Value}, CellsTr enc P w base spare held ts vs → CellsTr enc P w base spare held us xs → CellsTr enc P w base spare held (ts ++ us) (vs ++ xs)
  | [], us, [], xs, _, h => h
  | t :: ts, us, v :: vs, xs, h, k => ⟨h.1, CellsTr.append h.2 k⟩
  | [], _, _ :: _, _, h, _ => h.elim
  | _ :: _, _, [], _, h, _ => h.elim
mutual
/-- The types of a type's cells, one behind the other. -/
def flatB (P : Program) : Nat → TypeId → List TypeId → Bool
  | 0, _, _ => false
  | d + 1, t, ts =>
    match P.underlying t with
    | some (.struct fs) => fieldsB P d fs.toList 0 ts
    | some (.array n e) => arrB P d n e ts
    | some (.interface _) => false
    | some (.tuple _) => false
    | some _ => ts == [t]
    | none => false
def fieldsB (P : Program) : Nat → List Field → Nat → List TypeId → Bool
  | 0, _, _, _ => false
  | d + 1, [], _, ts => ts == []
  | d + 1, f :: fs, off, ts => f.offset == off && decide (P.cellsOf f.type ≤ ts.length) && flatB P d f.type (ts.take (P.cellsOf f.type)) && fieldsB P d fs (off + P.cellsOf f.type) (ts.drop (P.cellsOf f.type))
def arrB (P : Program) : Nat → Nat → TypeId → List TypeId → Bool
  | 0, _, _, _ => false
  | d + 1, 0, _, ts => ts == []
  | d + 1, n + 1, e, ts => decide (P.cellsOf e ≤ ts.length) && flatB P d e (ts.take (P.cellsOf e)) && arrB P d n e (ts.drop (P.cellsOf e))
end
theorem trod_flat : ∀ (d : Nat),
    (∀ (t : TypeId) (ts : List TypeId) (fuel : Nat) (cs : List Value) (x : DataW H × List MemPlace), flatB P d t ts = true → ts.length = cs.length → DataW.trod enc P w base spare held fuel t cs = some x → CellsTr enc P w base spare held ts cs) ∧
    (∀ (fs : List Field) (off : Nat) (ts : List TypeId) (n : Nat) (cs : List Value), fieldsB P d fs off ts = true → off + ts.length = cs.length → (∀ f ∈ fs, ∃ x, DataW.trod enc P w base spare held n f.type ((cs.drop f.offset).take (P.cellsOf f.type)) = some x) → CellsTr enc P w base spare held ts (cs.drop off)) ∧
    (∀ (n : Nat) (e : TypeId) (ts : List TypeId) (m i : Nat) (cs : List Value), arrB P d n e ts = true → i * P.cellsOf e + ts.length = cs.length → (∀ j, i ≤ j → j < i + n → ∃ x, DataW.trod enc P w base spare held m e ((cs.drop (j * P.cellsOf e)).take (P.cellsOf e)) = some x) → CellsTr enc P w base spare held ts (cs.drop (i * P.cellsOf e)))
  | 0 => ⟨fun _ _ _ _ _ h => by simp [flatB] at h, fun _ _ _ _ _ h => by simp [fieldsB] at h, fun _ _ _ _ _ _ h => by simp [arrB] at h⟩
  | d + 1 => by
    obtain ⟨h1, h2, h3⟩ := trod_flat d
    refine ⟨?_, ?_, ?_⟩
    · intro t ts fuel cs x hf hl h
      unfold flatB at hf
      split at hf
      · rename_i fs hu
        obtain ⟨xs, n, _, _, hlen, hxl, hx⟩ := DataW.trod_struct hu h
        have := h2 fs.toList 0 ts n cs hf (by omega) (fun f hfm => by
          obtain ⟨i, hi, hfi⟩ := List.getElem_of_mem hfm
          have hi' : i < fs.size := by simpa using hi
          have := hx i f (by simp [← hfi, hi'])
          rw [this, List.getElem?_eq_getElem (by omega)]
          exact ⟨_, rfl⟩)
        simpa using this
      · rename_i n e hu
        obtain ⟨xs, m, _, _, hlen, hxl, hx⟩ := DataW.trod_array hu h
        have := h3 n e ts m 0 cs hf (by omega) (fun j _ hj => by
          rw [hx j (by omega), List.getElem?_eq_getElem (by omega)]
          exact ⟨_, rfl⟩)
        simpa using this
      · cases hf
      · cases hf
      · have ht : ts = [t] := by simpa using hf
        subst ht
        match cs, hl with
        | [v], _ => exact ⟨⟨_, _, h⟩, trivial⟩
      · cases hf
    · intro fs off ts n cs hf hl h
      cases fs with
      | nil =>
        have ht : ts = [] := by simpa [fieldsB] using hf
        subst ht
        rw [List.drop_eq_nil_of_le (by simp at hl; omega)]
        trivial
      | cons f fs =>
        simp only [fieldsB, Bool.and_eq_true, beq_iff_eq, decide_eq_true_eq] at hf
        obtain ⟨⟨⟨ho, hle⟩, ha⟩, hb⟩ := hf
        obtain ⟨x, hx⟩ := h f (by simp)
        rw [ho] at hx
        have c1 := h1 f.type _ n _ x ha (by simp; omega) hx
        have c2 := h2 fs _ _ n cs hb (by simp; omega) (fun g hg => h g (by simp [hg]))
        have := CellsTr.append c1 c2
        rw [List.take_append_drop, ← List.drop_drop, List.take_append_drop] at this
        exact this
    · intro n e ts m i cs hf hl h
      cases n with
      | zero =>
        have ht : ts = [] := by simpa [arrB] using hf
        subst ht
        rw [List.drop_eq_nil_of_le (by simp at hl; omega)]
        trivial
      | succ n =>
        simp only [arrB, Bool.and_eq_true, decide_eq_true_eq] at hf
        obtain ⟨⟨hle, ha⟩, hb⟩ := hf
        obtain ⟨x, hx⟩ := h i (Nat.le_refl _) (by omega)
        have c1 := h1 e _ m _ x ha (by simp; omega) hx
        have c2 := h3 n e _ m (i + 1) cs hb (by simp [Nat.add_mul]; omega) (fun j hj1 hj2 => h j (by omega) (by omega))
        have := CellsTr.append c1 c2
        rw [List.take_append_drop, Nat.add_mul, Nat.one_mul, ← List.drop_drop, List.take_append_drop] at this
        exact this
theorem CellsTr.cons {t : TypeId} {ts : List TypeId} {l : List Value} (h : CellsTr enc P w base spare held (t :: ts) l) : ∃ v vs, l = v :: vs ∧ (∃ m x, DataW.trod enc P w base spare held m t [v] = some x) ∧ CellsTr enc P w base spare held ts vs := by
  cases l with
  | nil => exact h.elim
  | cons v vs => exact ⟨v, vs, rfl, h.1, h.2⟩
theorem CellsTr.nil {l : List Value} (h : CellsTr enc P w base spare held [] l) : l = [] := by
  cases l with
  | nil => rfl
  | cons v vs => exact h.elim
theorem ctr_int {t : TypeId} {k : IntKind} {v : Value} (ht : P.underlying t = some (.int k)) (h : ∃ m x, DataW.trod enc P w base spare held m t [v] = some x) : ∃ n, v = .int k n ∧ k.has n := by
  obtain ⟨m, x, h⟩ := h
  obtain ⟨n, e, _, hw⟩ := DataW.trod_int ht h
  exact ⟨n, by simpa using e, by simpa [Lit.wf, IntKind.has] using hw⟩
theorem ctr_string {t : TypeId} {v : Value} (ht : P.underlying t = some .string) (h : ∃ m x, DataW.trod enc P w base spare held m t [v] = some x) : ∃ s : ByteArray, v = .string s ∧ s.size ≤ maxLen := by
  obtain ⟨m, x, h⟩ := h
  obtain ⟨s, e, _, hw⟩ := DataW.trod_string ht h
  exact ⟨s, by simpa using e, hw⟩
theorem ctr_bool {t : TypeId} {v : Value} (ht : P.underlying t = some .bool) (h : ∃ m x, DataW.trod enc P w base spare held m t [v] = some x) : ∃ b, v = .bool b := by
  obtain ⟨m, x, h⟩ := h
  obtain ⟨b, e, _⟩ := DataW.trod_bool ht h
  exact ⟨b, by simpa using e⟩
theorem ctr_u8s {e : TypeId} (he : P.underlying e = some (.int .u8)) : ∀ (n : Nat) (ts : List TypeId) (l : List Value), CellsTr enc P w base spare held (List.replicate n e ++ ts) l → ∃ bs rest, l = u8s bs ++ rest ∧ bs.length = n ∧ (∀ b ∈ bs, b < 256) ∧ CellsTr enc P w base spare held ts rest
  | 0, ts, l, h => ⟨[], l, rfl, rfl, by simp, h⟩
  | n + 1, ts, l, h => by
    rw [List.replicate_succ, List.cons_append] at h
    obtain ⟨v, vs, rfl, h1, h2⟩ := CellsTr.cons h
    obtain ⟨m, rfl, hm⟩ := ctr_int he h1
    obtain ⟨bs, rest, rfl, h3, h4, h5⟩ := ctr_u8s he n ts vs h2
    have h0 : 0 ≤ m ∧ m ≤ 255 := hm
    refine ⟨m.toNat :: bs, rest, ?_, by simp [h3], ?_, h5⟩
    · simp only [u8s_cons, List.cons_append]
      rw [Int.toNat_of_nonneg h0.1]
    · intro b hb
      rcases List.mem_cons.1 hb with rfl | hb
      · omega
      · exact h4 b hb
/-- A slice that comes in shows the cells of its things. -/
theorem open_slice_of {α : Type} [Inhabited α] {cells : α → List Value} {good : α → Prop} {t e : TypeId} {size fuel : Nat} {v : Value} {x : DataW H × List MemPlace} (ht : P.underlying t = some (.slice e)) (hc : P.cellsOf e = size)
    (hok : Cell.okWide P w .any base t v) (h : DataW.trod enc P w 0 spare held fuel t [v] = some x)
    (each : ∀ (m : Nat) (cs : List Value) (y : DataW H × List MemPlace), cs.length = size → DataW.trod enc P w 0 spare held m e cs = some y → ∃ a, cs = cells a ∧ good a)
    (hlen : ∀ a, good a → (cells a).length = size) : ∃ (s : Sl) (l : List α), v = s.v ∧ Sees w s size (l.flatMap cells) ∧ (∀ a ∈ l, good a) ∧ l.length = s.len ∧ s.len ≤ maxLen := by
  rcases Go.Deep.open_slice ht h with ⟨h0, _⟩ | ⟨a, len, cap, m, n, D, Pl, h0, hb, hl, hm, hmm, _, hx⟩
  · exact ⟨Sl.nil, [], by simpa [Sl.v, Sl.nil] using h0, Sees.nil _ _, by simp, rfl, by decide⟩
  · have hv : v = .slice (some a) len cap := by simpa using h0
    subst hv
    have hle : len ≤ m := by rw [hmm]; split <;> omega
    have hsp : a.spot = none := by
      unfold Cell.okWide Cell.ok at hok
      rw [ht] at hok
      exact hok.2.2.2.1
    rw [hc] at hx
    obtain ⟨f, hf⟩ := Go.Deep.choose_lt (α := α) (n := len) (p := fun i y => w.cells? 0 (a.add (i * size)) size = some (cells y) ∧ good y) (fun i hi => by
      obtain ⟨cs', g1, g2⟩ := hx i (by omega)
      obtain ⟨_, hl', _⟩ := World.cells?_some g1
      obtain ⟨y, rfl, hy⟩ := each n cs' _ hl' g2
      exact ⟨y, g1, hy⟩)
    have hfl : ∀ r ∈ (List.range len).map f, (cells r).length = size := fun r hr => by
      obtain ⟨i, hi, rfl⟩ := List.mem_map.1 hr
      exact hlen _ (hf i (List.mem_range.1 hi)).2
    refine ⟨⟨some a, len, cap⟩, (List.range len).map f, rfl, ⟨?_, hl, fun h => (by cases h), fun a' ha' => ?_⟩, ?_, by simp, by show len ≤ maxLen; omega⟩
    · rw [flatMap_len _ hfl]; simp
    · obtain rfl : a = a' := by injection ha'
      refine ⟨hsp, fun i v hi => ?_⟩
      have hsz : 0 < size := by
        rcases Nat.eq_zero_or_pos size with h0 | h0
        · subst h0
          have : ((List.range len).map f).flatMap cells = [] := by
            have := flatMap_len _ hfl
            exact List.eq_nil_of_length_eq_zero (by simpa using this)
          rw [this] at hi; cases hi
        · exact h0
      have hil : i < len * size := by
        have := (List.getElem?_eq_some_iff.1 hi).1
        rwa [flatMap_len _ hfl, List.length_map, List.length_range] at this
      have hq : i / size < len := Nat.div_lt_of_lt_mul (by rwa [Nat.mul_comm] at hil)
      have hi' : i = i / size * size + i % size := by rw [Nat.mul_comm]; exact (Nat.div_add_mod i size).symm
      have hr : i % size < size := Nat.mod_lt _ hsz
      have hat := flatMap_at ((List.range len).map f) (i / size) hfl (by simpa using hq) (i % size) hr
      rw [← hi', hi] at hat
      simp only [List.getElem_map, List.getElem_range] at hat
      obtain ⟨_, _, hcell⟩ := World.cells?_some (hf (i / size) hq).1
      have := hcell (i % size) hr
      rw [← hat, Go.Deep.add_add, ← hi'] at this
      exact this
    · intro b hb'
      obtain ⟨i, hi, rfl⟩ := List.mem_map.1 hb'
      exact (hf i (List.mem_range.1 hi)).2
theorem okWide_slice {t e : TypeId} {v : Value} (ht : P.underlying t = some (.slice e)) (h : Value.okWide P w .any base t v) : Cell.okWide P w .any base t v ∧ v.cells.toList = [v] := by
  unfold Value.okWide at h
  rw [ht] at h
  refine ⟨h, ?_⟩
  unfold Cell.okWide Cell.ok at h
  rw [ht] at h
  cases v <;> first | rfl | (simp at h)
end
end Go.X

/- '==' of records. -/
set_option linter.all false
set_option linter.all false
namespace Go.X
open Go
/-- Two values of a type compare to b, to whatever depth from n on. -/
def EqN (P : Program) (n : Nat) (t : TypeId) (x y : Value) (b : Bool) : Prop := ∀ w d, (Op.equalIn (d + n) t x y).run P w = .ok b w
theorem EqN.mono {P : Program} {n m : Nat} {t : TypeId} {x y : Value} {b : Bool} (h : EqN P n t x y b) (hm : n ≤ m) : EqN P m t x y b := fun w d => by
  have := h w (d + (m - n))
  rwa [show d + (m - n) + n = d + m by omega] at this
section
variable {P : Program} {t : TypeId}
theorem EqN.int {k : IntKind} (ht : P.underlying t = some (.int k)) (a b : Int) : EqN P 1 t (.int k a) (.int k b) (decide (a = b)) := fun w d => by
  simp only [Op.equalIn, Sem.run_bind, run_underlying ht, Result.andThen_ok, if_true, Sem.run_pure]
  rfl
theorem EqN.bool (ht : P.underlying t = some .bool) (a b : Bool) : EqN P 1 t (.bool a) (.bool b) (a == b) := fun w d => by
  simp only [Op.equalIn, Sem.run_bind, run_underlying ht, Result.andThen_ok, Sem.run_pure]
theorem EqN.str (ht : P.underlying t = some .string) (a b : ByteArray) : EqN P 1 t (.string a) (.string b) (decide (a = b)) := fun w d => by
  simp only [Op.equalIn, Sem.run_bind, run_underlying ht, Result.andThen_ok, Sem.run_pure]
  congr 1
  exact bytes_beq a b
theorem EqN.u8s {e : TypeId} {n : Nat} {i : TypeInfo} (ht : P.underlying t = some (.array n e)) (he : P.underlying e = some (.int .u8)) (hi : P.info? e = some i) (hc : P.cellsOf e = 1)
    {xs ys : List Nat} (hx : xs.length = n) (hy : ys.length = n) : EqN P 2 t (.agg (u8s xs).toArray) (.agg (u8s ys).toArray) (decide (xs = ys)) := fun w d => by
  rw [run_equalIn_array w (d + 1) _ _ ht hi, hc, List.range_eq_range', u8s_ints, u8s_ints]
  have h : (xs = ys) ↔ (xs.map fun n : Nat => (n : Int)) = ys.map fun n : Nat => (n : Int) := ⟨fun h => by rw [h], fun h => (List.map_inj_right (fun x y hxy => Int.ofNat.inj hxy)).1 h⟩
  simp only [h]
  simpa using eqItems_ints (d := d) he (xs.map fun n : Nat => (n : Int)) (ys.map fun n : Nat => (n : Int)) w (by simp; omega) n 0 (by simp; omega)
/-- One field's part of both. -/
def FldEq (P : Program) (n : Nat) (xs ys : Array Value) (f : Field) (b : Bool) : Prop :=
  f.name ≠ "_" ∧ ∃ x y, (∀ w, (part f.type xs f.offset).run P w = .ok x w) ∧ (∀ w, (part f.type ys f.offset).run P w = .ok y w) ∧ EqN P n f.type x y b
def FldsEq (P : Program) (n : Nat) (xs ys : Array Value) : List Field → List Bool → Prop
  | [], [] => True
  | f :: fs, b :: bs => FldEq P n xs ys f b ∧ FldsEq P n xs ys fs bs
  | _, _ => False
theorem eqFields_of {n : Nat} {xs ys : Array Value} : ∀ (fs : List Field) (bs : List Bool), FldsEq P n xs ys fs bs → ∀ w d, (Op.eqFields (d + n) xs ys fs).run P w = .ok (bs.all id) w
  | [], [], _, w, d => by simp [Op.eqFields]
  | f :: fs, b :: bs, ⟨⟨hn, x, y, h1, h2, h3⟩, h⟩, w, d => by
    have ih := eqFields_of fs bs h w d
    simp only [Op.eqFields, hn, ne_eq, not_false_eq_true, if_true, Sem.run_bind, h1, h2, h3 w d, Result.andThen_ok]
    cases b
    · simp
    · simp [ih]
  | [], _ :: _, h, _, _ => h.elim
  | _ :: _, [], h, _, _ => h.elim
theorem EqN.struct {n : Nat} {xs ys : Array Value} {fs : Array Field} {bs : List Bool} (ht : P.underlying t = some (.struct fs)) (hp : P.stoodInHeld t = false) (h : FldsEq P n xs ys fs.toList bs) : EqN P (n + 1) t (.agg xs) (.agg ys) (bs.all id) := fun w d => by
  have hf : P.fieldsOf t = fs := by simp [Program.fieldsOf, ht]
  have := run_equalIn_struct (P := P) (w := w) (d + n) t xs ys (by rw [hf]; exact ht) hp
  rw [show d + (n + 1) = d + n + 1 by omega, this, hf]
  exact eqFields_of fs.toList bs h w d
theorem EqOK.of {n : Nat} {x y : Value} {b : Bool} (hg : P.eqGuardType P.depth t = false) (h : EqN P n t x y b) (hn : n ≤ 5) : EqOK P t x y b := ⟨hg, h.mono hn⟩
theorem part_1 {xs : Array Value} {off : Nat} {v : Value} {d : TypeDesc} (ht : P.underlying t = some d) (hd : aggD d = false) (hv : xs[off]? = some v) (w : World) : (part t xs off).run P w = .ok v w := by
  simp [part, run_isAgg ht, hd, hv]
theorem part_N {xs : Array Value} {off size bytes : Nat} {d : TypeDesc} {z : Value} (ht : P.underlying t = some d) (hd : aggD d = true) (h5 : TI P t z size bytes) (w : World) : (part t xs off).run P w = .ok (.agg (xs.extract off (off + size))) w := by
  simp [part, run_isAgg ht, hd, h5.sizeOf]
end
end Go.X

/- The generated proofs' steps, by short names. -/
set_option linter.all false
namespace Go.X
open Go
section
variable {P : Program} {f : Fr} {n : Nat} {R : Value → World → Prop} {k : List Item} {σ : Env} {w : World} {held : Helds} {fuel : Nat} {listed : Array Bool} {T : Array (List Nat)}
variable {ops : Array Oper} {l l' : List Oper} {d : Nat} {o : Oper} {t : TypeId} {x : Operand} {pa : Option Addr} {ad : Addr} {dd : TypeDesc}
theorem tu1 {α β : Type} {a a' : α} {b b' : β} (h : (a, b) = (a', b')) : a = a' := by injection h
theorem tu2 {α β : Type} {a a' : α} {b b' : β} (h : (a, b) = (a', b')) : b = b' := by injection h
theorem tr1 {α β γ : Type} {a a' : α} {b b' : β} {c c' : γ} (h : (a, b, c) = (a', b', c')) : a = a' := tu1 h
theorem tr2 {α β γ : Type} {a a' : α} {b b' : β} {c c' : γ} (h : (a, b, c) = (a', b', c')) : b = b' := tu1 (tu2 h)
theorem tr3 {α β γ : Type} {a a' : α} {b b' : β} {c c' : γ} (h : (a, b, c) = (a', b', c')) : c = c' := tu2 (tu2 h)
abbrev I (n : Int) : Value := .int .i64 n
abbrev W (n : Int) : Int := IntKind.i64.wrap n
theorem ru (i : Nat) (v : Value) (hv : σ i = v) (h : Runs P f n R k (upd i v σ) w) : Runs P f n R k σ w := r_upd hv h
theorem ru2 (i : Nat) (v : Value) (j : Nat) (x : Value) (h1 : σ i = v) (h2 : upd i v σ j = x) (h : Runs P f n R k (upd j x (upd i v σ)) w) : Runs P f n R k σ w := r_upd h1 (r_upd h2 h)
theorem ru3 (i : Nat) (v : Value) (j : Nat) (x : Value) (m : Nat) (y : Value) (h1 : σ i = v) (h2 : upd i v σ j = x) (h3 : upd j x (upd i v σ) m = y) (h : Runs P f n R k (upd m y (upd j x (upd i v σ))) w) : Runs P f n R k σ w := r_upd h1 (r_upd h2 (r_upd h3 h))
theorem ru4 (i : Nat) (v : Value) (j : Nat) (x : Value) (m : Nat) (y : Value) (q : Nat) (z : Value) (h1 : σ i = v) (h2 : upd i v σ j = x) (h3 : upd j x (upd i v σ) m = y) (h4 : upd m y (upd j x (upd i v σ)) q = z) (h : Runs P f n R k (upd q z (upd m y (upd j x (upd i v σ)))) w) : Runs P f n R k σ w := r_upd h1 (r_upd h2 (r_upd h3 (r_upd h4 h)))
theorem sr {id : Nat} {l : List Oper} {y : Code} (h : XL P f n R (.code y :: k) l.toArray l σ w) : Runs P f n R (.code (.seq (.region id l.toArray false) y) :: k) σ w := r_seq (r_region h)
theorem sb {id : Nat} {c y : Code} (h : Runs P f n R (.code c :: .inBlock id :: .code y :: k) σ w) : Runs P f n R (.code (.seq (.block id c) y) :: k) σ w := r_seq (r_block h)
theorem xe (h : Runs P f n R k σ w) : XL P f n R k ops [] σ w := xo_end h
theorem wy (d : Nat) {j : Nat} {want b : Bool} (hg : o.guard = some (j, want)) (hd : (ops[j]?).bind (·.dst) = some d) (hv : σ d = .bool b) (hb : b = want) (hlt : d < n := by decide) : Region.wanted o (yielded ops (mkAct n σ).tmps) = true := wanted_yes hg hd hlt hv hb
theorem wn (d : Nat) {j : Nat} {want b : Bool} (hg : o.guard = some (j, want)) (hd : (ops[j]?).bind (·.dst) = some d) (hv : σ d = .bool b) (hb : b = !want) (hlt : d < n := by decide) : Region.wanted o (yielded ops (mkAct n σ).tmps) = false := wanted_no hg hd hlt hv hb
theorem wo {y : Nat → Option Bool} (hg : o.guard = none) : Region.wanted o y = true := wanted_none hg y
/-! Regions in order -/
theorem xp (v : Value) (hd : (o.dst, o.guard) = (some d, none)) (hp : PureOp P (ev n σ) o v) (h : XL P f n R k ops l (upd d v σ) w) : XL P f n R k ops (o :: l) σ w := xo_pure (tu1 hd) (wanted_none (tu2 hd) _) hp h
theorem xm (v : Value) (hd : (o.dst, o.guard, o.op) = (some d, none, .move x)) (hv : ev n σ x = v) (h : XL P f n R k ops l (upd d v σ) w) : XL P f n R k ops (o :: l) σ w := xo_pure (tr1 hd) (wanted_none (tr2 hd) _) (p_move (tr3 hd) hv) h
theorem xs (v : Value) (hd : (o.dst, o.guard, o.op) = (some d, none, .assign x)) (hv : ev n σ x = v) (h : XL P f n R k ops l (upd d v σ) w) : XL P f n R k ops (o :: l) σ w := xo_pure (tr1 hd) (wanted_none (tr2 hd) _) (p_assign (tr3 hd) hv) h
theorem xr (v : Value) (hd : o.dst = some d) (hw : Region.wanted o (yielded ops (mkAct n σ).tmps) = true) (hop : o.op = .load t x) (h1 : P.underlying t = some dd) (h2 : aggD dd = false) (hx : ev n σ x = .pointer pa) (he : pa = some ad) (hc : w.cell? ad = some v)
    (h : XL P f n R k ops l (upd d v σ) w) : XL P f n R k ops (o :: l) σ w := xo_read hd hw (rd_load hop h1 h2 (by rw [hx, he]) hc) h
/-! Regions that draw -/
theorem ap (i : Nat) (v : Value) (ho : l.drop i = o :: l') (hd : (o.dst, o.guard) = (some d, none)) (hp : PureOp P (ev n σ) o v) (h : XAny P f n R k l.toArray T held fuel (listed.setIfInBounds i true) (upd d v σ) w) (hc : takeOk l.toArray T listed i = true := by decide +kernel) :
    XAny P f n R k l.toArray T held (fuel + 1) listed σ w := xa_pure i hc ho (tu1 hd) (wanted_none (tu2 hd) _) hp h
theorem am (i : Nat) (v : Value) (ho : l.drop i = o :: l') (hd : (o.dst, o.guard, o.op) = (some d, none, .move x)) (hv : ev n σ x = v) (h : XAny P f n R k l.toArray T held fuel (listed.setIfInBounds i true) (upd d v σ) w) (hc : takeOk l.toArray T listed i = true := by decide +kernel) :
    XAny P f n R k l.toArray T held (fuel + 1) listed σ w := xa_pure i hc ho (tr1 hd) (wanted_none (tr2 hd) _) (p_move (tr3 hd) hv) h
theorem as_ (i : Nat) (v : Value) (ho : l.drop i = o :: l') (hd : (o.dst, o.guard, o.op) = (some d, none, .assign x)) (hv : ev n σ x = v) (h : XAny P f n R k l.toArray T held fuel (listed.setIfInBounds i true) (upd d v σ) w) (hc : takeOk l.toArray T listed i = true := by decide +kernel) :
    XAny P f n R k l.toArray T held (fuel + 1) listed σ w := xa_pure i hc ho (tr1 hd) (wanted_none (tr2 hd) _) (p_assign (tr3 hd) hv) h
theorem ak (i : Nat) (ho : l.drop i = o :: l') (hd : o.dst = some d) (hw : Region.wanted o (yielded l.toArray (mkAct n σ).tmps) = false) (h : XAny P f n R k l.toArray T held fuel (listed.setIfInBounds i true) (upd d undef σ) w) (hc : takeOk l.toArray T listed i = true := by decide +kernel) :
    XAny P f n R k l.toArray T held (fuel + 1) listed σ w := xa_skip i hc ho hd hw h
theorem ar (i : Nat) (v : Value) (ho : l.drop i = o :: l') (hd : o.dst = some d) (hw : Region.wanted o (yielded l.toArray (mkAct n σ).tmps) = true) (hop : o.op = .load t x) (h1 : P.underlying t = some dd) (h2 : aggD dd = false) (hx : ev n σ x = .pointer pa) (he : pa = some ad) (hcell : w.cell? ad = some v)
    (h : XAny P f n R k l.toArray T ((i, fun w => w.cell? ad = some v) :: held) fuel (listed.setIfInBounds i true) (upd d v σ) w) (hc : takeOk l.toArray T listed i = true := by decide +kernel) : XAny P f n R k l.toArray T held (fuel + 1) listed σ w :=
  xa_read (S := fun w => w.cell? ad = some v) i hc ho hd hw (fun w hc => rd_load hop h1 h2 (by rw [hx, he]) hc) hcell h
theorem an {K : Value → World → Prop} (j : Nat) (hh : after T held j = []) (ho : l.drop j = o :: l') (hd : o.dst = none) (hw : Region.wanted o (yielded l.toArray (mkAct n σ).tmps) = true)
    (hp : EffOp P (ev n σ) o w K) (h : ∀ v w', K v w' → XAny P f n R k l.toArray T [] fuel (listed.setIfInBounds j true) σ w') (hc : effOk l.toArray T listed [j] = true := by decide +kernel) :
    XAny P f n R k l.toArray T held (fuel + 1) listed σ w := xa_effN j [] hc hh ho hd hw hp fun v w' hk => ⟨AllHeld.nil, h v w' hk⟩
theorem yp (v : Value) (hd : o.dst = some d) (hw : Region.wanted o (yielded ops (mkAct n σ).tmps) = true) (hp : PureOp P (ev n σ) o v) (h : XL P f n R k ops l (upd d v σ) w) : XL P f n R k ops (o :: l) σ w := xo_pure hd hw hp h
theorem ay (i : Nat) (v : Value) (ho : l.drop i = o :: l') (hd : o.dst = some d) (hw : Region.wanted o (yielded l.toArray (mkAct n σ).tmps) = true) (hp : PureOp P (ev n σ) o v) (h : XAny P f n R k l.toArray T held fuel (listed.setIfInBounds i true) (upd d v σ) w) (hc : takeOk l.toArray T listed i = true := by decide +kernel) :
    XAny P f n R k l.toArray T held (fuel + 1) listed σ w := xa_pure i hc ho hd hw hp h
theorem ae {K : Value → World → Prop} (j : Nat) (held' : Helds) (hh : after T held j = held') (ho : l.drop j = o :: l') (hd : o.dst = some d) (hw : Region.wanted o (yielded l.toArray (mkAct n σ).tmps) = true)
    (hp : EffOp P (ev n σ) o w K) (h : ∀ v w', K v w' → AllHeld held' w' ∧ XAny P f n R k l.toArray T held' fuel (listed.setIfInBounds j true) (upd d v σ) w') (hc : effOk l.toArray T listed [j] = true := by decide +kernel) :
    XAny P f n R k l.toArray T held (fuel + 1) listed σ w := xa_eff j held' hc hh ho hd hw hp h
theorem ax (h : Runs P f n R k σ w) (hr : Region.ready .any ops listed = [] := by decide +kernel) : XAny P f n R k ops T held fuel listed σ w := xa_end hr h
end
end Go.X
