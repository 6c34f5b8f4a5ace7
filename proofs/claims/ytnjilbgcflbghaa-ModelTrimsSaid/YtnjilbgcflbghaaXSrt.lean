/- A slice whose block is known as an array of things: reads, comparisons, exchanges; what sorting leans on. -/
import Derived.Test.YtnjilbgcflbghaaXRec
import Derived.Sort.AssemblyPlain
set_option linter.all false
set_option linter.all false
namespace Go.X
open Go Go.Sort

/-- A 64-bit number, in a form that omega takes. -/
theorem wrap_i64e (n : Int) : IntKind.i64.wrap n = (n + 9223372036854775808) % 18446744073709551616 - 9223372036854775808 := by
  simp only [IntKind.wrap, IntKind.bits, IntKind.signed, Bool.true_and, decide_eq_true_eq, ge_iff_le]; split <;> omega
theorem wrap_u64e (n : Int) : IntKind.u64.wrap n = n % 18446744073709551616 := by
  simp only [IntKind.wrap, IntKind.bits, IntKind.signed, Bool.false_and, Bool.false_eq_true, if_false]; omega
theorem tdiv_nat (a : Int) (n : Nat) (h : 0 ≤ a) : Int.tdiv a n = a / n := Int.tdiv_eq_ediv_of_nonneg h

/-- A loop, its way back a variable. -/
theorem Lp.mk {α : Type} {F : (α → World → Prop) → α → World → Prop} {s : α} {w : World} (I : α → World → Prop) (μ : α → World → Nat) (h0 : I s w)
    (h : ∀ s w, I s w → ∀ ag : α → World → Prop, (∀ s' w', I s' w' → μ s' w' < μ s w → ag s' w') → F ag s w) : Lp F s w :=
  ⟨I, μ, h0, fun s w hI => h s w hI _ fun _ _ a b => ⟨a, b⟩⟩
theorem scanUp_stop {α : Type} [Inhabited α] {p : α → Bool} {d : Array α} {j i : Nat} (h : i ≤ j → p d[i]! = false) : scanUp p d j i = i := by
  rw [scanUp, if_neg (by simp only [Bool.and_eq_true, decide_eq_true_eq, not_and, Bool.not_eq_true]; exact h)]
theorem scanUp_go {α : Type} [Inhabited α] {p : α → Bool} {d : Array α} {j i : Nat} (h1 : i ≤ j) (h2 : p d[i]! = true) : scanUp p d j i = scanUp p d j (i + 1) := by
  conv => lhs; rw [scanUp, if_pos (by simp [h1, h2])]
theorem scanDown_stop {α : Type} [Inhabited α] {p : α → Bool} {d : Array α} {j i : Nat} (h : i ≤ j → p d[j]! = false) : scanDown p d i j = j := by
  cases j with
  | zero => rfl
  | succ j => rw [scanDown, if_neg (by simp only [Bool.and_eq_true, decide_eq_true_eq, not_and, Bool.not_eq_true]; exact h)]
theorem scanDown_go {α : Type} [Inhabited α] {p : α → Bool} {d : Array α} {j i : Nat} (h0 : 0 < i) (h1 : i ≤ j) (h2 : p d[j]! = true) : scanDown p d i j = scanDown p d i (j - 1) := by
  obtain ⟨j, rfl⟩ : ∃ k, j = k + 1 := ⟨j - 1, by omega⟩
  conv => lhs; rw [scanDown, if_pos (by simp [h1, h2])]
  rfl
section
variable {α : Type} [Inhabited α]
/-- A block of cells: things, one cell each, and what is behind them. -/
def SB (enc : α → Value) (e : TypeId) (b : Nat) (rest : List Value) (n : Nat) (w : World) (d : Array α) : Prop := Blk w b (d.toList.map enc ++ rest).toArray e ∧ d.size = n
/-- The slice of the things. -/
def slc (b n c : Nat) : Sl := ⟨some ⟨b, 0, none⟩, n, c⟩
variable {enc : α → Value} {e : TypeId} {b n c : Nat} {rest : List Value} {w : World} {d : Array α}
theorem SB.ch {S : Nat → Prop} {w' : World} (h : SB enc e b rest n w d) (hc : Ch S w w') (hs : ¬ S b) : SB enc e b rest n w' d := ⟨h.1.ch hc hs, h.2⟩
theorem SB.ext {w' : World} (h : SB enc e b rest n w d) (hc : Ext w w') : SB enc e b rest n w' d := h.ch hc id
theorem SB.drew (h : SB enc e b rest n w d) : SB enc e b rest n w.drew d := h.ext (Ch.drew w)
theorem SB.get (h : SB enc e b rest n w d) {i : Nat} (hi : i < n) : (d.toList.map enc ++ rest).toArray[0 + i]? = some (enc d[i]!) := by
  have hi' : i < d.size := by rw [h.2]; exact hi
  simp [List.getElem?_append, hi', getElem!_pos d i hi']
theorem s_ix {i : Int} {K : Addr → Prop} (a : Nat) (hi : i = a) (ha : a < n) (k : K ⟨b, 0, none⟩) : Ix (slc b n c) i K := ⟨_, rfl, by omega, by simp only [slc]; omega, k⟩
theorem s_ld {i : Int} {K : α → Prop} (a : Nat) (h : SB enc e b rest n w d) (hi : i = a) (ha : a < n) (k : K d[a]!) : Ld enc (some ((⟨b, 0, none⟩ : Addr).add (i.toNat * 1))) w K := by
  have e0 : ((⟨b, 0, none⟩ : Addr).add (i.toNat * 1)) = ⟨b, 0 + a, none⟩ := by rw [addr_add]; congr 1; omega
  rw [e0]
  exact Ld.blk h.1 (h.get ha) k
theorem s_st {i : Int} {v : α} {K : World → Prop} (a : Nat) (h : SB enc e b rest n w d) (hi : i = a) (ha : a < n) (k : ∀ w', SB enc e b rest n w' (d.setIfInBounds a v) → Ch (· = b) w w' → K w') :
    St (some ((⟨b, 0, none⟩ : Addr).add (i.toNat * 1))) (enc v) w K := by
  have e0 : ((⟨b, 0, none⟩ : Addr).add (i.toNat * 1)) = ⟨b, 0 + a, none⟩ := by rw [addr_add]; congr 1; omega
  have ha' : a < d.size := by rw [h.2]; exact ha
  rw [e0]
  refine St.blk h.1 (by simp; omega) fun w' hb hc => k w' ⟨?_, by simpa using h.2⟩ hc
  have e1 : ((d.toList.map enc ++ rest).toArray.setIfInBounds (0 + a) (enc v)) = ((d.setIfInBounds a v).toList.map enc ++ rest).toArray := by
    apply Array.ext'
    simp only [Array.toList_setIfInBounds, Nat.zero_add]
    rw [List.set_append_left _ _ (by simpa using ha'), List.map_set]
  rwa [e1] at hb
/-- Two reads, and their comparison. -/
theorem s_cmp {P : Program} {lt : α → α → Bool} {f : FuncId} {i j : Int} {N : Bool → World → Prop} (x y : Nat) (hl : ∀ (u v : α) (w : World) (K : Value → World → Prop), K (.bool (lt u v)) w → CallF P f #[enc u, enc v] w K)
    (h : SB enc e b rest n w d) (hi : i = x) (hx : x < n) (hj : j = y) (hy : y < n) (k : N (lt d[x]! d[y]!) w.drew) :
    Ix (slc b n c) i fun p_1 => Ld enc (some (p_1.add (i.toNat * 1))) w.drew fun v_2 => Ix (slc b n c) j fun p_3 => Ld enc (some (p_3.add (j.toNat * 1))) w.drew fun v_4 =>
      CallF P f #[enc v_2, enc v_4] w.drew fun u_5 w_2 => As Value.bool u_5 fun v_6 => N v_6 w_2 :=
  s_ix x hi hx (s_ld x h.drew hi hx (s_ix y hj hy (s_ld y h.drew hj hy (hl _ _ _ _ ⟨_, rfl, k⟩))))
/-- data[x], data[y] = data[y], data[x] -/
theorem s_swp {i j : Int} {N : World → Prop} (x y : Nat) (h : SB enc e b rest n w d) (hi : i = x) (hx : x < n) (hj : j = y) (hy : y < n) (k : ∀ w', SB enc e b rest n w' (swp d x y) → Ch (· = b) w w' → N w') :
    Ix (slc b n c) j fun p_1 => Ld enc (some (p_1.add (j.toNat * 1))) w.drew fun v_2 => Ix (slc b n c) i fun p_3 => Ld enc (some (p_3.add (i.toNat * 1))) w.drew fun v_4 =>
      Ix (slc b n c) i fun p_5 => St (some (p_5.add (i.toNat * 1))) (enc v_2) w.drew fun w_2 => Ix (slc b n c) j fun p_6 => St (some (p_6.add (j.toNat * 1))) (enc v_4) w_2 fun w_3 => N w_3 :=
  s_ix y hj hy (s_ld y h.drew hj hy (s_ix x hi hx (s_ld x h.drew hi hx (s_ix x hi hx (s_st x h.drew hi hx fun w2 h2 c2 => s_ix y hj hy (s_st y h2 hj hy fun w3 h3 c3 => k w3 h3 (((Ch.drew w).mono fun _ _ h => h.elim).trans (c2.trans c3))))))))
theorem chd {b : Nat} {w w1 : World} (h : Ch (· = b) w w1) : Ch (· = b) w w1.drew := h.trans ((Ch.drew w1).mono fun _ _ h => h.elim)
theorem SB.size (h : SB enc e b rest n w d) : d.size = n := h.2
theorem SB.sz {d' : Array α} {w' : World} (h : SB enc e b rest n w d) (h' : SB enc e b rest n w' d') : d'.size = d.size := by rw [h.2, h'.2]
end
end Go.X
