/- What is in memory, and what an operation does to it: the laws that contracts use. -/
import Derived.Test.YtnjilbgcflbghaaXOps
set_option linter.all false
namespace Go.X
open Go Go.RowKit

/-- Nothing has changed but the blocks of S, and new ones. -/
structure Ch (S : Nat → Prop) (w w' : World) : Prop where
  os : w'.os = w.os
  tape : w'.tape = w.tape
  output : w'.output = w.output
  size : w.heap.size ≤ w'.heap.size
  block : ∀ k, k < w.heap.size → ¬ S k → w'.heap[k]? = w.heap[k]?
abbrev Ext (w w' : World) : Prop := Ch (fun _ => False) w w'
theorem Ch.refl (S : Nat → Prop) (w : World) : Ch S w w := ⟨rfl, rfl, rfl, Nat.le_refl _, fun _ _ _ => rfl⟩
theorem Ch.trans {S : Nat → Prop} {a b c : World} (h : Ch S a b) (k : Ch S b c) : Ch S a c :=
  ⟨k.os.trans h.os, k.tape.trans h.tape, k.output.trans h.output, Nat.le_trans h.size k.size, fun i hi hs => (k.block i (Nat.lt_of_lt_of_le hi h.size) hs).trans (h.block i hi hs)⟩
/-- Of the second change only what lies below the first world's end counts. -/
theorem Ch.step {S T U : Nat → Prop} {a b c : World} (h : Ch S a b) (k : Ch T b c) (h1 : ∀ i, i < a.heap.size → S i → U i) (h2 : ∀ i, i < a.heap.size → T i → U i) : Ch U a c :=
  ⟨k.os.trans h.os, k.tape.trans h.tape, k.output.trans h.output, Nat.le_trans h.size k.size, fun i hi hu =>
    (k.block i (Nat.lt_of_lt_of_le hi h.size) fun t => hu (h2 i hi t)).trans (h.block i hi fun s => hu (h1 i hi s))⟩
theorem Ch.mono {S T : Nat → Prop} {a b : World} (h : Ch S a b) (h1 : ∀ i, i < a.heap.size → S i → T i) : Ch T a b := ⟨h.os, h.tape, h.output, h.size, fun i hi ht => h.block i hi fun s => ht (h1 i hi s)⟩
theorem Ch.drew (w : World) : Ext w w.drew := ⟨rfl, rfl, rfl, Nat.le_refl _, fun _ _ _ => rfl⟩
theorem Ch.alloc (w : World) (o : Obj) : Ext w (w.alloc o) := ⟨rfl, rfl, rfl, by simp, fun k hk _ => Below.heap_alloc w o k hk⟩
theorem Ch.setCell (w : World) (a : Addr) (v : Value) : Ch (· = a.block) w (w.setCell a v) := ⟨rfl, rfl, rfl, by simp [World.setCell], fun k _ hk => Below.heap_setCell w a v k hk⟩
theorem Ch.below {S : Nat → Prop} {w w' : World} (h : Ch S w w') (hs : ∀ i, i < w.heap.size → ¬ S i) : Below w.heap.size w w' := ⟨h.os, h.tape, h.output, h.size, fun k hk => h.block k hk (hs k hk)⟩
theorem Ext.below {w w' : World} (h : Ext w w') : Below w.heap.size w w' := Ch.below h fun _ _ hf => hf
theorem Ch.of_grown {w w' : World} {row : Option Nat} (h : w.grownBy w' row) : Ch (fun k => some k = row) w w' := ⟨h.os, h.tape, h.output, h.size, fun k hk hn => h.block k hk hn⟩

/-- A block known whole. -/
def Blk (w : World) (b : Nat) (cs : Array Value) (e : TypeId) : Prop := w.heap[b]? = some (.cells cs e (0, 0))
theorem Blk.lt {w : World} {b : Nat} {cs : Array Value} {e : TypeId} (h : Blk w b cs e) : b < w.heap.size := (Array.getElem?_eq_some_iff.1 h).1
theorem Blk.ch {S : Nat → Prop} {w w' : World} {b : Nat} {cs : Array Value} {e : TypeId} (h : Blk w b cs e) (hc : Ch S w w') (hs : ¬ S b) : Blk w' b cs e := (hc.block b h.lt hs).trans h
theorem Blk.ext {w w' : World} {b : Nat} {cs : Array Value} {e : TypeId} (h : Blk w b cs e) (hc : Ext w w') : Blk w' b cs e := h.ch hc id
theorem Blk.cell {w : World} {b i : Nat} {cs : Array Value} {e : TypeId} {v : Value} (h : Blk w b cs e) (hv : cs[i]? = some v) : w.cell? ⟨b, i, none⟩ = some v := by
  unfold Blk at h; simp [World.cell?, h, hv]
theorem Blk.free {w : World} {b i : Nat} {cs : Array Value} {e : TypeId} (h : Blk w b cs e) : w.frozen? ⟨b, i, none⟩ = false := by
  unfold Blk at h; simp [World.frozen?, h]
theorem Blk.new (w : World) (cs : Array Value) (e : TypeId) : Blk (w.alloc (.cells cs e)) w.heap.size cs e := by
  show (w.heap.push _)[w.heap.size]? = _
  simp
theorem Blk.set {w : World} {b i : Nat} {cs : Array Value} {e : TypeId} {v : Value} (h : Blk w b cs e) : Blk (w.setCell ⟨b, i, none⟩ v) b (cs.setIfInBounds i v) e := by
  unfold Blk World.setCell at *
  simp [Array.getElem?_modify, h]

@[simp] theorem addr_add (b o n : Nat) : (⟨b, o, none⟩ : Addr).add n = ⟨b, o + n, none⟩ := by unfold Addr.add; split <;> simp_all

/-! ## Reads and writes of known blocks -/
section laws
variable {α : Type} {enc : α → Value} {w : World} {b i : Nat} {cs : Array Value} {e : TypeId}
theorem Ld.blk {K : α → Prop} {x : α} (h : Blk w b cs e) (hv : cs[i]? = some (enc x)) (k : K x) : Ld enc (some ⟨b, i, none⟩) w K := ⟨_, x, rfl, h.cell hv, k⟩
theorem LdH.blk {K : Addr → α → Prop} {x : α} (h : Blk w b cs e) (hv : cs[i]? = some (enc x)) (k : K ⟨b, i, none⟩ x) : LdH enc (some ⟨b, i, none⟩) w K := ⟨_, x, rfl, h.cell hv, k⟩
theorem Row.blk {ds : Array Value} (h : Blk w b cs e) (hd : ∀ j v, ds[j]? = some v → cs[i + j]? = some v) : Row w ⟨b, i, none⟩ ds := fun j v hj => by rw [addr_add]; exact h.cell (hd j v hj)
theorem LdN.blk {n : Nat} {K : Array Value → Prop} {ds : Array Value} (h : Blk w b cs e) (hd : ∀ j v, ds[j]? = some v → cs[i + j]? = some v) (hn : ds.size = n) (k : K ds) : LdN n (some ⟨b, i, none⟩) w K := ⟨_, ds, rfl, hn, .blk h hd, k⟩
theorem LdNH.blk {n : Nat} {K : Addr → Array Value → Prop} {ds : Array Value} (h : Blk w b cs e) (hd : ∀ j v, ds[j]? = some v → cs[i + j]? = some v) (hn : ds.size = n) (k : K ⟨b, i, none⟩ ds) : LdNH n (some ⟨b, i, none⟩) w K := ⟨_, ds, rfl, hn, .blk h hd, k⟩
/-- All of a block. -/
theorem LdN.all {n : Nat} {K : Array Value → Prop} (h : Blk w b cs e) (hn : cs.size = n) (k : K cs) : LdN n (some ⟨b, 0, none⟩) w K := .blk h (fun j v hj => by simpa using hj) hn k
theorem LdNH.all {n : Nat} {K : Addr → Array Value → Prop} (h : Blk w b cs e) (hn : cs.size = n) (k : K ⟨b, 0, none⟩ cs) : LdNH n (some ⟨b, 0, none⟩) w K := .blk h (fun j v hj => by simpa using hj) hn k
theorem Row.all (h : Blk w b cs e) : Row w ⟨b, 0, none⟩ cs := .blk h fun j v hj => by simpa using hj
theorem St.blk {v : Value} {K : World → Prop} (h : Blk w b cs e) (hi : i < cs.size) (k : ∀ w', Blk w' b (cs.setIfInBounds i v) e → Ch (· = b) w w' → K w') : St (some ⟨b, i, none⟩) v w K :=
  ⟨_, rfl, by rw [h.cell (v := cs[i]) (by simp [hi])]; rfl, h.free, k _ h.set (Ch.setCell w ⟨b, i, none⟩ v)⟩
theorem New.mk {K : Addr → World → Prop} (k : ∀ b w', b = w.heap.size → w'.heap.size = w.heap.size + 1 → Blk w' b cs e → Ext w w' → K ⟨b, 0, none⟩ w') : New cs e w K :=
  k _ _ rfl (by simp) (Blk.new w cs e) (Ch.alloc w _)
end laws

/-! ## Slices -/
/-- What a slice shows: its cells. -/
def Sees (w : World) (s : Sl) (size : Nat) (xs : List Value) : Prop :=
  xs.length = s.len * size ∧ s.len ≤ s.cap ∧ (s.a = none → s.len = 0) ∧ ∀ a, s.a = some a → a.spot = none ∧ ∀ i v, xs[i]? = some v → w.cell? (a.add i) = some v
theorem Sees.nil (w : World) (size : Nat) : Sees w Sl.nil size [] := ⟨by simp [Sl.nil], Nat.le_refl _, fun _ => rfl, fun a h => by cases h⟩

/-- A slice at the head of a block of its own. -/
def Own (w : World) (s : Sl) (e size : Nat) (xs : List Value) : Prop := w.ownsRow 0 e size s.v s.len xs
def Sl.blk (s : Sl) : Nat → Prop := fun k => ∃ a, s.a = some a ∧ k = a.block
theorem Own.nil (w : World) (e size : Nat) : Own w Sl.nil e size [] := World.ownsRow_nil w 0 e size
theorem Own.len {w : World} {s : Sl} {e size : Nat} {xs : List Value} (h : Own w s e size xs) : xs.length = s.len * size := h.1
theorem own_blk {s : Sl} {k : Nat} : s.v.ownBlock = some k ↔ s.blk k := by
  obtain ⟨a, l, c⟩ := s
  cases a <;> simp [Sl.v, Value.ownBlock, Sl.blk, eq_comm]
theorem Own.lt {w : World} {s : Sl} {e size : Nat} {xs : List Value} (h : Own w s e size xs) {k : Nat} (hk : s.blk k) : k < w.heap.size := (World.ownsRow.lt h k (own_blk.2 hk)).2
theorem Own.ch {S : Nat → Prop} {w w' : World} {s : Sl} {e size : Nat} {xs : List Value} (h : Own w s e size xs) (hc : Ch S w w') (hs : ∀ k, s.blk k → ¬ S k) : Own w' s e size xs := by
  refine ⟨h.1, ?_⟩
  rcases h.2 with hn | ⟨g, cap, cur, hv, hb, hg, rest⟩
  · exact .inl hn
  · refine .inr ⟨g, cap, cur, hv, hb, ?_, rest⟩
    have hk : s.blk g := own_blk.1 (by rw [hv]; rfl)
    rw [hc.block g (h.lt hk) (hs g hk)]
    exact hg
theorem Own.ext {w w' : World} {s : Sl} {e size : Nat} {xs : List Value} (h : Own w s e size xs) (hc : Ext w w') : Own w' s e size xs := h.ch hc fun _ _ => id
theorem Own.sees {w : World} {s : Sl} {e size : Nat} {xs : List Value} (h : Own w s e size xs) : Sees w s size xs := by
  obtain ⟨a, l, c⟩ := s
  rcases h.2 with ⟨hv, hl⟩ | ⟨g, cap, cur, hv, hb, hg, hn, hm, hz, ht⟩
  · simp only [Sl.v, Value.slice.injEq] at hv
    obtain ⟨rfl, rfl, rfl⟩ := hv
    exact ⟨h.1, Nat.le_refl _, fun _ => rfl, (fun a h => by cases h)⟩
  · simp only [Sl.v, Value.slice.injEq] at hv
    obtain ⟨rfl, hl, rfl⟩ := hv
    refine ⟨h.1, hn, (fun h => by cases h), fun a ha => ?_⟩
    obtain rfl : _ = a := by injection ha
    exact ⟨rfl, fun i v hi => World.ownsRow.cells h (g := g) rfl i v hi⟩
theorem Sees.ch {S : Nat → Prop} {w w' : World} {s : Sl} {size : Nat} {xs : List Value} (h : Sees w s size xs) (hc : Ch S w w') (hs : ∀ k, s.blk k → ¬ S k) : Sees w' s size xs := by
  refine ⟨h.1, h.2.1, h.2.2.1, fun a ha => ⟨(h.2.2.2 a ha).1, fun i v hi => ?_⟩⟩
  have hv := (h.2.2.2 a ha).2 i v hi
  have hb : (a.add i).block = a.block := by unfold Addr.add; split <;> rfl
  have hlt := World.block_lt_of_cell? w (a.add i) hv
  rw [← hv]
  exact World.cell?_of_block (hc.block _ hlt (by rw [hb]; exact hs _ ⟨a, ha, rfl⟩))
theorem Sees.ext {w w' : World} {s : Sl} {size : Nat} {xs : List Value} (h : Sees w s size xs) (hc : Ext w w') : Sees w' s size xs := h.ch hc fun _ _ => id
/-- The slice of a whole new block. -/
theorem Sees.ofBlk {w : World} {b n size : Nat} {cs : Array Value} {e : TypeId} (h : Blk w b cs e) (hn : cs.size = n * size) : Sees w ⟨some ⟨b, 0, none⟩, n, n⟩ size cs.toList :=
  ⟨by simpa using hn, Nat.le_refl _, (fun h => by cases h), fun a ha => by
    obtain rfl : _ = a := by injection ha
    exact ⟨rfl, fun i v hi => by rw [addr_add, Nat.zero_add]; exact h.cell (by simpa using hi)⟩⟩

/-- append of what a slice shows. -/
theorem Ef.append {P : Program} {w : World} {t ty e : TypeId} {z : Value} {size bytes : Nat} {s x : Sl} {xs ys : List Value} {K : Sl → World → Prop}
    (ht : P.underlying t = some (.slice e)) (hi : TI P e z size bytes) (hz : z.cells.size = size) (hsz : 0 < size) (ho : Own w s e size xs) (hx : Sees w x size ys) (h1 : ∀ u ∈ ys, u.oneCell' = true)
    (hbytes : (s.len + x.len) * bytes ≤ 140737488355328) (hm : s.len + x.len ≤ 140737488355328)
    (k : ∀ s' w', Own w' s' e size (xs ++ ys) → Ch s.blk w w' → s'.len = s.len + x.len → (∀ b, s'.blk b → s.blk b ∨ w.heap.size ≤ b) → K s' w') :
    Ef P (Builtin.append_ #[t, t] ty #[s.v, x.v]) Sl.v w K := by
  obtain ⟨i, hi0, hi1, hi2, hi3⟩ := hi
  have hm' : s.len + x.len ≤ maxLen := by unfold maxLen; omega
  obtain ⟨xa, xl, xc⟩ := x
  cases xa with
  | none =>
    have hl : xl = 0 := hx.2.2.1 rfl
    subst hl
    have hys : ys = [] := List.eq_nil_of_length_eq_zero (by simpa using hx.1)
    subst hys
    obtain ⟨sa, sl, sc⟩ := s
    have hle : sl ≤ sc := ho.sees.2.1
    refine ⟨⟨sa, sl, sc⟩, w, ?_, k _ _ (by simpa using ho) (Ch.refl _ _) rfl fun b hb => .inl hb⟩
    cases sa <;> simp [Sl.v, Builtin.append_, run_underlying ht, sizeOf, typeInfo, hi0, Builtin.lenOf, Builtin.firstCells, hle, storeCells]
  | some a =>
    obtain ⟨v', w', hr, h2, h3, h4⟩ := run_append_own (P := P) w 0 t ty e i z size bytes ht hi0 hi1 hi2 hi3 hz hsz s.v s.len xs ho a xl xc ys hx.1 (fun j u hj => (hx.2.2.2 a rfl).2 j u hj) h1 hm' hbytes (Nat.zero_le _)
    obtain ⟨s', rfl, hs'⟩ : ∃ s' : Sl, v' = s'.v ∧ s'.len = s.len + xl := by
      rcases h2.2 with ⟨hv, hn⟩ | ⟨g, cap, cur, hv, _⟩
      · exact ⟨Sl.nil, hv, by simp [Sl.nil, hn]⟩
      · exact ⟨⟨some ⟨g, 0, none⟩, _, cap⟩, hv, rfl⟩
    refine ⟨s', w', hr, k s' w' (by unfold Own; rw [hs']; exact h2) ((Ch.of_grown h3).mono fun i _ h => own_blk.1 h.symm) hs' fun b hb => ?_⟩
    -- the new slice's block is the old one, or new
    subst hi3
    have hnews : ∀ j u, ys[j]? = some u → w.cell? (a.add j) = some u := fun j u hj => (hx.2.2.2 a rfl).2 j u hj
    have hl' : ys.length = xl * i.size := by rw [hi2]; exact hx.1
    simp only [] at hm hm'
    rcases ho.2 with ⟨hv, hn⟩ | ⟨g, cap, cur, hv, hbg, hg, hnc, hcm, hcs, htake⟩
    · by_cases hxl : xl = 0
      · subst hxl
        have hys : ys = [] := List.eq_nil_of_length_eq_zero (by simpa using hl')
        subst hys
        have : s'.v = .slice none 0 0 := (h4.2 ⟨hv, rfl⟩)
        obtain ⟨_, e1, _⟩ := hb
        obtain ⟨sa, sl, sc⟩ := s'
        simp only [Sl.v, Value.slice.injEq] at this
        simp only at e1
        rw [this.1] at e1
        cases e1
      · have hr2 := run_append_nil (P := P) w t ty e i z ht hi0 hi1 a xl xc ys hl' hnews (by omega) (by omega) (by have hb' := hbytes; rw [hn] at hb'; simp only [Nat.zero_add] at hb'; omega)
        rw [hv] at hr
        rw [hr2] at hr
        injection hr with e1 _
        obtain ⟨a', e2, rfl⟩ := hb
        obtain ⟨sa, sl, sc⟩ := s'
        simp only [Sl.v, Value.slice.injEq] at e1
        simp only at e2
        rw [← e1.1] at e2
        injection e2 with e2
        subst e2
        exact .inr (Nat.le_refl _)
    · by_cases hroom : s.len + xl ≤ cap
      · have hfit : s.len * i.size + ys.length ≤ cur.size := by rw [hl', hcs, hi2, ← Nat.add_mul]; exact Nat.mul_le_mul_right _ hroom
        have hr2 := run_append_room (P := P) w t ty e i ht hi0 g s.len cap cur hg a xl xc ys hl' hnews h1 hroom hfit
        rw [hv] at hr
        rw [hr2] at hr
        injection hr with e1 _
        obtain ⟨a', e2, rfl⟩ := hb
        obtain ⟨sa, sl, sc⟩ := s'
        simp only [Sl.v, Value.slice.injEq] at e1
        simp only at e2
        rw [← e1.1] at e2
        injection e2 with e2
        subst e2
        left
        exact own_blk.1 (by rw [hv]; rfl)
      · have holds : ∀ j u, xs[j]? = some u → w.cell? ((⟨g, 0, none⟩ : Addr).add j) = some u := World.ownsRow.cells ho (g := g) (by rw [hv]; rfl)
        have hr2 := run_append_grow (P := P) w t ty e i z ht hi0 hi1 ⟨g, 0, none⟩ s.len cap xs (by rw [hi2]; exact ho.1) holds a xl xc ys hl' hnews (by omega) (by unfold maxLen at hm'; omega) (growslice_fits (by omega) hbytes)
        rw [hv] at hr
        rw [hr2] at hr
        injection hr with e1 _
        obtain ⟨a', e2, rfl⟩ := hb
        obtain ⟨sa, sl, sc⟩ := s'
        simp only [Sl.v, Value.slice.injEq] at e1
        simp only at e2
        rw [← e1.1] at e2
        injection e2 with e2
        subst e2
        exact .inr (Nat.le_refl _)
/-- append of some new cells. -/
theorem Ef.append1 {P : Program} {w : World} {t ty e : TypeId} {z : Value} {size bytes n : Nat} {s : Sl} {xs : List Value} {ys : Array Value} {K : Sl → World → Prop}
    (ht : P.underlying t = some (.slice e)) (hi : TI P e z size bytes) (hz : z.cells.size = size) (hsz : 0 < size) (ho : Own w s e size xs) (hn : ys.size = n * size) (h1 : ∀ u ∈ ys.toList, u.oneCell' = true)
    (hb : (s.len + n) * bytes ≤ 140737488355328) (hm : s.len + n ≤ 140737488355328)
    (k : ∀ s' w', Own w' s' e size (xs ++ ys.toList) → Ch s.blk w w' → s'.len = s.len + n → (∀ b, s'.blk b → s.blk b ∨ w.heap.size ≤ b) → K s' w') :
    New ys e w fun a w1 => Ef P (Builtin.append_ #[t, t] ty #[s.v, Sl.v ⟨some a, n, n⟩]) Sl.v w1 K :=
  New.mk fun b w' hb' hs hblk hext => Ef.append ht hi hz hsz (ho.ext hext) (Sees.ofBlk hblk hn) h1 hb hm fun s' w'' ho' hch hl hbl =>
    k s' w'' ho' (hext.step hch (fun _ _ h => h.elim) (fun _ _ h => h)) hl fun c hc => (hbl c hc).imp id fun h => by omega

/-! ## Numbers of a kind -/
theorem wrap_u64 {n : Int} (h0 : 0 ≤ n) (h : n < 18446744073709551616) : IntKind.u64.wrap n = n := by
  simp only [IntKind.wrap, IntKind.bits, IntKind.signed, Bool.false_and, Bool.false_eq_true, if_false]; omega
theorem wrap_u8 {n : Int} (h0 : 0 ≤ n) (h : n < 256) : IntKind.u8.wrap n = n := by
  simp only [IntKind.wrap, IntKind.bits, IntKind.signed, Bool.false_and, Bool.false_eq_true, if_false]; omega
theorem wrap_u32 {n : Int} (h0 : 0 ≤ n) (h : n < 4294967296) : IntKind.u32.wrap n = n := by
  simp only [IntKind.wrap, IntKind.bits, IntKind.signed, Bool.false_and, Bool.false_eq_true, if_false]; omega
theorem wrap_i64 {n : Int} (h0 : -9223372036854775808 ≤ n) (h : n ≤ 9223372036854775807) : IntKind.i64.wrap n = n := by
  simp only [IntKind.wrap, IntKind.bits, IntKind.signed, Bool.true_and, decide_eq_true_eq, ge_iff_le]; split <;> omega
end Go.X
