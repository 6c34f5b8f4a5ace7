/- Collected sequences, and sorted ones (string). -/
import Derived.Test.YtnjilbgcflbghaaXF1
import Derived.Test.YtnjilbgcflbghaaXF2
import Derived.Test.YtnjilbgcflbghaaXSeq
import Derived.Test.YtnjilbgcflbghaaXSrtO
import Derived.Test.YtnjilbgcflbghaaXSort5string
set_option linter.all false
set_option maxHeartbeats 1000000
namespace Go.Proofs
open Go Go.X Go.Sort
/-- What lies in the memory between two rounds of a collecting loop. -/
structure ColJ_string (w : World) (a l r : Nat) (lr : Loop) (priv : Nat → Prop) (xs : List ByteArray) (u : World) : Prop where
  s : ∃ s : Sl, Blk u a #[s.v] 71 ∧ Own u s 9 1 (xs.map Value.string) ∧ ∀ b, s.blk b → w.heap.size ≤ b ∧ ¬ priv b ∧ b ≠ a ∧ b ≠ l ∧ b ≠ r
  loop : u.heap[l]? = some (LRof lr .ready none)
  mark : u.heap[r]? = some (.deferred (some []))
  ext : Ext w u
  pr : ∀ k, priv k → w.heap.size ≤ k ∧ k ≠ a ∧ k ≠ l ∧ k ≠ r
theorem collect_string {w : World} {fv : Value} {N : Nat} {G : List ByteArray → Prop} (h : SeqOK Try.prog fv (fun x : ByteArray => #[Value.string x]) N G w) (hN : N < 4398046511104) (R : Value → World → Prop)
    (k : ∀ (s : Sl) (xs : List ByteArray) w', G xs → Own w' s 9 1 (xs.map Value.string) → Ext w w' → (∀ b, s.blk b → w.heap.size ≤ b) → R s.v w') : CallF Try.prog 153 #[fv] w R := by
  refine slices_Collect_string_ok R _ w ?_
  unfold slices_Collect_string
  refine slices_AppendSeq_string_string_ok _ Sl.nil fv w ?_
  unfold slices_AppendSeq_string_string
  refine New.mk fun a w1 ha hs1 hb1 c1 => ?_
  intro lr y hy
  obtain ⟨hd, hl, c2, hs2⟩ := loop_start w1 lr
  generalize (w1.alloc (.deferred (some []))).alloc (LRof lr .ready none) = w2 at hd hl c2 hs2
  generalize el : w1.heap.size + 1 = l at *
  generalize er : w1.heap.size = r at *
  refine h y (ColJ_string w a l r lr) (fun _ => False) w2 _ (c1.trans c2) ?_ ?_ ?_ ?_ (fun _ h => h.elim)
  · intro priv w3 c3 hp
    refine ⟨⟨Sl.nil, (hb1.ext c2).ext c3, Own.nil _ _ _, fun b hb => (by obtain ⟨_, e, _⟩ := hb; cases e)⟩, obj_ch hl c3 id, obj_ch hd c3 id, c1.trans (c2.trans c3), fun k hk => ?_⟩
    have := hp k hk
    omega
  · rintro priv xs u u' ⟨⟨s, i1, i2, i3⟩, j1, j2, j3, j4⟩ cu
    exact ⟨⟨s, i1.ch cu fun hp => (j4 _ hp).2.1 rfl, i2.ch cu fun b hb => (i3 b hb).2.1, i3⟩, obj_ch j1 cu fun hp => (j4 _ hp).2.2.1 rfl, obj_ch j2 cu fun hp => (j4 _ hp).2.2.2 rfl,
      j3.step cu (fun _ _ h => h) (fun i hi hp => by have := (j4 i hp).1; omega), j4⟩
  · rintro priv xs x u ⟨⟨s, i1, i2, i3⟩, j1, j2, j3, j4⟩ hlen hp
    refine hy _ u _ j1 ⟨x, rfl, ?_⟩
    unfold slices_AppendSeq_string_string_r0
    refine ⟨j1, ?_⟩
    have cb := putObj_ch u l (LRof lr .busy none)
    have hb0 := putObj_get (o' := LRof lr .busy none) j1
    generalize u.putObj l (LRof lr .busy none) = u1 at cb hb0
    have hal : a ≠ l := by omega
    have i1' := i1.ch cb (fun e => hal e)
    have i2' := i2.ch cb (fun b hb e => (i3 b hb).2.2.2.1 e)
    have hsl : s.len = xs.length := by have := i2.len; simpa using this.symm
    refine Ld.blk i1' rfl ?_
    refine Ef.append1 Try.underlying71 Try.ti9 rfl (by decide) i2' rfl (by simp [Value.oneCell']) (by omega) (by omega) fun s' u2 o2 cu2 hl2 hbl2 => ?_
    have i1'' := i1'.ch cu2 (fun hb => (i3 a hb).2.2.1 rfl)
    refine St.blk i1'' (by simp) fun u3 i13 cu3 => ?_
    have hal' : l ≠ a := fun e => hal e.symm
    have hl3 : u3.heap[l]? = some (LRof lr .busy none) := obj_ch (obj_ch hb0 cu2 (fun hb => (i3 l hb).2.2.2.1 rfl)) cu3 hal'
    refine ⟨hl3, .inl ⟨rfl, ?_, ?_⟩⟩
    · have c4 := putObj_ch u3 l (LRof lr .ready none)
      have hfin := putObj_get (o' := LRof lr .ready none) hl3
      have lt1 := i1.lt
      have lt2 := obj_lt j1
      have lt3 := obj_lt j2
      have n2 : ∀ b, s'.blk b → w.heap.size ≤ b ∧ ¬ priv b ∧ b ≠ a ∧ b ≠ l ∧ b ≠ r := fun b hb => by
        rcases hbl2 b hb with h | h
        · exact i3 b h
        · have := cb.size
          have := j3.size
          exact ⟨by omega, fun hp' => by have := (hp b hp').2; omega, by omega, by omega, by omega⟩
      refine ⟨⟨s', i13.ch c4 (fun e => hal e), ?_, n2⟩, hfin, ?_, ?_, j4⟩
      · have := (o2.ch cu3 (fun b hb e => (n2 b hb).2.2.1 e)).ch c4 (fun b hb e => (n2 b hb).2.2.2.1 e)
        simpa using this
      · refine obj_ch (obj_ch (obj_ch (obj_ch j2 cb ?_) cu2 fun hb => (i3 r hb).2.2.2.2 rfl) cu3 ?_) c4 ?_ <;> omega
      · refine (((j3.step cb (fun _ _ h => h) ?_).step cu2 (fun _ _ h => h) ?_).step cu3 (fun _ _ h => h) ?_).step c4 (fun _ _ h => h) ?_
        · intro i hi e; omega
        · intro i hi hb; have := (i3 i hb).1; omega
        · intro i hi e; omega
        · intro i hi e; omega
    · have c4 := putObj_ch u3 l (LRof lr .ready none)
      have hpl : ¬ priv l := fun hp' => (j4 l hp').2.2.1 rfl
      have hpa : ¬ priv a := fun hp' => (j4 a hp').2.1 rfl
      refine (((cb.step cu2 (U := fun k => ¬ priv k ∧ w.heap.size ≤ k) ?_ ?_).step cu3 (fun _ _ h => h) ?_).step c4 (fun _ _ h => h) ?_)
      · rintro i hi rfl; exact ⟨hpl, by omega⟩
      · intro i hi hb; exact ⟨(i3 i hb).2.1, (i3 i hb).1⟩
      · rintro i hi rfl; exact ⟨hpa, by omega⟩
      · rintro i hi rfl; exact ⟨hpl, by omega⟩
  · rintro priv xs u hG ⟨⟨s, i1, i2, i3⟩, j1, j2, j3, j4⟩
    refine ⟨.ready, none, by decide, j1, rfl, ?_⟩
    have c1' := putObj_ch u l (LRof lr .exhausted none)
    have hal : a ≠ l := by omega
    refine Ld.blk (i1.ch c1' (fun e => hal e)) rfl ?_
    refine ⟨obj_ch j2 c1' (by omega), ?_⟩
    have c2' := putObj_ch (u.putObj l (LRof lr .exhausted none)) r (.deferred none)
    refine ⟨s, rfl, k s xs _ hG ((i2.ch c1' fun b hb e => (i3 b hb).2.2.2.1 e).ch c2' fun b hb e => (i3 b hb).2.2.2.2 e) ?_ fun b hb => (i3 b hb).1⟩
    refine (j3.step c1' (fun _ _ h => h) ?_).step c2' (fun _ _ h => h) ?_
    · intro i hi e; omega
    · intro i hi e; omega

/-- slices.Sort of no slice. -/
theorem sort_nil_string {w : World} {R : Value → World → Prop} (k : R (.tuple #[]) w) : CallF Try.prog 154 #[Sl.nil.v] w R := by
  refine slices_Sort_string_string_ok R Sl.nil w ?_
  unfold slices_Sort_string_string
  show CallF _ _ #[.int .u64 (IntKind.u64.wrap ((0 : Nat) : Int))] _ _
  rw [show IntKind.u64.wrap ((0 : Nat) : Int) = ((0 : Nat) : Int) by rfl]
  refine bitsLen_ok 0 (by omega) ⟨_, rfl, ?_⟩
  refine slices_pdqsortOrdered_string_ok _ Sl.nil 0 0 _ w ?_
  unfold slices_pdqsortOrdered_string
  refine Lp.mk (fun s u => s = (Sl.nil, (0 : Int), (0 : Int), ((Go.Sort.bitsLen 0 : Nat) : Int), true, true) ∧ R (.tuple #[]) u) (fun _ _ => 0) ⟨rfl, k⟩ ?_
  rintro _ u ⟨rfl, k⟩ ag hag
  show slices_pdqsortOrdered_string_b0 _ ag Sl.nil 0 0 _ true true _
  unfold slices_pdqsortOrdered_string_b0
  refine ⟨fun _ => ?_, fun h => absurd h (by decide)⟩
  refine slices_insertionSortOrdered_string_ok _ Sl.nil 0 0 _ ?_
  unfold slices_insertionSortOrdered_string
  refine Lp.mk (fun s v => s = (Sl.nil, (0 : Int), (0 : Int), IntKind.i64.wrap (0 + 1)) ∧ R (.tuple #[]) v) (fun _ _ => 0) ⟨rfl, k⟩ ?_
  rintro _ v ⟨rfl, k⟩ ag2 hag2
  show slices_insertionSortOrdered_string_b0 _ ag2 Sl.nil 0 0 _ _
  unfold slices_insertionSortOrdered_string_b0
  exact ⟨fun h => absurd h (by decide), fun _ => k⟩
/-- slices.Sorted. -/
theorem sorted_string {w : World} {fv : Value} {N : Nat} {G : List ByteArray → Prop} (h : SeqOK Try.prog fv (fun x : ByteArray => #[Value.string x]) N G w) (hN : N < 4398046511104) (hG : ∀ xs, G xs → xs.length ≤ N) (R : Value → World → Prop)
    (k : ∀ (s : Sl) (xs ys : List ByteArray) w', G xs → ys.Perm xs → ys.Pairwise (fun a b => slt b a = false) → Own w' s 9 1 (ys.map Value.string) → Ext w w' → (∀ b, s.blk b → w.heap.size ≤ b) → R s.v w') : CallF Try.prog 95 #[fv] w R := by
  refine slices_Sorted_string_ok R _ w ?_
  unfold slices_Sorted_string
  refine collect_string h hN _ fun s xs w1 hg ho c1 hf => ⟨s, rfl, ?_⟩
  rcases own_sb ho with ⟨rfl, rfl⟩ | ⟨g, c, rest, hs, hsb, hback⟩
  · exact sort_nil_string (k Sl.nil [] [] w1 hg (.refl _) .nil ho c1 hf)
  · have hl := hG xs hg
    have hs' : s.v = (slc g xs.length c).v := by rw [hs]
    have hblk : s.blk g := by rw [hs]; exact ⟨_, rfl, rfl⟩
    rw [hs']
    refine sort_string hsb (by omega) fun d' w2 h2 hp hsrt c2 => ?_
    rw [← hs']
    refine k s xs d'.toList w2 hg (by simpa using hp) (sorted_at h2.size hsrt) (hback w2 d' h2) (c1.step c2 (fun _ _ h => h) fun i hi e => ?_) hf
    have := hf g hblk
    omega
end Go.Proofs
