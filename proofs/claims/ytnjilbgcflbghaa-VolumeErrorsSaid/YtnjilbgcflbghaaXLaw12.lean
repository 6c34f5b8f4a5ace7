/- sporranlaw12: what calls to volumes do; great, speaks. -/
import Derived.Test.YtnjilbgcflbghaaXF0
import Derived.Test.YtnjilbgcflbghaaXSame12
set_option linter.all false
set_option maxHeartbeats 4000000
set_option maxRecDepth 100000
namespace Go.Proofs
open Go Go.X Go.Sort
structure CallV12 where
  what : Int
  name : ByteArray
  other : ByteArray
  number : Int
  quota : Int
  frozen : Bool
  finger : List Nat
structure CallV12.OK (c : CallV12) : Prop where
  what : -9223372036854775808 ≤ c.what ∧ c.what ≤ 9223372036854775807
  number : -9223372036854775808 ≤ c.number ∧ c.number ≤ 9223372036854775807
  quota : -9223372036854775808 ≤ c.quota ∧ c.quota ≤ 9223372036854775807
  finger : c.finger.length = 32
def CallV12.list (c : CallV12) : List Value := .int .i64 c.what :: .string c.name :: .string c.other :: .int .i64 c.number :: .int .i64 c.quota :: .bool c.frozen :: u8s c.finger
def CallV12.cells (c : CallV12) : Array Value := c.list.toArray
theorem CallV12.size {c : CallV12} (h : c.OK) : c.cells.size = 38 := by simp [CallV12.cells, CallV12.list, h.finger]
theorem CallV12.list_len {c : CallV12} (h : c.OK) : c.list.length = 38 := by simp [CallV12.list, h.finger]
theorem CallV12.one (c : CallV12) : ∀ v ∈ c.cells, v.oneCell' = true := by
  intro v hv
  simp only [CallV12.cells, CallV12.list, List.mem_toArray, List.mem_cons] at hv
  rcases hv with rfl | rfl | rfl | rfl | rfl | rfl | hv
  all_goals first | rfl | exact u8s_one _ v hv
theorem CallV12.fin (c : CallV12) (j : Nat) (v : Value) (h : (u8s c.finger)[j]? = some v) : c.cells[6 + j]? = some v := by
  simp only [CallV12.cells, CallV12.list, List.getElem?_toArray]
  rw [show 6 + j = j + 1 + 1 + 1 + 1 + 1 + 1 from by omega]
  simpa using h
def great12 (l : List CallV12) : Bool := decide (60 < l.length) || l.any fun c => decide (100 < c.name.size) || decide (100 < c.other.size)
theorem great12_small {l : List CallV12} (hg : great12 l = false) : l.length ≤ 60 ∧ ∀ q ∈ l, q.name.size ≤ 100 ∧ q.other.size ≤ 100 := by
  simp only [great12, Bool.or_eq_false_iff] at hg
  refine ⟨by simpa using hg.1, fun q hq => ?_⟩
  have := List.any_eq_false.1 hg.2 q hq
  simpa using this
theorem law12_great_spec {w : World} {s : Sl} {l : List CallV12} (hs : Sees w s 38 (l.flatMap CallV12.list)) (hl : ∀ o ∈ l, o.OK) {R : Value → World → Prop} (k : ∀ w', Ext w w' → R (.bool (great12 l)) w') :
    CallF Try.prog 39 #[s.v] w R := by
  refine f39_ok R s w ?_
  unfold f39
  have hlen : ∀ r ∈ l, r.list.length = 38 := fun r hr => CallV12.list_len (hl r hr)
  have hc := hs.count hlen (by decide)
  refine ⟨fun h => ?_, fun h => ?_⟩
  · have h : 60 < l.length := by simp at h; omega
    have := k w (Ch.refl _ _)
    rw [show great12 l = true by simp [great12, h]] at this
    exact this
  have h60 : ¬ 60 < l.length := by simp at h; omega
  have yes : ∀ q ∈ l, (100 < q.name.size ∨ 100 < q.other.size) → great12 l = true := fun q hq h => by
    have : l.any (fun c => decide (100 < c.name.size) || decide (100 < c.other.size)) = true := List.any_eq_true.2 ⟨q, hq, by simpa using h⟩
    simp [great12, this]
  refine Lp.mk (fun q u => ∃ i : Nat, q = (s, (s.len : Int), (i : Int)) ∧ i ≤ l.length ∧ Ext w u ∧ ∀ q ∈ l.take i, ¬(100 < q.name.size ∨ 100 < q.other.size)) (fun q _ => s.len - q.2.2.toNat) ⟨0, rfl, by omega, Ch.refl _ _, by simp⟩ ?_
  rintro _ u ⟨i, rfl, hi, hx, hno⟩ ag hag
  show f39_b0 R ag s s.len i u
  unfold f39_b0
  refine ⟨fun hlt => ?_, fun hge => ?_⟩
  · have hil : i < l.length := by simp at hlt; omega
    have hmem := List.getElem_mem hil
    obtain ⟨a, ha, hsp, hrow, hsz'⟩ := (hs.ext hx).at hlen (by decide) i hil
    refine ⟨a, ha, by simp, by simp; omega, _, _, rfl, hsz', by simpa using hrow, ?_⟩
    refine New.mk fun b u1 hb hsu hblk hext => ?_
    refine StN.all hblk hsz' (CallV12.one l[i]) (by decide) ?_
    intro u2 hblk2 hc2 hz2
    have hxs := hx.size
    have x2 : Ext w u2 := (hx.trans hext).step hc2 (fun _ _ h => h.elim) fun j hj e => by have e : j = b := e; omega
    have next : ∀ t : Bool, t = decide (100 < l[i].name.size ∨ 100 < l[i].other.size) → f39_k1 R ag s s.len i t u2 := fun t ht => by
      unfold f39_k1
      refine ⟨fun h => ?_, fun h => ?_⟩
      · rw [h] at ht
        have := k u2 x2
        rw [yes _ hmem (of_decide_eq_true ht.symm)] at this
        exact this
      · rw [h] at ht
        rw [show IntKind.i64.wrap ((i : Int) + 1) = ((i + 1 : Nat) : Int) by rw [wrap_i64e]; omega]
        refine hag _ _ ⟨i + 1, rfl, by omega, x2, fun q hq => ?_⟩ (by dsimp only; omega)
        rw [List.take_succ_eq_append_getElem hil] at hq
        rcases List.mem_append.1 hq with hq | hq
        · exact hno q hq
        · simp only [List.mem_singleton] at hq; subst hq
          exact of_decide_eq_false ht.symm
    simp only [addr_add, Nat.zero_add]
    refine Ld.blk hblk2 (x := l[i].name) rfl ⟨fun h => ?_, fun h => ?_⟩
    · have h : 100 < l[i].name.size := by simp at h; omega
      exact next true (decide_eq_true (.inl h)).symm
    · have h : ¬ 100 < l[i].name.size := by simp at h; omega
      refine Ld.blk hblk2 (x := l[i].other) rfl (next _ ?_)
      congr 1
      exact propext ⟨fun h' => .inr (by omega), fun h' => by have := h'.resolve_left h; omega⟩
  · have : i = l.length := by simp at hge; omega
    subst this
    rw [List.take_length] at hno
    have hany : l.any (fun c => decide (100 < c.name.size) || decide (100 < c.other.size)) = false := List.any_eq_false.2 fun q hq => by simpa using hno q hq
    have := k u hx
    rw [show great12 l = false by unfold great12; rw [decide_eq_false h60, hany]; rfl] at this
    exact this
/-- A set, all of whose blocks are new. -/
structure VMod (w0 w : World) (s rv : Nat) (M : VMs) : Prop where
  rep : VRep w s rv M
  ext : Ext w0 w
  fresh : ∀ k, k = s ∨ k = rv ∨ k ∈ M.refs → w0.heap.size ≤ k
theorem VMod.extend {w0 w w' : World} {s rv : Nat} {M : VMs} (h : VMod w0 w s rv M) (hc : Ext w w') : VMod w0 w' s rv M := ⟨h.rep.ext hc, h.ext.trans hc, h.fresh⟩
theorem VMod.step {w0 w w' : World} {s rv : Nat} {M M' : VMs} (h : VMod w0 w s rv M) (h' : VRep w' s rv M') (hc : Ch (fun k => k = rv ∨ k ∈ M.refs) w w') (hf : ∀ j ∈ M'.refs, j ∈ M.refs ∨ w.heap.size ≤ j) : VMod w0 w' s rv M' :=
  ⟨h', h.ext.step hc (fun _ _ h => h.elim) (fun j hj hk => by have := h.fresh j (.inr hk); omega), fun k hk => by
    rcases hk with hk | hk | hk
    · exact h.fresh k (.inl hk)
    · exact h.fresh k (.inr (.inl hk))
    · rcases hf k hk with h1 | h1
      · exact h.fresh k (.inr (.inr h1))
      · have := h.ext.size; omega⟩
def dig1 : List Nat := 1 :: List.replicate 31 0
def nameA : ByteArray := ByteArray.mk #[97]
theorem speaks12_a : vCreate [] nameA 1 = ([(nameA, ⟨1, false, []⟩)], 0) := by
  unfold vCreate
  rw [if_neg (by decide)]
  rfl
theorem law12_speaks_spec {w : World} {R : Value → World → Prop} (k : ∀ w', Ext w w' → R (.bool true) w') : CallF Try.prog 38 #[] w R := by
  refine f38_ok R w ?_
  unfold f38
  refine New_spec fun s rv w1 h1 hx1 hs1 hr1 => ⟨_, rfl, ?_⟩
  have m1 : VMod w w1 s rv [] := ⟨h1, hx1, fun k hk => by rcases hk with rfl | rfl | hk; exact hs1; exact hr1; cases hk⟩
  have e1 : vCreate (VMs.st []) nameA 1 = ([(nameA, ⟨1, false, []⟩)], 0) := speaks12_a
  refine Create_spec h1 nameA 1 fun w2 M2 h2 hM2 c2 f2 => ⟨_, rfl, ?_⟩
  have m2 := m1.step h2 c2 f2
  rw [e1] at hM2
  refine ⟨(u8s dig1).toArray, rfl, ?_⟩
  refine Put_spec h2 nameA 0 (d := dig1) rfl fun w3 M3 h3 hM3 c3 f3 => ⟨_, _, _, rfl, ?_⟩
  have m3 := m2.step h3 c3 f3
  have e3 : vPut [(nameA, ⟨1, false, []⟩)] nameA 0 dig1 = ([(nameA, ⟨1, false, [(0, dig1)]⟩)], zeros32, false, 0) := by rfl
  rw [hM2, e3] at hM3
  refine New.mk fun a w4 ha hs4 hb4 hx4 => ?_
  have l3 : (vPut M2.st nameA 0 dig1).2.1.length = 32 := by rw [hM2, e3]; rfl
  refine dg_st hb4 rfl l3 fun w5 hb5 c5 => ?_
  have x35 : Ext w3 w5 := hx4.step c5 (fun _ _ h => h.elim) fun j hj e => by have e : j = a := e; omega
  have m5 := m3.extend x35
  refine ⟨(u8s dig1).toArray, rfl, ?_⟩
  refine Put_spec m5.rep nameA 1 (d := dig1) rfl fun w6 M6 h6 hM6 c6 f6 => ⟨_, _, _, rfl, ?_⟩
  have m6 := m5.step h6 c6 f6
  have e6 : vPut [(nameA, ⟨1, false, [(0, dig1)]⟩)] nameA 1 dig1 = ([(nameA, ⟨1, false, [(0, dig1)]⟩)], zeros32, false, 8) := by rfl
  refine New.mk fun a7 w7 ha7 hs7 hb7 hx7 => ?_
  have l6 : (vPut M3.st nameA 1 dig1).2.1.length = 32 := by rw [hM3, e6]; rfl
  refine dg_st hb7 rfl l6 fun w8 hb8 c8 => ?_
  have x68 : Ext w6 w8 := hx7.step c8 (fun _ _ h => h.elim) fun j hj e => by have e : j = a7 := e; omega
  have fin := k w8 (m6.ext.trans x68)
  rw [e1, hM2, e3, hM3, e6]
  exact ⟨fun _ => ⟨fun _ => fin, fun h => by cases h⟩, fun h => by cases h⟩
end Go.Proofs
