/- What comes in, opened: the cells of an argument that is a struct or an array. -/
import Derived.Test.YtnjilbgcflbghaaXRec
import GoSem.ClaimWide
set_option linter.all false
namespace Go.X
open Go

def CellsOK (P : Program) (W : World) (base : Nat) : List TypeId → List Value → Prop
  | [], [] => True
  | t :: ts, v :: vs => Cell.okWide P W .any base t v ∧ CellsOK P W base ts vs
  | _, _ => False
section
variable {P : Program} {W : World} {base : Nat}
theorem CellsOK.of_all : ∀ (ts : List TypeId) (vs : List Value), vs.length = ts.length → (∀ (i : Nat) (v : Value), vs[i]? = some v → ∃ u, ts[i]? = some u ∧ Cell.okWide P W .any base u v) → CellsOK P W base ts vs
  | [], [], _, _ => trivial
  | [], v :: vs, h, _ => by simp at h
  | t :: ts, [], h, _ => by simp at h
  | t :: ts, v :: vs, h, hc => by
    refine ⟨?_, CellsOK.of_all ts vs (by simpa using h) fun i u hi => ?_⟩
    · obtain ⟨u, hu, hw⟩ := hc 0 v rfl
      simp only [List.getElem?_cons_zero, Option.some.injEq] at hu
      exact hu ▸ hw
    · obtain ⟨u', hu, hw⟩ := hc (i + 1) u (by simpa using hi)
      exact ⟨u', by simpa using hu, hw⟩
theorem CellsOK.of_row {t : TypeId} {cs : Array Value} {ts : List TypeId} (h : Row.okWide P W .any base t cs) (ht : P.cellTypes P.depth t = some ts) (hs : cs.size = ts.length) : CellsOK P W base ts cs.toList := by
  obtain ⟨ts', h1, _, h3⟩ := h
  obtain rfl : ts = ts' := by rw [ht] at h1; exact Option.some.inj h1
  refine CellsOK.of_all ts cs.toList (by simpa using hs) fun i v hv => ?_
  have hi : i < ts.length := by
    have := (List.getElem?_eq_some_iff.1 hv).1
    simp at this
    omega
  obtain ⟨u, hu, hw⟩ := h3 i v (by simpa using hv)
  rw [Nat.mod_eq_of_lt hi] at hu
  exact ⟨u, hu, hw⟩
theorem CellsOK.of_value {t : TypeId} {v : Value} {ts : List TypeId} (h : Value.okWide P W .any base t v) (hd : (match P.underlying t with | some (.struct _) | some (.array _ _) => true | _ => false) = true) (ht : P.cellTypes P.depth t = some ts) (hs : P.cellsOf t = ts.length) :
    ∃ l, v = .agg l.toArray ∧ CellsOK P W base ts l := by
  unfold Value.okWide at h
  split at h
  · obtain ⟨cs, rfl, h1, h2⟩ := h
    exact ⟨cs.toList, rfl, CellsOK.of_row h2 ht (h1.trans hs)⟩
  · obtain ⟨cs, rfl, h1, h2⟩ := h
    exact ⟨cs.toList, rfl, CellsOK.of_row h2 ht (h1.trans hs)⟩
  · rename_i h1 h2
    split at hd
    · rename_i hu; exact absurd hu (h1 _)
    · rename_i hu; exact absurd hu (h2 _ _)
    · cases hd
theorem CellsOK.cons {t : TypeId} {ts : List TypeId} {l : List Value} (h : CellsOK P W base (t :: ts) l) : ∃ v vs, l = v :: vs ∧ Cell.okWide P W .any base t v ∧ CellsOK P W base ts vs := by
  cases l with
  | nil => exact h.elim
  | cons v vs => exact ⟨v, vs, rfl, h.1, h.2⟩
theorem CellsOK.nil {l : List Value} (h : CellsOK P W base [] l) : l = [] := by
  cases l with
  | nil => rfl
  | cons v vs => exact h.elim
theorem cell_int {t : TypeId} {k : IntKind} {v : Value} (ht : P.underlying t = some (.int k)) (h : Cell.okWide P W .any base t v) : ∃ n, v = .int k n ∧ k.has n := by
  unfold Cell.okWide Cell.ok at h
  rw [ht] at h
  cases v <;> simp at h
  obtain ⟨rfl, h⟩ := h
  exact ⟨_, rfl, h⟩
theorem cell_string {t : TypeId} {v : Value} (ht : P.underlying t = some .string) (h : Cell.okWide P W .any base t v) : ∃ s : ByteArray, v = .string s ∧ (s.size : Int) ≤ IntKind.i64.max := by
  unfold Cell.okWide Cell.ok at h
  rw [ht] at h
  cases v <;> simp at h
  exact ⟨_, rfl, h⟩
theorem cell_bool {t : TypeId} {v : Value} (ht : P.underlying t = some .bool) (h : Cell.okWide P W .any base t v) : ∃ b, v = .bool b := by
  unfold Cell.okWide Cell.ok at h
  rw [ht] at h
  cases v <;> simp at h
  exact ⟨_, rfl⟩
theorem cells_u8 {e : TypeId} (he : P.underlying e = some (.int .u8)) : ∀ (n : Nat) (ts : List TypeId) (l : List Value), CellsOK P W base (List.replicate n e ++ ts) l → ∃ bs rest, l = u8s bs ++ rest ∧ bs.length = n ∧ (∀ b ∈ bs, b < 256) ∧ CellsOK P W base ts rest
  | 0, ts, l, h => ⟨[], l, rfl, rfl, by simp, h⟩
  | n + 1, ts, l, h => by
    rw [List.replicate_succ, List.cons_append] at h
    obtain ⟨v, vs, rfl, h1, h2⟩ := CellsOK.cons h
    obtain ⟨m, rfl, hm⟩ := cell_int he h1
    obtain ⟨bs, rest, rfl, h3, h4, h5⟩ := cells_u8 he n ts vs h2
    have h0 : 0 ≤ m ∧ m ≤ 255 := hm
    refine ⟨m.toNat :: bs, rest, ?_, by simp [h3], ?_, h5⟩
    · simp only [u8s_cons, List.cons_append]
      rw [Int.toNat_of_nonneg h0.1]
    · intro b hb
      rcases List.mem_cons.1 hb with rfl | hb
      · omega
      · exact h4 b hb
end
end Go.X
