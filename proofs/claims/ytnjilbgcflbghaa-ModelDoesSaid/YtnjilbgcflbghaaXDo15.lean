/- model: steps with Do, and what lies apart from a model. -/
import Derived.Test.YtnjilbgcflbghaaXPlain15
set_option linter.all false
namespace Go.Proofs
open Go Go.X
/-- A block that is none of a model's. -/
def Apart (a m rv : Nat) (M : Vols) : Prop := a ≠ m ∧ a ≠ rv ∧ a ∉ M.foot
theorem Apart.new {w : World} {m rv a : Nat} {M : Vols} (h : MRep w m rv M) (ha : w.heap.size ≤ a) : Apart a m rv M := by
  refine ⟨?_, ?_, ?_⟩
  · rintro rfl; have := h.lt (.inl rfl); omega
  · rintro rfl; have := h.lt (.inr (.inl rfl)); omega
  · intro hf; have := h.lt (.inr (.inr hf)); omega
/-- A model, all of whose blocks are new. -/
structure Mod (w0 w : World) (m rv : Nat) (M : Vols) : Prop where
  rep : MRep w m rv M
  ext : Ext w0 w
  fresh : ∀ k, k = m ∨ k = rv ∨ k ∈ M.foot → w0.heap.size ≤ k
theorem Mod.extend {w0 w w' : World} {m rv : Nat} {M : Vols} (h : Mod w0 w m rv M) (hc : Ext w w') : Mod w0 w' m rv M := ⟨h.rep.ext hc, h.ext.trans hc, h.fresh⟩
/-- Something else is changed. -/
theorem Mod.other {w0 w w' : World} {m rv a : Nat} {M : Vols} (h : Mod w0 w m rv M) (hc : Ch (· = a) w w') (ha : Apart a m rv M) (h0 : w0.heap.size ≤ a) : Mod w0 w' m rv M :=
  ⟨h.rep.ch hc (fun k hk e => by have e : k = a := e; subst e; rcases hk with hk | hk | hk; exact ha.1 hk; exact ha.2.1 hk; exact ha.2.2 hk), h.ext.step hc (fun _ _ h => h.elim) (fun i hi e => by have e : i = a := e; omega), h.fresh⟩
theorem Mod.apart {w0 w : World} {m rv a : Nat} {M : Vols} (h : Mod w0 w m rv M) (ha : a < w0.heap.size) : Apart a m rv M := by
  refine ⟨?_, ?_, ?_⟩
  · rintro rfl; have := h.fresh _ (.inl rfl); omega
  · rintro rfl; have := h.fresh _ (.inr (.inl rfl)); omega
  · intro hf; have := h.fresh _ (.inr (.inr hf)); omega
theorem do_then {w0 w : World} {m rv : Nat} {M : Vols} {o : OpV} (h : Mod w0 w m rv M) (ho : o.OK) (hn : o.name.size ≤ 100) (hn2 : o.other.size ≤ 100) (hM : M.length < 1000000) {R : Value → World → Prop}
    (k : ∀ w' M' (s : Sl) (ys : List ByteArray), Mod w0 w' m rv M' → M'.st = (doS M.st o).1 → (∀ a, Apart a m rv M → a < w.heap.size → Apart a m rv M') → (∀ a cs e, Apart a m rv M → Blk w a cs e → Blk w' a cs e) → Ch (fun k => k = rv ∨ k ∈ M.foot) w w' →
      (doS M.st o).2.2.2.length = 48 → Own w' s 9 1 (ys.map Value.string) → (∀ b, s.blk b → w.heap.size ≤ b ∧ b ∉ M'.foot) →
      (o.kind = 8 → ys.Perm (M.st.map (·.1)) ∧ ys.Pairwise (fun a b => slt b a = false)) → (o.kind ≠ 8 → ys = [] ∧ s = Sl.nil) →
      R (.agg (ansL (doS M.st o).2.1 (doS M.st o).2.2.1 (doS M.st o).2.2.2 s.v).toArray) w') :
    CallF Try.prog 37 #[.pointer (some ⟨m, 0, none⟩), .agg o.cells] w R := by
  refine (model_Do_spec h.rep ho (by omega) (by omega) (by omega)).mono ?_
  rintro _ w' ⟨M', s, ys, rfl, h1, h2, h3, h4, h5, h6, h7, h8, h9⟩
  refine k w' M' s ys ⟨h1, h.ext.step h3 (fun _ _ h => h.elim) (fun i hi hk => ?_), fun k hk => ?_⟩ h2 ?_ ?_ h3 h5 h6 h7 h8 h9
  · have := h.fresh i (.inr hk); omega
  · rcases hk with hk | hk | hk
    · exact h.fresh k (.inl hk)
    · exact h.fresh k (.inr (.inl hk))
    · rcases h4 k hk with h' | h'
      · exact h.fresh k (.inr (.inr h'))
      · have := h.ext.size; omega
  · rintro a ⟨a1, a2, a3⟩ hlt
    refine ⟨a1, a2, fun hf => ?_⟩
    rcases h4 a hf with h' | h'
    · exact a3 h'
    · omega
  · rintro a cs e ⟨a1, a2, a3⟩ hb
    exact hb.ch h3 (fun hk => hk.elim a2 a3)
theorem OpV.as_ok {o : OpV} (h : o.OK) {k : Int} (hk : -9223372036854775808 ≤ k ∧ k ≤ 9223372036854775807) : (o.as k).OK := ⟨hk, h.number, h.quota, h.block⟩
theorem OpV.as_cells (o : OpV) (k : Int) : o.cells.setIfInBounds 0 (.int .i64 k) = (o.as k).cells := by simp [OpV.cells, OpV.list, OpV.as]
end Go.Proofs
