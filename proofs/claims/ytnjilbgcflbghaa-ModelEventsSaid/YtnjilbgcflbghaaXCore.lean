/- The engine's core: what a function's code comes to, by a stack of code, slots as a function, and laws in continuation style. -/
import Derived.Calls
import Derived.OrdersHeld
set_option linter.all false
namespace Go.X
open Go

/-- Slots. -/
abbrev Env := Nat → Value
def upd (i : Nat) (v : Value) (σ : Env) : Env := fun j => if j = i then v else σ j
def ev (n : Nat) (σ : Env) : Operand → Value
  | .tmp t => if t < n then σ t else undef
  | .const v => v
  | .global g => .pointer (some ⟨g, 0, none⟩)
  | .func f => .func (.func f) #[] #[]
def mkAct (n : Nat) (σ : Env) : Act := { tmps := Array.ofFn (n := n) fun i => σ i, defers := [] }

theorem mkAct_eval (n : Nat) (σ : Env) : (mkAct n σ).eval = ev n σ := by
  funext x
  cases x with
  | tmp t =>
    simp only [Act.eval, mkAct, ev]
    split
    · rename_i h; simp [h]
    · rename_i h; simp [h]
  | _ => rfl

theorem mkAct_put (n : Nat) (σ : Env) (d : Nat) (v : Value) : (mkAct n σ).put (some d) v = mkAct n (upd d v σ) := by
  simp only [Act.put, mkAct, Act.mk.injEq, and_true]
  apply Array.ext
  · simp
  · intro i h1 h2
    simp only [Array.size_setIfInBounds, Array.size_ofFn] at h1
    rw [Array.getElem_setIfInBounds (by simpa using h1)]
    simp only [Array.getElem_ofFn, upd]
    by_cases h : d = i
    · simp [h]
    · simp [h, Ne.symm h]

theorem upd_same {i : Nat} {v : Value} {σ : Env} (h : σ i = v) : upd i v σ = σ := by
  funext j; unfold upd; split
  · rename_i e; rw [e, h]
  · rfl

def setDst (d : Option Nat) (v : Value) (σ : Env) : Env := match d with | some d => upd d v σ | none => σ
theorem mkAct_setDst (n : Nat) (σ : Env) (d : Option Nat) (v : Value) : (mkAct n σ).put d v = mkAct n (setDst d v σ) := by
  cases d with
  | none => rfl
  | some d => exact mkAct_put n σ d v

/-- A call comes to a value. -/
def CallF (P : Program) (f : FuncId) (args : Array Value) (w : World) (K : Value → World → Prop) : Prop :=
  Calls P f args w fun e w' => ∃ v, e = .returned v ∧ K v w'

theorem CallF.mono {P : Program} {f : FuncId} {args : Array Value} {w : World} {K K' : Value → World → Prop} (h : CallF P f args w K) (hk : ∀ v w', K v w' → K' v w') :
    CallF P f args w K' := Calls.mono h fun _ _ ⟨v, he, hv⟩ => ⟨v, he, hk _ _ hv⟩

/-- The rest of a function's run: from this stack, these slots, this world it comes to a value that R takes. -/
def Runs (P : Program) (f : FuncId) (n : Nat) (R : Value → World → Prop) (k : List Item) (σ : Env) (w : World) : Prop :=
  ∀ (cs : List Frame), ∃ v w' fr, R v w' ∧ Steps P (lone (({ (default : Frame) with fn := f, kind := .normal } : Frame).at (mkAct n σ) k) cs w) (lone fr cs w') ∧
    fr.fn = f ∧ fr.leaving P w' (.returned v)

theorem calls_of_runs {P : Program} {f : FuncId} {fn : Func} {c : Code} {args : Array Value} {w : World} {R : Value → World → Prop}
    (hf : P.funcs[f]? = some fn) (hb : fn.body = some c) (hs : args.size ≤ fn.ntmps)
    (h : Runs P f fn.ntmps R [.code c] (fun i => args.getD i undef) w) : CallF P f args w R := by
  intro cs
  obtain ⟨v, w', fr, hR, hst, hfn, hl⟩ := h cs
  refine ⟨.returned v, w', fr, ⟨v, rfl, hR⟩, ?_, hfn, hl⟩
  have henter : Frame.enter P f args .normal = (({ (default : Frame) with fn := f, kind := .normal } : Frame).at (mkAct fn.ntmps fun i => args.getD i undef) [.code c]) := by
    simp only [Frame.enter, Frame.at, hf, hb, mkAct, Option.map_some, Option.getD_some, Option.bind_some, Frame.mk.injEq, true_and, and_true]
    apply Array.ext
    · simp; omega
    · intro i h1 h2
      by_cases hi : i < args.size
      · rw [Array.getElem_append_left hi]; simp [hi]
      · rw [Array.getElem_append_right (by omega)]; simp [hi]
  rw [henter]
  exact hst

section rules
variable {P : Program} {f : FuncId} {n : Nat} {R : Value → World → Prop} {k : List Item} {σ : Env} {w : World}

theorem Runs.step {k' : List Item} {σ' : Env} {w' : World}
    (hs : ∀ (b : Frame) cs, step P (lone (b.at (mkAct n σ) k) cs w) = .next (lone (b.at (mkAct n σ') k') cs w')) (h : Runs P f n R k' σ' w') : Runs P f n R k σ w := by
  intro cs
  obtain ⟨v, w', fr, hR, hst, hl⟩ := h cs
  exact ⟨v, w', fr, hR, .head (hs _ cs) hst, hl⟩

theorem r_skip (h : Runs P f n R k σ w) : Runs P f n R (.code .skip :: k) σ w := h.step fun _ _ => step_skip
theorem r_label {l : Nat} (h : Runs P f n R k σ w) : Runs P f n R (.code (.label l) :: k) σ w := h.step fun _ _ => step_label
theorem r_inBlock {id : Nat} (h : Runs P f n R k σ w) : Runs P f n R (.inBlock id :: k) σ w := h.step fun _ _ => step_inBlock
theorem r_seq {x y : Code} (h : Runs P f n R (.code x :: .code y :: k) σ w) : Runs P f n R (.code (.seq x y) :: k) σ w := h.step fun _ _ => step_seq
theorem r_block {id : Nat} {c : Code} (h : Runs P f n R (.code c :: .inBlock id :: k) σ w) : Runs P f n R (.code (.block id c) :: k) σ w := h.step fun _ _ => step_block
theorem r_exit {id : Nat} {k' : List Item} (hk : exitTo id k = some k') (h : Runs P f n R k' σ w) : Runs P f n R (.code (.exit id) :: k) σ w := h.step fun _ _ => step_exit hk
theorem r_true {c : Operand} {x y : Code} (hc : ev n σ c = .bool true) (h : Runs P f n R (.code x :: k) σ w) : Runs P f n R (.code (.cond c x y) :: k) σ w :=
  h.step fun _ _ => by rw [step_cond (t := true) (by rw [mkAct_eval]; exact hc)]; rfl
theorem r_false {c : Operand} {x y : Code} (hc : ev n σ c = .bool false) (h : Runs P f n R (.code y :: k) σ w) : Runs P f n R (.code (.cond c x y) :: k) σ w :=
  h.step fun _ _ => by rw [step_cond (t := false) (by rw [mkAct_eval]; exact hc)]; rfl
theorem r_cond {c : Operand} {x y : Code} {b : Bool} (hc : ev n σ c = .bool b) (ht : b = true → Runs P f n R (.code x :: k) σ w) (hf : b = false → Runs P f n R (.code y :: k) σ w) :
    Runs P f n R (.code (.cond c x y) :: k) σ w := by
  cases b
  · exact r_false hc (hf rfl)
  · exact r_true hc (ht rfl)
theorem r_loop {c : Code} (h : Runs P f n R (.code c :: .inLoop c :: k) σ w) : Runs P f n R (.code (.loop c) :: k) σ w := h.step fun _ _ => step_loop
theorem r_inLoop {c : Code} (h : Runs P f n R (.code c :: .inLoop c :: k) σ w) : Runs P f n R (.inLoop c :: k) σ w := h.step fun _ _ => step_inLoop

theorem r_ret {fn : Func} {v : Value} (hf : P.funcs[f]? = some fn) (hr : (results fn (mkAct n σ).tmps).run P w = .ok v w) (h : R v w) : Runs P f n R (.code .ret :: k) σ w := fun cs =>
  ⟨v, w, _, h, .one step_ret, rfl, rfl, rfl, rfl, fn, hf, hr⟩
theorem r_end {fn : Func} {v : Value} (hf : P.funcs[f]? = some fn) (hr : (results fn (mkAct n σ).tmps).run P w = .ok v w) (h : R v w) : Runs P f n R [] σ w := fun cs =>
  ⟨v, w, _, h, .one step_end, rfl, rfl, rfl, rfl, fn, hf, hr⟩

theorem r_upd {i : Nat} {v : Value} (hv : σ i = v) (h : Runs P f n R k (upd i v σ) w) : Runs P f n R k σ w := by
  rwa [upd_same hv] at h

theorem tmps_getD (n : Nat) (σ : Env) (t : Nat) (h : t < n) : (mkAct n σ).tmps.getD t undef = σ t := by
  simp [mkAct, h]

/-- What an operation that neither reads nor writes the world leaves in its slot. -/
def PureOp (P : Program) (ρ : Operand → Value) (o : Oper) (v : Value) : Prop := ∀ w, (execOp ρ o).run P w = .ok (.value v) w
/-- What an operation that reads the world leaves in its slot. -/
def ReadOp (P : Program) (ρ : Operand → Value) (o : Oper) (v : Value) (w : World) : Prop := (execOp ρ o).run P w = .ok (.value v) w
/-- What an operation leaves, and the world behind it. -/
def EffOp (P : Program) (ρ : Operand → Value) (o : Oper) (w : World) (K : Value → World → Prop) : Prop :=
  match (execOp ρ o).run P w with
  | .ok (.value v) w' => K v w'
  | .ok .skip w' => K undef w'
  | .ok (.enter g args) w' => CallF P g args w' K
  | _ => False

theorem EffOp.mono {ρ : Operand → Value} {o : Oper} {K K' : Value → World → Prop} (h : EffOp P ρ o w K) (hk : ∀ v w', K v w' → K' v w') : EffOp P ρ o w K' := by
  unfold EffOp at *
  split at h <;> first | exact hk _ _ h | exact CallF.mono h hk | exact h.elim

/-- Behind a region: the rest of the stack. -/
def Fin (P : Program) (f : FuncId) (n : Nat) (R : Value → World → Prop) (k : List Item) : Exit → Act → World → Prop
  | .normal, a, w => ∃ σ, a = mkAct n σ ∧ Runs P f n R k σ w
  | _, _, _ => False

/-- The operations of a region, in the order of a list. -/
def XOps (P : Program) (f : FuncId) (n : Nat) (R : Value → World → Prop) (k : List Item) (ops : Array Oper) (l : List Nat) (σ : Env) (w : World) : Prop :=
  wpOps P ops (Fin P f n R k) l (mkAct n σ) w

theorem runs_of_arrives {m : List Item} {Q : Exit → Act → World → Prop} (h : ∀ (b : Frame) (cs : List Frame), ∃ e a' w', Fin P f n R k e a' w' ∧ Arrives P (lone (b.at (mkAct n σ) m) cs w) b k cs e a' w') :
    Runs P f n R m σ w := by
  intro cs
  obtain ⟨e, a', w', hq, harr⟩ := h { (default : Frame) with fn := f, kind := .normal } cs
  cases e with
  | normal =>
    obtain ⟨σ', rfl, hr⟩ := hq
    obtain ⟨v, w'', fr, hR, hst, hl⟩ := hr cs
    exact ⟨v, w'', fr, hR, Steps.trans harr hst, hl⟩
  | _ => exact hq.elim

/-- The operations of a region, one behind the other. -/
def XL (P : Program) (f : FuncId) (n : Nat) (R : Value → World → Prop) (k : List Item) (ops : Array Oper) (l : List Oper) (σ : Env) (w : World) : Prop :=
  ∀ i, (∀ j o, l[j]? = some o → ops[i + j]? = some o) → XOps P f n R k ops (List.range' i l.length) σ w

theorem r_region {id : Nat} {l : List Oper} (h : XL P f n R k l.toArray l σ w) : Runs P f n R (.code (.region id l.toArray false) :: k) σ w :=
  runs_of_arrives (Q := Fin P f n R k) fun b cs => wp_region (by
    have := h 0 (fun j o ho => by simpa using ho)
    simpa [XOps, List.range_eq_range'] using this) b k cs

theorem xo_end {ops : Array Oper} (h : Runs P f n R k σ w) : XL P f n R k ops [] σ w := fun _ _ => ⟨σ, rfl, h⟩

theorem wanted_none {o : Oper} (hg : o.guard = none) (y : Nat → Option Bool) : Region.wanted o y = true := by simp [Region.wanted, hg]

theorem EffOp.wp {o : Oper} {K : Value → World → Prop} {N : Act → World → Prop} {Q : Exit → Act → World → Prop} {a : Act} (h : EffOp P a.eval o w K) (hn : ∀ v w', K v w' → N (a.put o.dst v) w') :
    o.wp P a w N Q := by
  unfold Oper.wp
  unfold EffOp at h
  cases hr : (execOp a.eval o).run P w with
  | ok x w' =>
    rw [hr] at h
    cases x <;> first | exact hn _ _ h | exact h.elim | skip
    exact Calls.mono h fun e w'' ⟨v, he, hv⟩ => by subst he; exact hn _ _ hv
  | halt x w' => rw [hr] at h; exact h.elim

theorem XL.cons {ops : Array Oper} {o : Oper} {l : List Oper} (h : ∀ i, ops[i]? = some o → (∀ j o', l[j]? = some o' → ops[i + 1 + j]? = some o') → XOps P f n R k ops (i :: List.range' (i + 1) l.length) σ w) : XL P f n R k ops (o :: l) σ w := by
  intro i hi
  simp only [List.length_cons, List.range'_succ]
  exact h i (by simpa using hi 0 o rfl) (fun j o' hj => by have := hi (j + 1) o' (by simpa using hj); rw [← this]; congr 1; omega)

theorem xo_pure {ops : Array Oper} {l : List Oper} {o : Oper} {d : Nat} {v : Value} (hd : o.dst = some d) (hw : Region.wanted o (yielded ops (mkAct n σ).tmps) = true)
    (hp : PureOp P (ev n σ) o v) (h : XL P f n R k ops l (upd d v σ) w) : XL P f n R k ops (o :: l) σ w := .cons fun i ho hl => by
  have h' := h (i + 1) hl
  unfold XOps at *
  simp only [wpOps, ho, hw, if_true]
  refine .inl ?_
  unfold Oper.wp
  rw [mkAct_eval, hp w, Oper.upon_value, mkAct_setDst, hd]
  exact h'

theorem xo_skip {ops : Array Oper} {l : List Oper} {o : Oper} {d : Nat} (hd : o.dst = some d) (hw : Region.wanted o (yielded ops (mkAct n σ).tmps) = false)
    (h : XL P f n R k ops l (upd d undef σ) w) : XL P f n R k ops (o :: l) σ w := .cons fun i ho hl => by
  have h' := h (i + 1) hl
  unfold XOps at *
  simp only [wpOps, ho, hw, Bool.false_eq_true, if_false]
  rw [mkAct_setDst, hd]
  exact h'
theorem xo_skipN {ops : Array Oper} {l : List Oper} {o : Oper} (hd : o.dst = none) (hw : Region.wanted o (yielded ops (mkAct n σ).tmps) = false)
    (h : XL P f n R k ops l σ w) : XL P f n R k ops (o :: l) σ w := .cons fun i ho hl => by
  have h' := h (i + 1) hl
  unfold XOps at *
  simp only [wpOps, ho, hw, Bool.false_eq_true, if_false]
  rw [mkAct_setDst, hd]
  exact h'

theorem xo_eff' {ops : Array Oper} {l : List Oper} {o : Oper} {d : Option Nat} {K : Value → World → Prop} (hd : o.dst = d) (hw : Region.wanted o (yielded ops (mkAct n σ).tmps) = true)
    (hp : EffOp P (ev n σ) o w K) (h : ∀ v w', K v w' → XL P f n R k ops l (setDst d v σ) w') : XL P f n R k ops (o :: l) σ w := .cons fun i ho hl => by
  subst hd
  unfold XOps at *
  simp only [wpOps, ho, hw, if_true]
  refine .inl (EffOp.wp (K := K) (by rw [mkAct_eval]; exact hp) fun v w' hk => ?_)
  rw [mkAct_setDst]
  exact h v w' hk (i + 1) hl
theorem xo_eff {ops : Array Oper} {l : List Oper} {o : Oper} {d : Nat} {K : Value → World → Prop} (hd : o.dst = some d) (hw : Region.wanted o (yielded ops (mkAct n σ).tmps) = true)
    (hp : EffOp P (ev n σ) o w K) (h : ∀ v w', K v w' → XL P f n R k ops l (upd d v σ) w') : XL P f n R k ops (o :: l) σ w := xo_eff' hd hw hp h
theorem xo_effN {ops : Array Oper} {l : List Oper} {o : Oper} {K : Value → World → Prop} (hd : o.dst = none) (hw : Region.wanted o (yielded ops (mkAct n σ).tmps) = true)
    (hp : EffOp P (ev n σ) o w K) (h : ∀ v w', K v w' → XL P f n R k ops l σ w') : XL P f n R k ops (o :: l) σ w := xo_eff' hd hw hp h

/-- A read keeps the world. -/
theorem xo_read {ops : Array Oper} {l : List Oper} {o : Oper} {d : Nat} {v : Value} (hd : o.dst = some d) (hw : Region.wanted o (yielded ops (mkAct n σ).tmps) = true)
    (hp : ReadOp P (ev n σ) o v w) (h : XL P f n R k ops l (upd d v σ) w) : XL P f n R k ops (o :: l) σ w := .cons fun i ho hl => by
  have h' := h (i + 1) hl
  unfold XOps at *
  simp only [wpOps, ho, hw, if_true]
  refine .inl ?_
  unfold Oper.wp
  rw [mkAct_eval, hp, Oper.upon_value, mkAct_setDst, hd]
  exact h'

end rules
end Go.X
