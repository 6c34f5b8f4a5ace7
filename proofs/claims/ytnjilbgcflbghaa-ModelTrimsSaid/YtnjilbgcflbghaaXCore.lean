/- The engine's core: what a function's code comes to, by a stack of code, slots as a function, and laws in continuation style. -/
import Derived.Calls
import Derived.OrdersHeld
import Derived.AtR
import Derived.RangeFuncLeaves
import Derived.RangeFuncRecord
set_option linter.all false
namespace Go.X
open Go

/-- Slots. -/
abbrev Env := Nat → Value
def upd (i : Nat) (v : Value) (σ : Env) : Env := fun j => if j = i then v else σ j
def ev (n : Nat) (σ : Env) : Operand → Value
  | .tmp t => if t < n then σ t else undef
  | .const v => v
  | .global g => .pointer (some ⟨g, 0, none⟩)
  | .func f => .func (.func f) #[] #[]
def mkAct (n : Nat) (σ : Env) : Act := { tmps := Array.ofFn (n := n) fun i => σ i, defers := [] }

theorem mkAct_eval (n : Nat) (σ : Env) : (mkAct n σ).eval = ev n σ := by
  funext x
  cases x with
  | tmp t =>
    simp only [Act.eval, mkAct, ev]
    split
    · rename_i h; simp [h]
    · rename_i h; simp [h]
  | _ => rfl

theorem mkAct_put (n : Nat) (σ : Env) (d : Nat) (v : Value) : (mkAct n σ).put (some d) v = mkAct n (upd d v σ) := by
  simp only [Act.put, mkAct, Act.mk.injEq, and_true]
  apply Array.ext
  · simp
  · intro i h1 h2
    simp only [Array.size_setIfInBounds, Array.size_ofFn] at h1
    rw [Array.getElem_setIfInBounds (by simpa using h1)]
    simp only [Array.getElem_ofFn, upd]
    by_cases h : d = i
    · simp [h]
    · simp [h, Ne.symm h]

theorem upd_same {i : Nat} {v : Value} {σ : Env} (h : σ i = v) : upd i v σ = σ := by
  funext j; unfold upd; split
  · rename_i e; rw [e, h]
  · rfl

def setDst (d : Option Nat) (v : Value) (σ : Env) : Env := match d with | some d => upd d v σ | none => σ
theorem mkAct_setDst (n : Nat) (σ : Env) (d : Option Nat) (v : Value) : (mkAct n σ).put d v = mkAct n (setDst d v σ) := by
  cases d with
  | none => rfl
  | some d => exact mkAct_put n σ d v

/-- A call comes to a value. -/
def CallF (P : Program) (f : FuncId) (args : Array Value) (w : World) (K : Value → World → Prop) : Prop :=
  Calls P f args w fun e w' => ∃ v, e = .returned v ∧ K v w'

theorem CallF.mono {P : Program} {f : FuncId} {args : Array Value} {w : World} {K K' : Value → World → Prop} (h : CallF P f args w K) (hk : ∀ v w', K v w' → K' v w') :
    CallF P f args w K' := Calls.mono h fun _ _ ⟨v, he, hv⟩ => ⟨v, he, hk _ _ hv⟩

/-- A frame: of which function, and of which loop's round, if of one. -/
structure Fr where
  fn : FuncId
  ro : Option Nat
  ds : List Nat
instance (n : Nat) : OfNat Fr n := ⟨⟨n, none, []⟩⟩
/-- The blocks of the loops' deferred calls. -/
def Fr.marks (f : Fr) : List Deferred := f.ds.map fun r => { target := .collected r, args := #[] }
def Fr.act (f : Fr) (n : Nat) (σ : Env) : Act := { mkAct n σ with defers := f.marks }
theorem act_eval (f : Fr) (n : Nat) (σ : Env) : (f.act n σ).eval = ev n σ := by
  rw [← mkAct_eval n σ]; funext x; cases x <;> rfl
theorem act_setDst (f : Fr) (n : Nat) (σ : Env) (d : Option Nat) (v : Value) : (f.act n σ).put d v = f.act n (setDst d v σ) := by
  have h := mkAct_setDst n σ d v
  have e : (f.act n σ).put d v = { (mkAct n σ).put d v with defers := f.marks } := by cases d <;> rfl
  rw [e, h]; rfl
theorem Fr.act_nil {f : Fr} (h : f.ds = []) (n : Nat) (σ : Env) : f.act n σ = mkAct n σ := by
  simp [Fr.act, Fr.marks, h, mkAct]
def Fr.frame (f : Fr) : Frame := { (default : Frame) with fn := f.fn, kind := .normal, roundOf := f.ro }
/-- How a frame ends: a function's by its return, a round's by yield's answer. -/
def Ends (P : Program) (f : Fr) (R : Value → World → Prop) (m : List Frame → Machine) : Prop :=
  match f.ro with
  | none => ∀ cs, ∃ v w' fr, R v w' ∧ Steps P (m cs) (lone fr cs w') ∧ fr.fn = f.fn ∧ fr.leaving P w' (.returned v)
  | some _ => ∀ c cs, ∃ v w', R v w' ∧ Steps P (m (c :: cs)) (lone (c.finish v) cs w')
/-- The rest of a function's run: from this stack, these slots, this world it comes to a value that R takes. -/
def Runs (P : Program) (f : Fr) (n : Nat) (R : Value → World → Prop) (k : List Item) (σ : Env) (w : World) : Prop :=
  Ends P f R fun cs => lone (f.frame.atR (f.act n σ) k) cs w

theorem Ends.steps {P : Program} {f : Fr} {R : Value → World → Prop} {m m' : List Frame → Machine} (h : Ends P f R m') (hs : ∀ cs, Steps P (m cs) (m' cs)) : Ends P f R m := by
  unfold Ends at *
  split
  · rename_i hr
    rw [hr] at h
    intro cs
    obtain ⟨v, w', fr, hR, hst, hl⟩ := h cs
    exact ⟨v, w', fr, hR, (hs cs).trans hst, hl⟩
  · rename_i hr
    rw [hr] at h
    intro c cs
    obtain ⟨v, w', hR, hst⟩ := h c cs
    exact ⟨v, w', hR, (hs _).trans hst⟩

theorem calls_of_runs {P : Program} {f : FuncId} {fn : Func} {c : Code} {args : Array Value} {w : World} {R : Value → World → Prop}
    (hf : P.funcs[f]? = some fn) (hb : fn.body = some c) (hs : args.size ≤ fn.ntmps)
    (h : Runs P ⟨f, none, []⟩ fn.ntmps R [.code c] (fun i => args.getD i undef) w) : CallF P f args w R := by
  intro cs
  obtain ⟨v, w', fr, hR, hst, hfn, hl⟩ := h cs
  refine ⟨.returned v, w', fr, ⟨v, rfl, hR⟩, ?_, hfn, hl⟩
  have henter : Frame.enter P f args .normal = ((⟨f, none, []⟩ : Fr).frame.atR ((⟨f, none, []⟩ : Fr).act fn.ntmps fun i => args.getD i undef) [.code c]) := by
    simp only [Frame.enter, Frame.atR, Fr.frame, Fr.act, Fr.marks, List.map_nil, hf, hb, mkAct, Option.map_some, Option.getD_some, Option.bind_some, Frame.mk.injEq, true_and, and_true]
    apply Array.ext
    · simp; omega
    · intro i h1 h2
      by_cases hi : i < args.size
      · rw [Array.getElem_append_left hi]; simp [hi]
      · rw [Array.getElem_append_right (by omega)]; simp [hi]
  rw [henter]
  exact hst

section rules
variable {P : Program} {f : Fr} {n : Nat} {R : Value → World → Prop} {k : List Item} {σ : Env} {w : World}

theorem Runs.step {k' : List Item} {σ' : Env} {w' : World}
    (hs : ∀ (b : Frame) cs, step P (lone (b.atR (f.act n σ) k) cs w) = .next (lone (b.atR (f.act n σ') k') cs w')) (h : Runs P f n R k' σ' w') : Runs P f n R k σ w :=
  Ends.steps h fun cs => .one (hs _ cs)
theorem r_skip (h : Runs P f n R k σ w) : Runs P f n R (.code .skip :: k) σ w := h.step fun _ _ => stepR_skip
theorem r_label {l : Nat} (h : Runs P f n R k σ w) : Runs P f n R (.code (.label l) :: k) σ w := h.step fun _ _ => stepR_label
theorem r_inBlock {id : Nat} (h : Runs P f n R k σ w) : Runs P f n R (.inBlock id :: k) σ w := h.step fun _ _ => stepR_inBlock
theorem r_seq {x y : Code} (h : Runs P f n R (.code x :: .code y :: k) σ w) : Runs P f n R (.code (.seq x y) :: k) σ w := h.step fun _ _ => stepR_seq
theorem r_block {id : Nat} {c : Code} (h : Runs P f n R (.code c :: .inBlock id :: k) σ w) : Runs P f n R (.code (.block id c) :: k) σ w := h.step fun _ _ => stepR_block
theorem r_exit {id : Nat} {k' : List Item} (hk : exitTo id k = some k') (h : Runs P f n R k' σ w) : Runs P f n R (.code (.exit id) :: k) σ w := h.step fun _ _ => stepR_exit hk
theorem r_true {c : Operand} {x y : Code} (hc : ev n σ c = .bool true) (h : Runs P f n R (.code x :: k) σ w) : Runs P f n R (.code (.cond c x y) :: k) σ w :=
  h.step fun _ _ => by rw [stepR_cond (t := true) (by rw [act_eval]; exact hc)]; rfl
theorem r_false {c : Operand} {x y : Code} (hc : ev n σ c = .bool false) (h : Runs P f n R (.code y :: k) σ w) : Runs P f n R (.code (.cond c x y) :: k) σ w :=
  h.step fun _ _ => by rw [stepR_cond (t := false) (by rw [act_eval]; exact hc)]; rfl
theorem r_cond {c : Operand} {x y : Code} {b : Bool} (hc : ev n σ c = .bool b) (ht : b = true → Runs P f n R (.code x :: k) σ w) (hf : b = false → Runs P f n R (.code y :: k) σ w) :
    Runs P f n R (.code (.cond c x y) :: k) σ w := by
  cases b
  · exact r_false hc (hf rfl)
  · exact r_true hc (ht rfl)
theorem r_loop {c : Code} (h : Runs P f n R (.code c :: .inLoop c :: k) σ w) : Runs P f n R (.code (.loop c) :: k) σ w := h.step fun _ _ => stepR_loop
theorem r_inLoop {c : Code} (h : Runs P f n R (.code c :: .inLoop c :: k) σ w) : Runs P f n R (.inLoop c :: k) σ w := h.step fun _ _ => stepR_inLoop

/-- The marks of the loops among the deferred calls are taken, at the return. -/
def UndL : List Nat → World → (World → Prop) → Prop
  | [], w, K => K w
  | r :: ds, w, K => w.heap[r]? = some (.deferred (some [])) ∧ UndL ds (w.putObj r (.deferred none)) K
theorem steps_und {fn : FuncId} {tm : Array Value} {td : List Item} {w' : World} {K : World → Prop} : ∀ (ds : List Nat) (w : World) (_ : UndL ds w K), ∃ w', K w' ∧ ∀ cs,
    Steps P (lone ({ fn := fn, tmps := tm, todo := td, defers := ds.map fun r => { target := .collected r, args := #[] }, mode := .returning, kind := .normal, roundOf := none } : Frame) cs w)
      (lone ({ fn := fn, tmps := tm, todo := td, defers := [], mode := .returning, kind := .normal, roundOf := none } : Frame) cs w')
  | [], w, h => ⟨w, h, fun _ => .refl _ _⟩
  | r :: ds, w, h => by
    obtain ⟨w', hK, hs⟩ := steps_und (fn := fn) (tm := tm) (td := td) (w' := w') ds _ h.2
    exact ⟨w', hK, fun cs => .head (step_collected (fr := { fn := fn, tmps := tm, todo := td, defers := (r :: ds).map fun r => { target := .collected r, args := #[] }, mode := .returning, kind := .normal, roundOf := none }) (by simp) rfl rfl (run_takeDeferred h.1)) (hs cs)⟩
theorem r_retL {fn : Func} (hf : P.funcs[f.fn]? = some fn) (h : UndL f.ds w fun w' => ∃ v, (results fn (mkAct n σ).tmps).run P w' = .ok v w' ∧ R v w') (hro : f.ro = none := by rfl) : Runs P f n R (.code .ret :: k) σ w := by
  unfold Runs Ends
  rw [hro]
  obtain ⟨w', ⟨v, hr, hR⟩, hs⟩ := steps_und (P := P) (fn := f.fn) (tm := (mkAct n σ).tmps) (td := .code .ret :: k) (w' := w) f.ds w h
  refine fun cs => ⟨v, w', { fn := f.fn, tmps := (mkAct n σ).tmps, todo := .code .ret :: k, defers := [], mode := .returning, kind := .normal, roundOf := none }, hR, .head (stepR_ret hro) ?_, rfl, rfl, rfl, rfl, fn, hf, hr⟩
  have := hs cs
  simpa only [Frame.atR, Fr.frame, Fr.act, Fr.marks, hro] using this
theorem r_endL {fn : Func} (hf : P.funcs[f.fn]? = some fn) (h : UndL f.ds w fun w' => ∃ v, (results fn (mkAct n σ).tmps).run P w' = .ok v w' ∧ R v w') (hro : f.ro = none := by rfl) : Runs P f n R [] σ w := by
  unfold Runs Ends
  rw [hro]
  obtain ⟨w', ⟨v, hr, hR⟩, hs⟩ := steps_und (P := P) (fn := f.fn) (tm := (mkAct n σ).tmps) (td := []) (w' := w) f.ds w h
  refine fun cs => ⟨v, w', { fn := f.fn, tmps := (mkAct n σ).tmps, todo := [], defers := [], mode := .returning, kind := .normal, roundOf := none }, hR, .head (stepR_end hro) ?_, rfl, rfl, rfl, rfl, fn, hf, hr⟩
  have := hs cs
  simpa only [Frame.atR, Fr.frame, Fr.act, Fr.marks, hro] using this
theorem r_ret {fn : Func} {v : Value} (hf : P.funcs[f.fn]? = some fn) (hr : (results fn (mkAct n σ).tmps).run P w = .ok v w) (h : R v w) (hro : f.ro = none := by rfl) (hds : f.ds = [] := by rfl) : Runs P f n R (.code .ret :: k) σ w :=
  r_retL hf (by rw [hds]; exact ⟨v, hr, h⟩) hro
theorem r_end {fn : Func} {v : Value} (hf : P.funcs[f.fn]? = some fn) (hr : (results fn (mkAct n σ).tmps).run P w = .ok v w) (h : R v w) (hro : f.ro = none := by rfl) (hds : f.ds = [] := by rfl) : Runs P f n R [] σ w :=
  r_endL hf (by rw [hds]; exact ⟨v, hr, h⟩) hro
/-- The mark of the one loop is taken. -/
def Und (r : Nat) (w : World) (K : World → Prop) : Prop := w.heap[r]? = some (.deferred (some [])) ∧ K (w.putObj r (.deferred none))
theorem r_ret1 {fn : Func} {r : Nat} {w' : World} {v : Value} (hf : P.funcs[f.fn]? = some fn) (hr : (results fn (mkAct n σ).tmps).run P w' = .ok v w') (h : R v w') (hu : w.heap[r]? = some (.deferred (some []))) (hw : w' = w.putObj r (.deferred none)) (hro : f.ro = none := by rfl) (hds : f.ds = [r] := by rfl) : Runs P f n R (.code .ret :: k) σ w :=
  r_retL hf (by rw [hds]; subst hw; exact ⟨hu, v, hr, h⟩) hro
theorem r_end1 {fn : Func} {r : Nat} {w' : World} {v : Value} (hf : P.funcs[f.fn]? = some fn) (hr : (results fn (mkAct n σ).tmps).run P w' = .ok v w') (h : R v w') (hu : w.heap[r]? = some (.deferred (some []))) (hw : w' = w.putObj r (.deferred none)) (hro : f.ro = none := by rfl) (hds : f.ds = [r] := by rfl) : Runs P f n R [] σ w :=
  r_endL hf (by rw [hds]; subst hw; exact ⟨hu, v, hr, h⟩) hro

theorem r_upd {i : Nat} {v : Value} (hv : σ i = v) (h : Runs P f n R k (upd i v σ) w) : Runs P f n R k σ w := by
  rwa [upd_same hv] at h

theorem tmps_getD (n : Nat) (σ : Env) (t : Nat) (h : t < n) : (mkAct n σ).tmps.getD t undef = σ t := by
  simp [mkAct, h]

/-- What an operation that neither reads nor writes the world leaves in its slot. -/
def PureOp (P : Program) (ρ : Operand → Value) (o : Oper) (v : Value) : Prop := ∀ w, (execOp ρ o).run P w = .ok (.value v) w
/-- What an operation that reads the world leaves in its slot. -/
def ReadOp (P : Program) (ρ : Operand → Value) (o : Oper) (v : Value) (w : World) : Prop := (execOp ρ o).run P w = .ok (.value v) w
/-- A call of yield comes to a value: the round is walked. -/
def RoundF (P : Program) (l : Nat) (g : FuncId) (tmps : Array Value) (asg body : Code) (w : World) (K : Value → World → Prop) : Prop :=
  ∀ c cs, ∃ v w', K v w' ∧ Steps P (lone (Frame.round l g tmps asg body .normal) (c :: cs) w) (lone (c.finish v) cs w')
theorem RoundF.mono {l : Nat} {g : FuncId} {tmps : Array Value} {asg body : Code} {K K' : Value → World → Prop} (h : RoundF P l g tmps asg body w K) (hk : ∀ v w', K v w' → K' v w') : RoundF P l g tmps asg body w K' := fun c cs => by
  obtain ⟨v, w', h1, h2⟩ := h c cs
  exact ⟨v, w', hk _ _ h1, h2⟩
/-- What an operation leaves, and the world behind it. -/
def EffOp (P : Program) (ρ : Operand → Value) (o : Oper) (w : World) (K : Value → World → Prop) : Prop :=
  match (execOp ρ o).run P w with
  | .ok (.value v) w' => K v w'
  | .ok .skip w' => K undef w'
  | .ok (.enter g args) w' => CallF P g args w' K
  | .ok (.round l g tmps asg body) w' => RoundF P l g tmps asg body w' K
  | _ => False

theorem EffOp.mono {ρ : Operand → Value} {o : Oper} {K K' : Value → World → Prop} (h : EffOp P ρ o w K) (hk : ∀ v w', K v w' → K' v w') : EffOp P ρ o w K' := by
  unfold EffOp at *
  split at h <;> first | exact hk _ _ h | exact CallF.mono h hk | exact RoundF.mono h hk | exact h.elim
theorem EffOp.no_defer {ρ : Operand → Value} {o : Oper} {K : Value → World → Prop} (h : EffOp P ρ o w K) : ∀ c, o.op ≠ .defer c := by
  intro c hc
  unfold EffOp at h
  simp only [execOp, hc, Sem.run_bind] at h
  cases hr : (resolve ρ c o.type).run P w with
  | ok d w' => rw [hr] at h; simp at h
  | halt x w' => rw [hr] at h; simp at h

/-- The rest of a run, from an act. -/
def RunsA (P : Program) (f : Fr) (R : Value → World → Prop) (k : List Item) (a : Act) (w : World) : Prop := Ends P f R fun cs => lone (f.frame.atR a k) cs w
/-- One operation of a region. -/
def opW (P : Program) (ops : Array Oper) (i : Nat) (K : Act → World → Prop) (a : Act) (w : World) : Prop :=
  match ops[i]? with
  | none => K a w
  | some o => if Region.wanted o (yielded ops a.tmps) then EffOp P a.eval o w (fun v w' => K (a.put o.dst v) w') else K (a.put o.dst undef) w
theorem opW_mono {ops : Array Oper} {i : Nat} {K K' : Act → World → Prop} {a : Act} (hk : ∀ a w, K a w → K' a w) (h : opW P ops i K a w) : opW P ops i K' a w := by
  unfold opW at *
  split at h
  · exact hk _ _ h
  · split at h
    · rename_i hw; rw [if_pos hw]; exact h.mono fun _ _ => hk _ _
    · rename_i hw; rw [if_neg hw]; exact hk _ _ h

theorem runs_op {ops : Array Oper} {i : Nat} {rest : List Nat} {a : Act} (h : opW P ops i (RunsA P f R (.inRegion ops rest :: k)) a w) : RunsA P f R (.inRegion ops (i :: rest) :: k) a w := by
  unfold opW at h
  cases ho : ops[i]? with
  | none =>
    rw [ho] at h
    refine Ends.steps h fun cs => .one ?_
    have hs := stepR_op_skip (P := P) (b := f.frame) (a := a) (k := k) (cs := cs) (w := w) (ops := ops) (i := i) (rest := rest) (by simp [ho])
    simpa only [ho, Option.bind_none, Act.put] using hs
  | some o =>
    rw [ho] at h
    simp only [] at h
    by_cases hw : Region.wanted o (yielded ops a.tmps) = true
    · rw [if_pos hw] at h
      have hsem : o.semAt f.frame.roundOf a.eval = execOp a.eval o := Oper.semAt_eq _ _ _ h.no_defer
      have hg := fun cs => stepGR_op (P := P) (b := f.frame) (k := k) (cs := cs) (w := w) (rest := rest) ho hw
      have hfin : ∀ v, (f.frame.atR a (.inRegion ops (i :: rest) :: k)).finish v = f.frame.atR (a.put o.dst v) (.inRegion ops rest :: k) := by
        intro v; rw [Frame.finish_atR, ho]; rfl
      unfold EffOp at h
      cases hr : (execOp a.eval o).run P w with
      | halt x w' => rw [hr] at h; exact h.elim
      | ok x w' =>
        rw [hr] at h
        cases x <;> try exact h.elim
        case value v =>
          refine Ends.steps h fun cs => .one (step_lone_go ?_)
          rw [hg, hsem, ← hfin]; simp [stepG.apply, hr]
        case skip =>
          refine Ends.steps h fun cs => .one (step_lone_go ?_)
          rw [hg, hsem, ← hfin]; simp [stepG.apply, hr]
        case enter g args =>
          have henter : ∀ cs, step P (lone (f.frame.atR a (.inRegion ops (i :: rest) :: k)) cs w) = .next (lone (Frame.enter P g args .normal) (f.frame.atR a (.inRegion ops (i :: rest) :: k) :: cs) w') := fun cs =>
            step_lone_go (by rw [hg, hsem]; simp [stepG.apply, hr, Frame.atR])
          have hgo : ∀ cs, ∃ v w'', RunsA P f R (.inRegion ops rest :: k) (a.put o.dst v) w'' ∧ Steps P (lone (f.frame.atR a (.inRegion ops (i :: rest) :: k)) cs w) (lone (f.frame.atR (a.put o.dst v) (.inRegion ops rest :: k)) cs w'') := by
            intro cs
            obtain ⟨e, w'', fr, ⟨v, rfl, hR⟩, hsteps, _, hleave⟩ := h (f.frame.atR a (.inRegion ops (i :: rest) :: k) :: cs)
            refine ⟨v, w'', hR, .head (henter cs) (Steps.trans hsteps (.one ?_))⟩
            rw [← hfin]; exact step_leave_returned hleave
          unfold RunsA Ends at *
          split
          · rename_i hro
            intro cs
            obtain ⟨v, w'', hR, hst⟩ := hgo cs
            simp only [hro] at hR
            obtain ⟨v', w3, fr, h1, h2, h3⟩ := hR cs
            exact ⟨v', w3, fr, h1, hst.trans h2, h3⟩
          · rename_i hro
            intro c cs
            obtain ⟨v, w'', hR, hst⟩ := hgo (c :: cs)
            simp only [hro] at hR
            obtain ⟨v', w3, h1, h2⟩ := hR c cs
            exact ⟨v', w3, h1, hst.trans h2⟩
        case round l g tmps asg body =>
          have henter : ∀ cs, step P (lone (f.frame.atR a (.inRegion ops (i :: rest) :: k)) cs w) = .next (lone (Frame.round l g tmps asg body .normal) (f.frame.atR a (.inRegion ops (i :: rest) :: k) :: cs) w') := fun cs =>
            step_lone_go (by rw [hg, hsem]; simp [stepG.apply, hr])
          have hgo : ∀ cs, ∃ v w'', RunsA P f R (.inRegion ops rest :: k) (a.put o.dst v) w'' ∧ Steps P (lone (f.frame.atR a (.inRegion ops (i :: rest) :: k)) cs w) (lone (f.frame.atR (a.put o.dst v) (.inRegion ops rest :: k)) cs w'') := by
            intro cs
            obtain ⟨v, w'', hR, hsteps⟩ := h (f.frame.atR a (.inRegion ops (i :: rest) :: k)) cs
            refine ⟨v, w'', hR, .head (henter cs) ?_⟩
            rw [← hfin]; exact hsteps
          unfold RunsA Ends at *
          split
          · rename_i hro
            intro cs
            obtain ⟨v, w'', hR, hst⟩ := hgo cs
            simp only [hro] at hR
            obtain ⟨v', w3, fr, h1, h2, h3⟩ := hR cs
            exact ⟨v', w3, fr, h1, hst.trans h2, h3⟩
          · rename_i hro
            intro c cs
            obtain ⟨v, w'', hR, hst⟩ := hgo (c :: cs)
            simp only [hro] at hR
            obtain ⟨v', w3, h1, h2⟩ := hR c cs
            exact ⟨v', w3, h1, hst.trans h2⟩
    · rw [if_neg hw] at h
      refine Ends.steps h fun cs => .one ?_
      have hs := stepR_op_skip (P := P) (b := f.frame) (a := a) (k := k) (cs := cs) (w := w) (ops := ops) (i := i) (rest := rest) (by simp [ho]; simpa using hw)
      simpa only [ho, Option.bind_some] using hs

/-- The operations of a region, in the order of a list. -/
def XOps (P : Program) (f : Fr) (n : Nat) (R : Value → World → Prop) (k : List Item) (ops : Array Oper) (l : List Nat) (σ : Env) (w : World) : Prop := RunsA P f R (.inRegion ops l :: k) (f.act n σ) w
/-- The operations of a region, one behind the other. -/
def XL (P : Program) (f : Fr) (n : Nat) (R : Value → World → Prop) (k : List Item) (ops : Array Oper) (l : List Oper) (σ : Env) (w : World) : Prop :=
  ∀ i, (∀ j o, l[j]? = some o → ops[i + j]? = some o) → XOps P f n R k ops (List.range' i l.length) σ w

theorem r_region {id : Nat} {l : List Oper} (h : XL P f n R k l.toArray l σ w) : Runs P f n R (.code (.region id l.toArray false) :: k) σ w := by
  have := h 0 (fun j o ho => by simpa using ho)
  refine Ends.steps (m' := fun cs => lone (f.frame.atR (f.act n σ) (.inRegion l.toArray (List.range l.toArray.size) :: k)) cs w) ?_ fun cs => .one stepR_region
  simpa [XOps, RunsA, List.range_eq_range'] using this

theorem xo_end {ops : Array Oper} (h : Runs P f n R k σ w) : XL P f n R k ops [] σ w := fun _ _ => Ends.steps h fun _ => .one stepR_region_end

theorem wanted_none {o : Oper} (hg : o.guard = none) (y : Nat → Option Bool) : Region.wanted o y = true := by simp [Region.wanted, hg]

theorem XL.cons {ops : Array Oper} {o : Oper} {l : List Oper} (h : ∀ i, ops[i]? = some o → (∀ j o', l[j]? = some o' → ops[i + 1 + j]? = some o') → opW P ops i (RunsA P f R (.inRegion ops (List.range' (i + 1) l.length) :: k)) (f.act n σ) w) : XL P f n R k ops (o :: l) σ w := by
  intro i hi
  simp only [List.length_cons, List.range'_succ]
  exact runs_op (h i (by simpa using hi 0 o rfl) (fun j o' hj => by have := hi (j + 1) o' (by simpa using hj); rw [← this]; congr 1; omega))

theorem EffOp.pure {ρ : Operand → Value} {o : Oper} {v : Value} {K : Value → World → Prop} (hp : PureOp P ρ o v) (h : K v w) : EffOp P ρ o w K := by
  unfold EffOp; rw [hp w]; exact h
theorem EffOp.read {ρ : Operand → Value} {o : Oper} {v : Value} {K : Value → World → Prop} (hp : ReadOp P ρ o v w) (h : K v w) : EffOp P ρ o w K := by
  unfold EffOp; rw [hp]; exact h
theorem opW_yes {ops : Array Oper} {i : Nat} {o : Oper} {K : Act → World → Prop} {a : Act} (ho : ops[i]? = some o) (hw : Region.wanted o (yielded ops a.tmps) = true) (h : EffOp P a.eval o w fun v w' => K (a.put o.dst v) w') : opW P ops i K a w := by
  unfold opW; rw [ho]; simp only []; rw [if_pos hw]; exact h
theorem opW_no {ops : Array Oper} {i : Nat} {o : Oper} {K : Act → World → Prop} {a : Act} (ho : ops[i]? = some o) (hw : Region.wanted o (yielded ops a.tmps) = false) (h : K (a.put o.dst undef) w) : opW P ops i K a w := by
  unfold opW; rw [ho]; simp only []; rw [if_neg (by simp [hw])]; exact h

theorem xo_skip' {ops : Array Oper} {l : List Oper} {o : Oper} {d : Option Nat} (hd : o.dst = d) (hw : Region.wanted o (yielded ops (mkAct n σ).tmps) = false)
    (h : XL P f n R k ops l (setDst d undef σ) w) : XL P f n R k ops (o :: l) σ w := .cons fun i ho hl => opW_no ho hw (by
  have h' := h (i + 1) hl
  rw [act_setDst, hd]
  exact h')
theorem xo_skip {ops : Array Oper} {l : List Oper} {o : Oper} {d : Nat} (hd : o.dst = some d) (hw : Region.wanted o (yielded ops (mkAct n σ).tmps) = false)
    (h : XL P f n R k ops l (upd d undef σ) w) : XL P f n R k ops (o :: l) σ w := xo_skip' hd hw h
theorem xo_skipN {ops : Array Oper} {l : List Oper} {o : Oper} (hd : o.dst = none) (hw : Region.wanted o (yielded ops (mkAct n σ).tmps) = false)
    (h : XL P f n R k ops l σ w) : XL P f n R k ops (o :: l) σ w := xo_skip' hd hw h
theorem xo_eff' {ops : Array Oper} {l : List Oper} {o : Oper} {d : Option Nat} {K : Value → World → Prop} (hd : o.dst = d) (hw : Region.wanted o (yielded ops (mkAct n σ).tmps) = true)
    (hp : EffOp P (ev n σ) o w K) (h : ∀ v w', K v w' → XL P f n R k ops l (setDst d v σ) w') : XL P f n R k ops (o :: l) σ w := .cons fun i ho hl => opW_yes ho hw (by
  rw [act_eval]
  refine hp.mono fun v w' hk => ?_
  rw [act_setDst, hd]
  exact h v w' hk (i + 1) hl)
theorem xo_eff {ops : Array Oper} {l : List Oper} {o : Oper} {d : Nat} {K : Value → World → Prop} (hd : o.dst = some d) (hw : Region.wanted o (yielded ops (mkAct n σ).tmps) = true)
    (hp : EffOp P (ev n σ) o w K) (h : ∀ v w', K v w' → XL P f n R k ops l (upd d v σ) w') : XL P f n R k ops (o :: l) σ w := xo_eff' hd hw hp h
theorem xo_effN {ops : Array Oper} {l : List Oper} {o : Oper} {K : Value → World → Prop} (hd : o.dst = none) (hw : Region.wanted o (yielded ops (mkAct n σ).tmps) = true)
    (hp : EffOp P (ev n σ) o w K) (h : ∀ v w', K v w' → XL P f n R k ops l σ w') : XL P f n R k ops (o :: l) σ w := xo_eff' hd hw hp h
theorem xo_pure {ops : Array Oper} {l : List Oper} {o : Oper} {d : Nat} {v : Value} (hd : o.dst = some d) (hw : Region.wanted o (yielded ops (mkAct n σ).tmps) = true)
    (hp : PureOp P (ev n σ) o v) (h : XL P f n R k ops l (upd d v σ) w) : XL P f n R k ops (o :: l) σ w :=
  xo_eff (K := fun u w' => u = v ∧ w' = w) hd hw (.pure hp ⟨rfl, rfl⟩) fun _ _ ⟨e1, e2⟩ => e1 ▸ e2 ▸ h
/-- A read keeps the world. -/
theorem xo_read {ops : Array Oper} {l : List Oper} {o : Oper} {d : Nat} {v : Value} (hd : o.dst = some d) (hw : Region.wanted o (yielded ops (mkAct n σ).tmps) = true)
    (hp : ReadOp P (ev n σ) o v w) (h : XL P f n R k ops l (upd d v σ) w) : XL P f n R k ops (o :: l) σ w :=
  xo_eff (K := fun u w' => u = v ∧ w' = w) hd hw (.read hp ⟨rfl, rfl⟩) fun _ _ ⟨e1, e2⟩ => e1 ▸ e2 ▸ h

end rules
end Go.X
