/- Laid by program. -/
import Derived.Calls
import Derived.OrdersHeld
import Derived.AtR
import Derived.RangeFuncLeaves
import Derived.RangeFuncRecord
import Derived.Laws.World
import Derived.WalkKit
/- The engine's core: what a function's code comes to, by a stack of code, slots as a function, and laws in continuation style. -/
set_option linter.all false
namespace Go.X
open Go

/-- Slots. -/
abbrev Env := Nat → Value
def upd (i : Nat) (v : Value) (σ : Env) : Env := fun j => if j = i then v else σ j
def ev (n : Nat) (σ : Env) : Operand → Value
  | .tmp t => if t < n then σ t else undef
  | .const v => v
  | .global g => .pointer (some ⟨g, 0, none⟩)
  | .func f => .func (.func f) #[] #[]
def mkAct (n : Nat) (σ : Env) : Act := { tmps := Array.ofFn (n := n) fun i => σ i, defers := [] }

theorem mkAct_eval (n : Nat) (σ : Env) : (mkAct n σ).eval = ev n σ := by
  funext x
  cases x with
  | tmp t =>
    simp only [Act.eval, mkAct, ev]
    split
    · rename_i h; simp [h]
    · rename_i h; simp [h]
  | _ => rfl

theorem mkAct_put (n : Nat) (σ : Env) (d : Nat) (v : Value) : (mkAct n σ).put (some d) v = mkAct n (upd d v σ) := by
  simp only [Act.put, mkAct, Act.mk.injEq, and_true]
  apply Array.ext
  · simp
  · intro i h1 h2
    simp only [Array.size_setIfInBounds, Array.size_ofFn] at h1
    rw [Array.getElem_setIfInBounds (by simpa using h1)]
    simp only [Array.getElem_ofFn, upd]
    by_cases h : d = i
    · simp [h]
    · simp [h, Ne.symm h]

theorem upd_same {i : Nat} {v : Value} {σ : Env} (h : σ i = v) : upd i v σ = σ := by
  funext j; unfold upd; split
  · rename_i e; rw [e, h]
  · rfl

def setDst (d : Option Nat) (v : Value) (σ : Env) : Env := match d with | some d => upd d v σ | none => σ
theorem mkAct_setDst (n : Nat) (σ : Env) (d : Option Nat) (v : Value) : (mkAct n σ).put d v = mkAct n (setDst d v σ) := by
  cases d with
  | none => rfl
  | some d => exact mkAct_put n σ d v

/-- A call comes to a value. -/
def CallF (P : Program) (f : FuncId) (args : Array Value) (w : World) (K : Value → World → Prop) : Prop :=
  Calls P f args w fun e w' => ∃ v, e = .returned v ∧ K v w'

theorem CallF.mono {P : Program} {f : FuncId} {args : Array Value} {w : World} {K K' : Value → World → Prop} (h : CallF P f args w K) (hk : ∀ v w', K v w' → K' v w') :
    CallF P f args w K' := Calls.mono h fun _ _ ⟨v, he, hv⟩ => ⟨v, he, hk _ _ hv⟩

/-- A frame: of which function, and of which loop's round, if of one. -/
structure Fr where
  fn : FuncId
  ro : Option Nat
  ds : List Nat
instance (n : Nat) : OfNat Fr n := ⟨⟨n, none, []⟩⟩
/-- The blocks of the loops' deferred calls. -/
def Fr.marks (f : Fr) : List Deferred := f.ds.map fun r => { target := .collected r, args := #[] }
def Fr.act (f : Fr) (n : Nat) (σ : Env) : Act := { mkAct n σ with defers := f.marks }
theorem act_eval (f : Fr) (n : Nat) (σ : Env) : (f.act n σ).eval = ev n σ := by
  rw [← mkAct_eval n σ]; funext x; cases x <;> rfl
theorem act_setDst (f : Fr) (n : Nat) (σ : Env) (d : Option Nat) (v : Value) : (f.act n σ).put d v = f.act n (setDst d v σ) := by
  have h := mkAct_setDst n σ d v
  have e : (f.act n σ).put d v = { (mkAct n σ).put d v with defers := f.marks } := by cases d <;> rfl
  rw [e, h]; rfl
theorem Fr.act_nil {f : Fr} (h : f.ds = []) (n : Nat) (σ : Env) : f.act n σ = mkAct n σ := by
  simp [Fr.act, Fr.marks, h, mkAct]
def Fr.frame (f : Fr) : Frame := { (default : Frame) with fn := f.fn, kind := .normal, roundOf := f.ro }
/-- How a frame ends: a function's by its return, a round's by yield's answer. -/
def Ends (P : Program) (f : Fr) (R : Value → World → Prop) (m : List Frame → Machine) : Prop :=
  match f.ro with
  | none => ∀ cs, ∃ v w' fr, R v w' ∧ Steps P (m cs) (lone fr cs w') ∧ fr.fn = f.fn ∧ fr.leaving P w' (.returned v)
  | some _ => ∀ c cs, ∃ v w', R v w' ∧ Steps P (m (c :: cs)) (lone (c.finish v) cs w')
/-- The rest of a function's run: from this stack, these slots, this world it comes to a value that R takes. -/
def Runs (P : Program) (f : Fr) (n : Nat) (R : Value → World → Prop) (k : List Item) (σ : Env) (w : World) : Prop :=
  Ends P f R fun cs => lone (f.frame.atR (f.act n σ) k) cs w

theorem Ends.steps {P : Program} {f : Fr} {R : Value → World → Prop} {m m' : List Frame → Machine} (h : Ends P f R m') (hs : ∀ cs, Steps P (m cs) (m' cs)) : Ends P f R m := by
  unfold Ends at *
  split
  · rename_i hr
    rw [hr] at h
    intro cs
    obtain ⟨v, w', fr, hR, hst, hl⟩ := h cs
    exact ⟨v, w', fr, hR, (hs cs).trans hst, hl⟩
  · rename_i hr
    rw [hr] at h
    intro c cs
    obtain ⟨v, w', hR, hst⟩ := h c cs
    exact ⟨v, w', hR, (hs _).trans hst⟩

theorem calls_of_runs {P : Program} {f : FuncId} {fn : Func} {c : Code} {args : Array Value} {w : World} {R : Value → World → Prop}
    (hf : P.funcs[f]? = some fn) (hb : fn.body = some c) (hs : args.size ≤ fn.ntmps)
    (h : Runs P ⟨f, none, []⟩ fn.ntmps R [.code c] (fun i => args.getD i undef) w) : CallF P f args w R := by
  intro cs
  obtain ⟨v, w', fr, hR, hst, hfn, hl⟩ := h cs
  refine ⟨.returned v, w', fr, ⟨v, rfl, hR⟩, ?_, hfn, hl⟩
  have henter : Frame.enter P f args .normal = ((⟨f, none, []⟩ : Fr).frame.atR ((⟨f, none, []⟩ : Fr).act fn.ntmps fun i => args.getD i undef) [.code c]) := by
    simp only [Frame.enter, Frame.atR, Fr.frame, Fr.act, Fr.marks, List.map_nil, hf, hb, mkAct, Option.map_some, Option.getD_some, Option.bind_some, Frame.mk.injEq, true_and, and_true]
    apply Array.ext
    · simp; omega
    · intro i h1 h2
      by_cases hi : i < args.size
      · rw [Array.getElem_append_left hi]; simp [hi]
      · rw [Array.getElem_append_right (by omega)]; simp [hi]
  rw [henter]
  exact hst

section rules
variable {P : Program} {f : Fr} {n : Nat} {R : Value → World → Prop} {k : List Item} {σ : Env} {w : World}

theorem Runs.step {k' : List Item} {σ' : Env} {w' : World}
    (hs : ∀ (b : Frame) cs, step P (lone (b.atR (f.act n σ) k) cs w) = .next (lone (b.atR (f.act n σ') k') cs w')) (h : Runs P f n R k' σ' w') : Runs P f n R k σ w :=
  Ends.steps h fun cs => .one (hs _ cs)
theorem r_skip (h : Runs P f n R k σ w) : Runs P f n R (.code .skip :: k) σ w := h.step fun _ _ => stepR_skip
theorem r_label {l : Nat} (h : Runs P f n R k σ w) : Runs P f n R (.code (.label l) :: k) σ w := h.step fun _ _ => stepR_label
theorem r_inBlock {id : Nat} (h : Runs P f n R k σ w) : Runs P f n R (.inBlock id :: k) σ w := h.step fun _ _ => stepR_inBlock
theorem r_seq {x y : Code} (h : Runs P f n R (.code x :: .code y :: k) σ w) : Runs P f n R (.code (.seq x y) :: k) σ w := h.step fun _ _ => stepR_seq
theorem r_block {id : Nat} {c : Code} (h : Runs P f n R (.code c :: .inBlock id :: k) σ w) : Runs P f n R (.code (.block id c) :: k) σ w := h.step fun _ _ => stepR_block
theorem r_exit {id : Nat} {k' : List Item} (hk : exitTo id k = some k') (h : Runs P f n R k' σ w) : Runs P f n R (.code (.exit id) :: k) σ w := h.step fun _ _ => stepR_exit hk
theorem r_true {c : Operand} {x y : Code} (hc : ev n σ c = .bool true) (h : Runs P f n R (.code x :: k) σ w) : Runs P f n R (.code (.cond c x y) :: k) σ w :=
  h.step fun _ _ => by rw [stepR_cond (t := true) (by rw [act_eval]; exact hc)]; rfl
theorem r_false {c : Operand} {x y : Code} (hc : ev n σ c = .bool false) (h : Runs P f n R (.code y :: k) σ w) : Runs P f n R (.code (.cond c x y) :: k) σ w :=
  h.step fun _ _ => by rw [stepR_cond (t := false) (by rw [act_eval]; exact hc)]; rfl
theorem r_cond {c : Operand} {x y : Code} {b : Bool} (hc : ev n σ c = .bool b) (ht : b = true → Runs P f n R (.code x :: k) σ w) (hf : b = false → Runs P f n R (.code y :: k) σ w) :
    Runs P f n R (.code (.cond c x y) :: k) σ w := by
  cases b
  · exact r_false hc (hf rfl)
  · exact r_true hc (ht rfl)
theorem r_loop {c : Code} (h : Runs P f n R (.code c :: .inLoop c :: k) σ w) : Runs P f n R (.code (.loop c) :: k) σ w := h.step fun _ _ => stepR_loop
theorem r_inLoop {c : Code} (h : Runs P f n R (.code c :: .inLoop c :: k) σ w) : Runs P f n R (.inLoop c :: k) σ w := h.step fun _ _ => stepR_inLoop

/-- The marks of the loops among the deferred calls are taken, at the return. -/
def UndL : List Nat → World → (World → Prop) → Prop
  | [], w, K => K w
  | r :: ds, w, K => w.heap[r]? = some (.deferred (some [])) ∧ UndL ds (w.putObj r (.deferred none)) K
theorem steps_und {fn : FuncId} {tm : Array Value} {td : List Item} {w' : World} {K : World → Prop} : ∀ (ds : List Nat) (w : World) (_ : UndL ds w K), ∃ w', K w' ∧ ∀ cs,
    Steps P (lone ({ fn := fn, tmps := tm, todo := td, defers := ds.map fun r => { target := .collected r, args := #[] }, mode := .returning, kind := .normal, roundOf := none } : Frame) cs w)
      (lone ({ fn := fn, tmps := tm, todo := td, defers := [], mode := .returning, kind := .normal, roundOf := none } : Frame) cs w')
  | [], w, h => ⟨w, h, fun _ => .refl _ _⟩
  | r :: ds, w, h => by
    obtain ⟨w', hK, hs⟩ := steps_und (fn := fn) (tm := tm) (td := td) (w' := w') ds _ h.2
    exact ⟨w', hK, fun cs => .head (step_collected (fr := { fn := fn, tmps := tm, todo := td, defers := (r :: ds).map fun r => { target := .collected r, args := #[] }, mode := .returning, kind := .normal, roundOf := none }) (by simp) rfl rfl (run_takeDeferred h.1)) (hs cs)⟩
theorem r_retL {fn : Func} (hf : P.funcs[f.fn]? = some fn) (h : UndL f.ds w fun w' => ∃ v, (results fn (mkAct n σ).tmps).run P w' = .ok v w' ∧ R v w') (hro : f.ro = none := by rfl) : Runs P f n R (.code .ret :: k) σ w := by
  unfold Runs Ends
  rw [hro]
  obtain ⟨w', ⟨v, hr, hR⟩, hs⟩ := steps_und (P := P) (fn := f.fn) (tm := (mkAct n σ).tmps) (td := .code .ret :: k) (w' := w) f.ds w h
  refine fun cs => ⟨v, w', { fn := f.fn, tmps := (mkAct n σ).tmps, todo := .code .ret :: k, defers := [], mode := .returning, kind := .normal, roundOf := none }, hR, .head (stepR_ret hro) ?_, rfl, rfl, rfl, rfl, fn, hf, hr⟩
  have := hs cs
  simpa only [Frame.atR, Fr.frame, Fr.act, Fr.marks, hro] using this
theorem r_endL {fn : Func} (hf : P.funcs[f.fn]? = some fn) (h : UndL f.ds w fun w' => ∃ v, (results fn (mkAct n σ).tmps).run P w' = .ok v w' ∧ R v w') (hro : f.ro = none := by rfl) : Runs P f n R [] σ w := by
  unfold Runs Ends
  rw [hro]
  obtain ⟨w', ⟨v, hr, hR⟩, hs⟩ := steps_und (P := P) (fn := f.fn) (tm := (mkAct n σ).tmps) (td := []) (w' := w) f.ds w h
  refine fun cs => ⟨v, w', { fn := f.fn, tmps := (mkAct n σ).tmps, todo := [], defers := [], mode := .returning, kind := .normal, roundOf := none }, hR, .head (stepR_end hro) ?_, rfl, rfl, rfl, rfl, fn, hf, hr⟩
  have := hs cs
  simpa only [Frame.atR, Fr.frame, Fr.act, Fr.marks, hro] using this
theorem r_ret {fn : Func} {v : Value} (hf : P.funcs[f.fn]? = some fn) (hr : (results fn (mkAct n σ).tmps).run P w = .ok v w) (h : R v w) (hro : f.ro = none := by rfl) (hds : f.ds = [] := by rfl) : Runs P f n R (.code .ret :: k) σ w :=
  r_retL hf (by rw [hds]; exact ⟨v, hr, h⟩) hro
theorem r_end {fn : Func} {v : Value} (hf : P.funcs[f.fn]? = some fn) (hr : (results fn (mkAct n σ).tmps).run P w = .ok v w) (h : R v w) (hro : f.ro = none := by rfl) (hds : f.ds = [] := by rfl) : Runs P f n R [] σ w :=
  r_endL hf (by rw [hds]; exact ⟨v, hr, h⟩) hro
/-- The mark of the one loop is taken. -/
def Und (r : Nat) (w : World) (K : World → Prop) : Prop := w.heap[r]? = some (.deferred (some [])) ∧ K (w.putObj r (.deferred none))
theorem r_ret1 {fn : Func} {r : Nat} {w' : World} {v : Value} (hf : P.funcs[f.fn]? = some fn) (hr : (results fn (mkAct n σ).tmps).run P w' = .ok v w') (h : R v w') (hu : w.heap[r]? = some (.deferred (some []))) (hw : w' = w.putObj r (.deferred none)) (hro : f.ro = none := by rfl) (hds : f.ds = [r] := by rfl) : Runs P f n R (.code .ret :: k) σ w :=
  r_retL hf (by rw [hds]; subst hw; exact ⟨hu, v, hr, h⟩) hro
theorem r_end1 {fn : Func} {r : Nat} {w' : World} {v : Value} (hf : P.funcs[f.fn]? = some fn) (hr : (results fn (mkAct n σ).tmps).run P w' = .ok v w') (h : R v w') (hu : w.heap[r]? = some (.deferred (some []))) (hw : w' = w.putObj r (.deferred none)) (hro : f.ro = none := by rfl) (hds : f.ds = [r] := by rfl) : Runs P f n R [] σ w :=
  r_endL hf (by rw [hds]; subst hw; exact ⟨hu, v, hr, h⟩) hro

theorem r_upd {i : Nat} {v : Value} (hv : σ i = v) (h : Runs P f n R k (upd i v σ) w) : Runs P f n R k σ w := by
  rwa [upd_same hv] at h

theorem tmps_getD (n : Nat) (σ : Env) (t : Nat) (h : t < n) : (mkAct n σ).tmps.getD t undef = σ t := by
  simp [mkAct, h]

/-- What an operation that neither reads nor writes the world leaves in its slot. -/
def PureOp (P : Program) (ρ : Operand → Value) (o : Oper) (v : Value) : Prop := ∀ w, (execOp ρ o).run P w = .ok (.value v) w
/-- What an operation that reads the world leaves in its slot. -/
def ReadOp (P : Program) (ρ : Operand → Value) (o : Oper) (v : Value) (w : World) : Prop := (execOp ρ o).run P w = .ok (.value v) w
/-- A call of yield comes to a value: the round is walked. -/
def RoundF (P : Program) (l : Nat) (g : FuncId) (tmps : Array Value) (asg body : Code) (w : World) (K : Value → World → Prop) : Prop :=
  ∀ c cs, ∃ v w', K v w' ∧ Steps P (lone (Frame.round l g tmps asg body .normal) (c :: cs) w) (lone (c.finish v) cs w')
theorem RoundF.mono {l : Nat} {g : FuncId} {tmps : Array Value} {asg body : Code} {K K' : Value → World → Prop} (h : RoundF P l g tmps asg body w K) (hk : ∀ v w', K v w' → K' v w') : RoundF P l g tmps asg body w K' := fun c cs => by
  obtain ⟨v, w', h1, h2⟩ := h c cs
  exact ⟨v, w', hk _ _ h1, h2⟩
/-- What an operation leaves, and the world behind it. -/
def EffOp (P : Program) (ρ : Operand → Value) (o : Oper) (w : World) (K : Value → World → Prop) : Prop :=
  match (execOp ρ o).run P w with
  | .ok (.value v) w' => K v w'
  | .ok .skip w' => K undef w'
  | .ok (.enter g args) w' => CallF P g args w' K
  | .ok (.round l g tmps asg body) w' => RoundF P l g tmps asg body w' K
  | _ => False

theorem EffOp.mono {ρ : Operand → Value} {o : Oper} {K K' : Value → World → Prop} (h : EffOp P ρ o w K) (hk : ∀ v w', K v w' → K' v w') : EffOp P ρ o w K' := by
  unfold EffOp at *
  split at h <;> first | exact hk _ _ h | exact CallF.mono h hk | exact RoundF.mono h hk | exact h.elim
theorem EffOp.no_defer {ρ : Operand → Value} {o : Oper} {K : Value → World → Prop} (h : EffOp P ρ o w K) : ∀ c, o.op ≠ .defer c := by
  intro c hc
  unfold EffOp at h
  simp only [execOp, hc, Sem.run_bind] at h
  cases hr : (resolve ρ c o.type).run P w with
  | ok d w' => rw [hr] at h; simp at h
  | halt x w' => rw [hr] at h; simp at h

/-- The rest of a run, from an act. -/
def RunsA (P : Program) (f : Fr) (R : Value → World → Prop) (k : List Item) (a : Act) (w : World) : Prop := Ends P f R fun cs => lone (f.frame.atR a k) cs w
/-- One operation of a region. -/
def opW (P : Program) (ops : Array Oper) (i : Nat) (K : Act → World → Prop) (a : Act) (w : World) : Prop :=
  match ops[i]? with
  | none => K a w
  | some o => if Region.wanted o (yielded ops a.tmps) then EffOp P a.eval o w (fun v w' => K (a.put o.dst v) w') else K (a.put o.dst undef) w
theorem opW_mono {ops : Array Oper} {i : Nat} {K K' : Act → World → Prop} {a : Act} (hk : ∀ a w, K a w → K' a w) (h : opW P ops i K a w) : opW P ops i K' a w := by
  unfold opW at *
  split at h
  · exact hk _ _ h
  · split at h
    · rename_i hw; rw [if_pos hw]; exact h.mono fun _ _ => hk _ _
    · rename_i hw; rw [if_neg hw]; exact hk _ _ h

theorem runs_op {ops : Array Oper} {i : Nat} {rest : List Nat} {a : Act} (h : opW P ops i (RunsA P f R (.inRegion ops rest :: k)) a w) : RunsA P f R (.inRegion ops (i :: rest) :: k) a w := by
  unfold opW at h
  cases ho : ops[i]? with
  | none =>
    rw [ho] at h
    refine Ends.steps h fun cs => .one ?_
    have hs := stepR_op_skip (P := P) (b := f.frame) (a := a) (k := k) (cs := cs) (w := w) (ops := ops) (i := i) (rest := rest) (by simp [ho])
    simpa only [ho, Option.bind_none, Act.put] using hs
  | some o =>
    rw [ho] at h
    simp only [] at h
    by_cases hw : Region.wanted o (yielded ops a.tmps) = true
    · rw [if_pos hw] at h
      have hsem : o.semAt f.frame.roundOf a.eval = execOp a.eval o := Oper.semAt_eq _ _ _ h.no_defer
      have hg := fun cs => stepGR_op (P := P) (b := f.frame) (k := k) (cs := cs) (w := w) (rest := rest) ho hw
      have hfin : ∀ v, (f.frame.atR a (.inRegion ops (i :: rest) :: k)).finish v = f.frame.atR (a.put o.dst v) (.inRegion ops rest :: k) := by
        intro v; rw [Frame.finish_atR, ho]; rfl
      unfold EffOp at h
      cases hr : (execOp a.eval o).run P w with
      | halt x w' => rw [hr] at h; exact h.elim
      | ok x w' =>
        rw [hr] at h
        cases x <;> try exact h.elim
        case value v =>
          refine Ends.steps h fun cs => .one (step_lone_go ?_)
          rw [hg, hsem, ← hfin]; simp [stepG.apply, hr]
        case skip =>
          refine Ends.steps h fun cs => .one (step_lone_go ?_)
          rw [hg, hsem, ← hfin]; simp [stepG.apply, hr]
        case enter g args =>
          have henter : ∀ cs, step P (lone (f.frame.atR a (.inRegion ops (i :: rest) :: k)) cs w) = .next (lone (Frame.enter P g args .normal) (f.frame.atR a (.inRegion ops (i :: rest) :: k) :: cs) w') := fun cs =>
            step_lone_go (by rw [hg, hsem]; simp [stepG.apply, hr, Frame.atR])
          have hgo : ∀ cs, ∃ v w'', RunsA P f R (.inRegion ops rest :: k) (a.put o.dst v) w'' ∧ Steps P (lone (f.frame.atR a (.inRegion ops (i :: rest) :: k)) cs w) (lone (f.frame.atR (a.put o.dst v) (.inRegion ops rest :: k)) cs w'') := by
            intro cs
            obtain ⟨e, w'', fr, ⟨v, rfl, hR⟩, hsteps, _, hleave⟩ := h (f.frame.atR a (.inRegion ops (i :: rest) :: k) :: cs)
            refine ⟨v, w'', hR, .head (henter cs) (Steps.trans hsteps (.one ?_))⟩
            rw [← hfin]; exact step_leave_returned hleave
          unfold RunsA Ends at *
          split
          · rename_i hro
            intro cs
            obtain ⟨v, w'', hR, hst⟩ := hgo cs
            simp only [hro] at hR
            obtain ⟨v', w3, fr, h1, h2, h3⟩ := hR cs
            exact ⟨v', w3, fr, h1, hst.trans h2, h3⟩
          · rename_i hro
            intro c cs
            obtain ⟨v, w'', hR, hst⟩ := hgo (c :: cs)
            simp only [hro] at hR
            obtain ⟨v', w3, h1, h2⟩ := hR c cs
            exact ⟨v', w3, h1, hst.trans h2⟩
        case round l g tmps asg body =>
          have henter : ∀ cs, step P (lone (f.frame.atR a (.inRegion ops (i :: rest) :: k)) cs w) = .next (lone (Frame.round l g tmps asg body .normal) (f.frame.atR a (.inRegion ops (i :: rest) :: k) :: cs) w') := fun cs =>
            step_lone_go (by rw [hg, hsem]; simp [stepG.apply, hr])
          have hgo : ∀ cs, ∃ v w'', RunsA P f R (.inRegion ops rest :: k) (a.put o.dst v) w'' ∧ Steps P (lone (f.frame.atR a (.inRegion ops (i :: rest) :: k)) cs w) (lone (f.frame.atR (a.put o.dst v) (.inRegion ops rest :: k)) cs w'') := by
            intro cs
            obtain ⟨v, w'', hR, hsteps⟩ := h (f.frame.atR a (.inRegion ops (i :: rest) :: k)) cs
            refine ⟨v, w'', hR, .head (henter cs) ?_⟩
            rw [← hfin]; exact hsteps
          unfold RunsA Ends at *
          split
          · rename_i hro
            intro cs
            obtain ⟨v, w'', hR, hst⟩ := hgo cs
            simp only [hro] at hR
            obtain ⟨v', w3, fr, h1, h2, h3⟩ := hR cs
            exact ⟨v', w3, fr, h1, hst.trans h2, h3⟩
          · rename_i hro
            intro c cs
            obtain ⟨v, w'', hR, hst⟩ := hgo (c :: cs)
            simp only [hro] at hR
            obtain ⟨v', w3, h1, h2⟩ := hR c cs
            exact ⟨v', w3, h1, hst.trans h2⟩
    · rw [if_neg hw] at h
      refine Ends.steps h fun cs => .one ?_
      have hs := stepR_op_skip (P := P) (b := f.frame) (a := a) (k := k) (cs := cs) (w := w) (ops := ops) (i := i) (rest := rest) (by simp [ho]; simpa using hw)
      simpa only [ho, Option.bind_some] using hs

/-- The operations of a region, in the order of a list. -/
def XOps (P : Program) (f : Fr) (n : Nat) (R : Value → World → Prop) (k : List Item) (ops : Array Oper) (l : List Nat) (σ : Env) (w : World) : Prop := RunsA P f R (.inRegion ops l :: k) (f.act n σ) w
/-- The operations of a region, one behind the other. -/
def XL (P : Program) (f : Fr) (n : Nat) (R : Value → World → Prop) (k : List Item) (ops : Array Oper) (l : List Oper) (σ : Env) (w : World) : Prop :=
  ∀ i, (∀ j o, l[j]? = some o → ops[i + j]? = some o) → XOps P f n R k ops (List.range' i l.length) σ w

theorem r_region {id : Nat} {l : List Oper} (h : XL P f n R k l.toArray l σ w) : Runs P f n R (.code (.region id l.toArray false) :: k) σ w := by
  have := h 0 (fun j o ho => by simpa using ho)
  refine Ends.steps (m' := fun cs => lone (f.frame.atR (f.act n σ) (.inRegion l.toArray (List.range l.toArray.size) :: k)) cs w) ?_ fun cs => .one stepR_region
  simpa [XOps, RunsA, List.range_eq_range'] using this

theorem xo_end {ops : Array Oper} (h : Runs P f n R k σ w) : XL P f n R k ops [] σ w := fun _ _ => Ends.steps h fun _ => .one stepR_region_end

theorem wanted_none {o : Oper} (hg : o.guard = none) (y : Nat → Option Bool) : Region.wanted o y = true := by simp [Region.wanted, hg]

theorem XL.cons {ops : Array Oper} {o : Oper} {l : List Oper} (h : ∀ i, ops[i]? = some o → (∀ j o', l[j]? = some o' → ops[i + 1 + j]? = some o') → opW P ops i (RunsA P f R (.inRegion ops (List.range' (i + 1) l.length) :: k)) (f.act n σ) w) : XL P f n R k ops (o :: l) σ w := by
  intro i hi
  simp only [List.length_cons, List.range'_succ]
  exact runs_op (h i (by simpa using hi 0 o rfl) (fun j o' hj => by have := hi (j + 1) o' (by simpa using hj); rw [← this]; congr 1; omega))

theorem EffOp.pure {ρ : Operand → Value} {o : Oper} {v : Value} {K : Value → World → Prop} (hp : PureOp P ρ o v) (h : K v w) : EffOp P ρ o w K := by
  unfold EffOp; rw [hp w]; exact h
theorem EffOp.read {ρ : Operand → Value} {o : Oper} {v : Value} {K : Value → World → Prop} (hp : ReadOp P ρ o v w) (h : K v w) : EffOp P ρ o w K := by
  unfold EffOp; rw [hp]; exact h
theorem opW_yes {ops : Array Oper} {i : Nat} {o : Oper} {K : Act → World → Prop} {a : Act} (ho : ops[i]? = some o) (hw : Region.wanted o (yielded ops a.tmps) = true) (h : EffOp P a.eval o w fun v w' => K (a.put o.dst v) w') : opW P ops i K a w := by
  unfold opW; rw [ho]; simp only []; rw [if_pos hw]; exact h
theorem opW_no {ops : Array Oper} {i : Nat} {o : Oper} {K : Act → World → Prop} {a : Act} (ho : ops[i]? = some o) (hw : Region.wanted o (yielded ops a.tmps) = false) (h : K (a.put o.dst undef) w) : opW P ops i K a w := by
  unfold opW; rw [ho]; simp only []; rw [if_neg (by simp [hw])]; exact h

theorem xo_skip' {ops : Array Oper} {l : List Oper} {o : Oper} {d : Option Nat} (hd : o.dst = d) (hw : Region.wanted o (yielded ops (mkAct n σ).tmps) = false)
    (h : XL P f n R k ops l (setDst d undef σ) w) : XL P f n R k ops (o :: l) σ w := .cons fun i ho hl => opW_no ho hw (by
  have h' := h (i + 1) hl
  rw [act_setDst, hd]
  exact h')
theorem xo_skip {ops : Array Oper} {l : List Oper} {o : Oper} {d : Nat} (hd : o.dst = some d) (hw : Region.wanted o (yielded ops (mkAct n σ).tmps) = false)
    (h : XL P f n R k ops l (upd d undef σ) w) : XL P f n R k ops (o :: l) σ w := xo_skip' hd hw h
theorem xo_skipN {ops : Array Oper} {l : List Oper} {o : Oper} (hd : o.dst = none) (hw : Region.wanted o (yielded ops (mkAct n σ).tmps) = false)
    (h : XL P f n R k ops l σ w) : XL P f n R k ops (o :: l) σ w := xo_skip' hd hw h
theorem xo_eff' {ops : Array Oper} {l : List Oper} {o : Oper} {d : Option Nat} {K : Value → World → Prop} (hd : o.dst = d) (hw : Region.wanted o (yielded ops (mkAct n σ).tmps) = true)
    (hp : EffOp P (ev n σ) o w K) (h : ∀ v w', K v w' → XL P f n R k ops l (setDst d v σ) w') : XL P f n R k ops (o :: l) σ w := .cons fun i ho hl => opW_yes ho hw (by
  rw [act_eval]
  refine hp.mono fun v w' hk => ?_
  rw [act_setDst, hd]
  exact h v w' hk (i + 1) hl)
theorem xo_eff {ops : Array Oper} {l : List Oper} {o : Oper} {d : Nat} {K : Value → World → Prop} (hd : o.dst = some d) (hw : Region.wanted o (yielded ops (mkAct n σ).tmps) = true)
    (hp : EffOp P (ev n σ) o w K) (h : ∀ v w', K v w' → XL P f n R k ops l (upd d v σ) w') : XL P f n R k ops (o :: l) σ w := xo_eff' hd hw hp h
theorem xo_effN {ops : Array Oper} {l : List Oper} {o : Oper} {K : Value → World → Prop} (hd : o.dst = none) (hw : Region.wanted o (yielded ops (mkAct n σ).tmps) = true)
    (hp : EffOp P (ev n σ) o w K) (h : ∀ v w', K v w' → XL P f n R k ops l σ w') : XL P f n R k ops (o :: l) σ w := xo_eff' hd hw hp h
theorem xo_pure {ops : Array Oper} {l : List Oper} {o : Oper} {d : Nat} {v : Value} (hd : o.dst = some d) (hw : Region.wanted o (yielded ops (mkAct n σ).tmps) = true)
    (hp : PureOp P (ev n σ) o v) (h : XL P f n R k ops l (upd d v σ) w) : XL P f n R k ops (o :: l) σ w :=
  xo_eff (K := fun u w' => u = v ∧ w' = w) hd hw (.pure hp ⟨rfl, rfl⟩) fun _ _ ⟨e1, e2⟩ => e1 ▸ e2 ▸ h
/-- A read keeps the world. -/
theorem xo_read {ops : Array Oper} {l : List Oper} {o : Oper} {d : Nat} {v : Value} (hd : o.dst = some d) (hw : Region.wanted o (yielded ops (mkAct n σ).tmps) = true)
    (hp : ReadOp P (ev n σ) o v w) (h : XL P f n R k ops l (upd d v σ) w) : XL P f n R k ops (o :: l) σ w :=
  xo_eff (K := fun u w' => u = v ∧ w' = w) hd hw (.read hp ⟨rfl, rfl⟩) fun _ _ ⟨e1, e2⟩ => e1 ▸ e2 ▸ h

end rules
end Go.X

/- A region that draws its order: what reads and what computes is taken as early as it may be; a read's fact is held over what does not wait for it. -/
set_option linter.all false
namespace Go.X
open Go
section
variable {P : Program} {ops : Array Oper} {Q : Act → World → Prop} {md : Region.Mode} {T : Array (List Nat)}
theorem YieldsIf.opW {S : World → Prop} {i : Nat} {o : Oper} {v : Value} {a : Act} (hi : ops[i]? = some o) (hy : YieldsIf P ops S o v a) {K : Act → World → Prop} {w : World} (hS : S w) (h : K (a.put o.dst v) w) : opW P ops i K a w := by
  rcases hy with ⟨hw, hv⟩ | ⟨hw, rfl⟩
  · exact opW_yes hi hw (.read (hv w hS) h)
  · exact opW_no hi hw h
theorem opW_putIf {S : World → Prop} {j : Nat} {oi oj : Oper} {v : Value} (hj : ops[j]? = some oj) (hap : oi.apart ops oj = true) (hsi : ∀ cs b, oi.op ≠ .select cs b) (hsj : ∀ cs b, oj.op ≠ .select cs b)
    {K : Act → World → Prop} {a : Act} {w : World} (hy : YieldsIf P ops S oi v a) (h : opW P ops j K (a.put oi.dst v) w) : opW P ops j (fun a' w' => YieldsIf P ops S oi v a' ∧ K (a'.put oi.dst v) w') a w := by
  obtain ⟨h1, h2, h3⟩ := Oper.apart_spec hap
  have keep : ∀ (a : Act), YieldsIf P ops S oi v a → ∀ u, YieldsIf P ops S oi v (a.put oj.dst u) := fun a hy u =>
    hy.of_same (execOp_put oi hsi a oj.dst u h3) (wanted_put oi a oj.dst u h3)
  unfold Go.X.opW at *
  simp only [hj] at *
  rw [wanted_put oj a oi.dst v h1] at h
  split
  · rename_i hw
    rw [if_pos hw] at h
    have he : EffOp P a.eval oj w (fun u w' => K ((a.put oi.dst v).put oj.dst u) w') := by
      unfold EffOp at *
      rw [execOp_put oj hsj a oi.dst v h1] at h
      exact h
    exact he.mono fun u w' hk => ⟨keep a hy u, by rw [← Act.put_comm a v u h2]; exact hk⟩
  · rename_i hw
    rw [if_neg hw] at h
    exact ⟨keep a hy _, by rw [← Act.put_comm a v undef h2]; exact h⟩

abbrev Helds := List (Nat × (World → Prop))
/-- What is still held behind j: whatever j does not wait for. -/
def after (T : Array (List Nat)) (held : Helds) (j : Nat) : Helds := held.filter fun p => !(T.getD j []).contains p.1
def AllHeld (held : Helds) (w : World) : Prop := ∀ p ∈ held, p.2 w
theorem AllHeld.nil {w : World} : AllHeld [] w := fun _ h => by cases h
theorem AllHeld.cons {i : Nat} {S : World → Prop} {held : Helds} {w : World} (hs : S w) (h : AllHeld held w) : AllHeld ((i, S) :: held) w := by
  intro p hp
  cases hp with
  | head => exact hs
  | tail _ hp => exact h p hp
theorem AllHeld.after {held : Helds} {w : World} (h : AllHeld held w) (T : Array (List Nat)) (j : Nat) : AllHeld (after T held j) w := fun p hp => h p (List.mem_filter.1 hp).1
def wpAnyG (P : Program) (md : Region.Mode) (ops : Array Oper) (Q : Act → World → Prop) (T : Array (List Nat)) : Helds → Nat → Array Bool → Act → World → Prop
  | _, 0, listed, a, w => Region.ready md ops listed = [] ∧ Q a w
  | held, fuel + 1, listed, a, w =>
    (Region.ready md ops listed = [] → Q a w) ∧
    ∀ j ∈ Region.ready md ops listed, opW P ops j (fun a' w' => AllHeld (after T held j) w' ∧ wpAnyG P md ops Q T (after T held j) fuel (listed.setIfInBounds j true) a' w') a w

theorem wpAnyG_sound {f : Fr} {R : Value → World → Prop} {k : List Item} : ∀ (fuel t : Nat) (held : Helds) (listed : Array Bool) (a : Act) (w : World), wpAnyG P md ops (RunsA P f R k) T held fuel listed a w →
    RunsA P f R (.inRegion ops (Region.linearise.go md ops fuel t listed []) :: k) a w := by
  intro fuel
  induction fuel with
  | zero => intro t held listed a w h; exact Ends.steps (m' := fun cs => lone (f.frame.atR a k) cs w) h.2 fun _ => .one (by simpa [Region.linearise.go] using stepR_region_end)
  | succ fuel ih =>
    intro t held listed a w h
    obtain ⟨h₀, h₁⟩ := h
    simp only [Region.linearise.go]
    change RunsA P f R (.inRegion ops (match (Region.ready md ops listed)[t % (Region.ready md ops listed).length]? with
      | some i => Region.linearise.go md ops fuel (t / (Region.ready md ops listed).length) (listed.setIfInBounds i true) [i]
      | none => [].reverse) :: k) a w
    cases hi : (Region.ready md ops listed)[t % (Region.ready md ops listed).length]? with
    | none =>
      have hnil : Region.ready md ops listed = [] := by
        cases hr : Region.ready md ops listed with
        | nil => rfl
        | cons x xs =>
          rw [hr] at hi
          have hlt : t % (x :: xs).length < (x :: xs).length := Nat.mod_lt _ (by simp)
          simp at hi
          simp at hlt
          omega
      exact Ends.steps (m' := fun cs => lone (f.frame.atR a k) cs w) (h₀ hnil) fun _ => .one (by simpa using stepR_region_end)
    | some i =>
      simp only []
      rw [linearise_go_acc, List.reverse_singleton, List.singleton_append]
      exact runs_op (opW_mono (fun a w h => ih _ _ _ a w h.2) (h₁ i (List.mem_of_getElem? hi)))

theorem after_sub {held held' : Helds} (T : Array (List Nat)) (j : Nat) (h : ∀ p ∈ held', p ∈ held) : ∀ p ∈ after T held' j, p ∈ after T held j := fun p hp =>
  List.mem_filter.2 ⟨h p (List.mem_filter.1 hp).1, (List.mem_filter.1 hp).2⟩

theorem wpAnyG_weaken : ∀ (held held' : Helds) (_ : ∀ p ∈ held', p ∈ held) (fuel : Nat) (listed : Array Bool) (a : Act) (w : World),
    wpAnyG P md ops Q T held fuel listed a w → wpAnyG P md ops Q T held' fuel listed a w
  | _, _, _, 0, _, _, _, h => h
  | held, held', hs, fuel + 1, _, _, _, h => ⟨h.1, fun j hj => opW_mono (fun a' w' h' =>
      ⟨fun p hp => h'.1 p (after_sub T j hs p hp), wpAnyG_weaken (after T held j) (after T held' j) (after_sub T j hs) fuel _ a' w' h'.2⟩) (h.2 j hj)⟩

theorem wpAnyG_strengthen' {i : Nat} : ∀ (held held' : Helds) (_ : ∀ p ∈ held', p ∈ held ∨ ∀ w, p.2 w) (fuel : Nat) (listed : Array Bool) (a : Act) (w : World),
    wpAnyG P md ops Q T held fuel listed a w → wpAnyG P md ops Q T held' fuel listed a w
  | _, _, _, 0, _, _, _, h => h
  | held, held', hs, fuel + 1, _, _, _, h => ⟨h.1, fun j hj => opW_mono (fun a' w' h' =>
      have hs' : ∀ p ∈ after T held' j, p ∈ after T held j ∨ ∀ w, p.2 w := fun p hp => (hs p (List.mem_filter.1 hp).1).imp (fun h => List.mem_filter.2 ⟨h, (List.mem_filter.1 hp).2⟩) id
      ⟨fun p hp => (hs' p hp).elim (h'.1 p) (fun h => h w'), wpAnyG_strengthen' (i := i) (after T held j) (after T held' j) hs' fuel _ a' w' h'.2⟩) (h.2 j hj)⟩
theorem wpAnyG_strengthen {i : Nat} {held : Helds} (fuel : Nat) (listed : Array Bool) (a : Act) (w : World) (h : wpAnyG P md ops Q T held fuel listed a w) :
    wpAnyG P md ops Q T ((i, fun _ => True) :: held) fuel listed a w :=
  wpAnyG_strengthen' (i := i) held _ (fun p hp => by cases hp with | head => exact .inr fun _ => trivial | tail _ hp => exact .inl hp) fuel listed a w h

/-- The table of what waits for what is borne out by the edges. -/
def tableOk (md : Region.Mode) (ops : Array Oper) (T : Array (List Nat)) : Bool :=
  (List.range ops.size).all fun j => (T.getD j []).all fun i =>
    match ops[j]? with
    | some o => o.after.any fun e => Region.binds md e && (e.on == i || (T.getD e.on []).contains i)
    | none => false

def Closed (ops : Array Oper) (T : Array (List Nat)) (listed : Array Bool) : Prop :=
  ∀ j, j < ops.size → listed.getD j true = true → ∀ i ∈ T.getD j [], listed.getD i false = true

theorem closed_ready (ht : tableOk md ops T = true) {listed : Array Bool} (hc : Closed ops T listed) (hs : listed.size = ops.size) {j : Nat} (hj : j ∈ Region.ready md ops listed) :
    ∀ i ∈ T.getD j [], listed.getD i false = true := by
  intro i hi
  obtain ⟨_, o, ho, hall⟩ := mem_ready.1 hj
  have hlt : j < ops.size := (Array.getElem?_eq_some_iff.1 ho).1
  have h1 := List.all_eq_true.1 (List.all_eq_true.1 ht j (List.mem_range.2 hlt)) i hi
  simp only [ho] at h1
  obtain ⟨e, he, hb⟩ := Array.any_eq_true'.1 h1
  simp only [Bool.and_eq_true, Bool.or_eq_true, beq_iff_eq] at hb
  have hl := hall e he hb.1
  rcases hb.2 with h2 | h2
  · rw [← h2]; exact hl
  · have hlt2 : e.on < listed.size := by
      rcases Nat.lt_or_ge e.on listed.size with h | h
      · exact h
      · simp [Array.getElem?_eq_none h] at hl
    exact hc e.on (hs ▸ hlt2) (by simpa [hlt2] using hl) i (by simpa using h2)

theorem closed_set (ht : tableOk md ops T = true) {listed : Array Bool} (hc : Closed ops T listed) (hs : listed.size = ops.size) {j : Nat} (hj : j ∈ Region.ready md ops listed) :
    Closed ops T (listed.setIfInBounds j true) := by
  intro m hm hl i hi
  by_cases h : m = j
  · subst h; exact getD_set_true (closed_ready ht hc hs hj i hi)
  · rw [getD_set_ne true (Ne.symm h)] at hl
    exact getD_set_true (hc m hm hl i hi)

theorem wpAnyG_first {i : Nat} {oi : Oper} {v : Value} {S : World → Prop} (ht : tableOk md ops T = true) (hi : ops[i]? = some oi) (hsel : ∀ (j : Nat) (o : Oper) cs b, ops[j]? = some o → o.op ≠ .select cs b)
    :
    ∀ (fuel : Nat) (held : Helds) (listed : Array Bool) (a : Act) (w : World), listed.size = ops.size → Closed ops T listed →
      (∀ j oj, ops[j]? = some oj → j ≠ i → listed.getD j true = false → (∀ e ∈ oj.after, Region.binds md e = true → e.on ≠ i) → oi.apart ops oj = true) →
      i ∈ Region.ready md ops listed → YieldsIf P ops S oi v a → S w → AllHeld held w →
      wpAnyG P md ops Q T ((i, S) :: held) fuel (listed.setIfInBounds i true) (a.put oi.dst v) w → wpAnyG P md ops Q T held (fuel + 1) listed a w := by
  intro fuel
  induction fuel with
  | zero =>
    intro held listed a w hsz hcl _ hr hy hS hk H
    refine ⟨fun h => (by rw [h] at hr; cases hr), fun j hj => ?_⟩
    by_cases hji : j = i
    · subst hji; exact YieldsIf.opW hi hy hS ⟨hk.after T j, wpAnyG_weaken _ _ (fun p hp => .tail _ (List.mem_filter.1 hp).1) _ _ _ _ H⟩
    · have := ready_mono hj hji
      rw [H.1] at this
      cases this
  | succ fuel ih =>
    intro held listed a w hsz hcl hfree hr hy hS hk H
    refine ⟨fun h => (by rw [h] at hr; cases hr), fun j hj => ?_⟩
    by_cases hji : j = i
    · subst hji; exact YieldsIf.opW hi hy hS ⟨hk.after T j, wpAnyG_weaken _ _ (fun p hp => .tail _ (List.mem_filter.1 hp).1) _ _ _ _ H⟩
    · have h1 := H.2 j (ready_mono hj hji)
      obtain ⟨hjun, oj, hoj, hall⟩ := mem_ready.1 hj
      have hiun : listed.getD i false = false := by
        have h0 := (mem_ready.1 hr).1
        rcases Nat.lt_or_ge i listed.size with h' | h'
        · simpa [h'] using h0
        · simp [Array.getElem?_eq_none h']
      have hnot : ∀ e ∈ oj.after, Region.binds md e = true → e.on ≠ i := fun e he hb heq => by
        have h1 := hall e he hb
        rw [heq, hiun] at h1
        cases h1
      have hwt : (T.getD j []).contains i = false := by
        cases hc : (T.getD j []).contains i with
        | false => rfl
        | true => have := closed_ready ht hcl hsz hj i (by simpa using hc); rw [hiun] at this; cases this
      have h2 := opW_putIf hoj (hfree j oj hoj hji hjun hnot) (fun cs b => hsel i oi cs b hi) (fun cs b => hsel j oj cs b hoj) hy h1
      have hfree' : ∀ k ok, ops[k]? = some ok → k ≠ i → (listed.setIfInBounds j true).getD k true = false →
          (∀ e ∈ ok.after, Region.binds md e = true → e.on ≠ i) → oi.apart ops ok = true := fun k ok hk hki hun hno => by
        refine hfree k ok hk hki ?_ hno
        by_cases hjk : j = k
        · subst hjk; exact hjun
        · rw [getD_set_ne true hjk] at hun; exact hun
      refine opW_mono (fun a' w' h3 => ?_) h2
      obtain ⟨hy', hheld, hnext⟩ := h3
      have e : after T ((i, S) :: held) j = (i, S) :: after T held j := by
        simp only [after, List.filter_cons, hwt, Bool.not_false, if_true]
      rw [e] at hheld hnext
      have hS' : S w' := hheld (i, S) (.head _)
      have hsz' : (listed.setIfInBounds j true).size = ops.size := by simpa using hsz
      have hheld' : AllHeld (after T held j) w' := fun p hp => hheld p (.tail _ hp)
      refine ⟨hheld', ih _ (listed.setIfInBounds j true) a' w' hsz' (closed_set ht hcl hsz hj) hfree' (ready_mono hr (Ne.symm hji)) hy' hS' hheld' ?_⟩
      rw [Array.setIfInBounds_comm _ _ hji]
      exact hnext

/-- A region whose order is drawn, from a state of what has come. -/
def XAny (P : Program) (f : Fr) (n : Nat) (R : Value → World → Prop) (k : List Item) (ops : Array Oper) (T : Array (List Nat)) (held : Helds) (fuel : Nat) (listed : Array Bool) (σ : Env) (w : World) : Prop :=
  listed.size = ops.size → Closed ops T listed → AllHeld held w → wpAnyG P .any ops (RunsA P f R k) T held fuel listed (f.act n σ) w

section rules
variable {f : Fr} {n : Nat} {R : Value → World → Prop} {k : List Item} {σ : Env} {w : World} {held : Helds} {fuel : Nat} {listed : Array Bool}

theorem drop_get {l l' : List Oper} {i : Nat} {o : Oper} (h : l.drop i = o :: l') : l.toArray[i]? = some o := by
  have : (l.drop i)[0]? = some o := by rw [h]; rfl
  simpa using this
theorem r_draw {id : Nat} {l : List Oper} (T : Array (List Nat)) (m : Nat) (hm : P.follows .mixedOrders = true) (hs : l.length = m) (h : XAny P f n R k l.toArray T [] m (Array.replicate m false) σ w.drew) :
    Runs P f n R (.code (.region id l.toArray true) :: k) σ w := by
  have h : XAny P f n R k l.toArray T [] l.toArray.size (Array.replicate l.toArray.size false) σ { w with drawn := w.drawn + 1 } := by subst hs; simpa using h
  have h2 := h (by simp) (by
    intro j hj hl
    have : (Array.replicate l.toArray.size false).getD j true = false := by simp at hj; simp [hj]
    rw [this] at hl
    cases hl) AllHeld.nil
  refine Ends.steps (m' := fun cs => lone (f.frame.atR (f.act n σ) (.inRegion l.toArray (Region.schedule (P.follows .mixedOrders) l.toArray (w.tape w.drawn (.order f.frame.fn id))) :: k)) cs { w with drawn := w.drawn + 1 }) ?_ fun cs => .one stepR_region_draw
  simp only [Region.schedule, hm, Bool.true_or, if_true]
  exact wpAnyG_sound _ _ _ _ _ _ h2

theorem xa_end (hr : Region.ready .any ops listed = []) (h : Runs P f n R k σ w) : XAny P f n R k ops T held fuel listed σ w := by
  intro _ _ _
  cases fuel with
  | zero => exact ⟨hr, h⟩
  | succ fuel => exact ⟨fun _ => h, by rw [hr]; intro j hj; cases hj⟩

/-- All that a step asks of the region's text, at once. -/
def takeOk (ops : Array Oper) (T : Array (List Nat)) (listed : Array Bool) (i : Nat) : Bool :=
  tableOk .any ops T && Region.noSelect ops && Region.free .any ops listed i && (Region.ready .any ops listed).contains i

theorem xa_read' {i : Nat} {o : Oper} {v : Value} {S : World → Prop} (hc : takeOk ops T listed i = true) (ho : ops[i]? = some o) (hw : Region.wanted o (yielded ops (mkAct n σ).tmps) = true)
    (hp : ∀ w, S w → ReadOp P (ev n σ) o v w) (hS : S w) (h : XAny P f n R k ops T ((i, S) :: held) fuel (listed.setIfInBounds i true) (setDst o.dst v σ) w) :
    XAny P f n R k ops T held (fuel + 1) listed σ w := by
  intro hsz hcl hk
  simp only [takeOk, Bool.and_eq_true] at hc
  obtain ⟨⟨⟨h1, h2⟩, h3⟩, h4⟩ := hc
  have hr : i ∈ Region.ready .any ops listed := by simpa using h4
  refine wpAnyG_first h1 ho (Region.noSelect_spec h2) fuel held listed _ w hsz hcl (Region.free_spec ho h3) hr (v := v) (S := S) (.inl ⟨hw, fun w hs => ?_⟩) hS hk ?_
  · rw [act_eval]; exact hp w hs
  · rw [act_setDst]
    exact h (by simpa using hsz) (closed_set h1 hcl hsz hr) (.cons hS hk)

theorem xa_pure' {i : Nat} {o : Oper} {v : Value} (hc : takeOk ops T listed i = true) (ho : ops[i]? = some o) (hw : Region.wanted o (yielded ops (mkAct n σ).tmps) = true)
    (hp : PureOp P (ev n σ) o v) (h : XAny P f n R k ops T held fuel (listed.setIfInBounds i true) (setDst o.dst v σ) w) :
    XAny P f n R k ops T held (fuel + 1) listed σ w := by
  intro hsz hcl hk
  simp only [takeOk, Bool.and_eq_true] at hc
  obtain ⟨⟨⟨h1, h2⟩, h3⟩, h4⟩ := hc
  have hr : i ∈ Region.ready .any ops listed := by simpa using h4
  refine wpAnyG_first h1 ho (Region.noSelect_spec h2) fuel held listed _ w hsz hcl (Region.free_spec ho h3) hr (v := v) (S := fun _ => True) (.inl ⟨hw, fun w _ => ?_⟩) trivial hk ?_
  · rw [act_eval]; exact hp w
  · rw [act_setDst]
    exact wpAnyG_strengthen _ _ _ _ (h (by simpa using hsz) (closed_set h1 hcl hsz hr) hk)

theorem xa_skip' {i : Nat} {o : Oper} (hc : takeOk ops T listed i = true) (ho : ops[i]? = some o) (hw : Region.wanted o (yielded ops (mkAct n σ).tmps) = false)
    (h : XAny P f n R k ops T held fuel (listed.setIfInBounds i true) (setDst o.dst undef σ) w) :
    XAny P f n R k ops T held (fuel + 1) listed σ w := by
  intro hsz hcl hk
  simp only [takeOk, Bool.and_eq_true] at hc
  obtain ⟨⟨⟨h1, h2⟩, h3⟩, h4⟩ := hc
  have hr : i ∈ Region.ready .any ops listed := by simpa using h4
  refine wpAnyG_first h1 ho (Region.noSelect_spec h2) fuel held listed _ w hsz hcl (Region.free_spec ho h3) hr (v := undef) (S := fun _ => True) (.inr ⟨hw, rfl⟩) trivial hk ?_
  rw [act_setDst]
  exact wpAnyG_strengthen _ _ _ _ (h (by simpa using hsz) (closed_set h1 hcl hsz hr) hk)

def effOk (ops : Array Oper) (T : Array (List Nat)) (listed : Array Bool) (l : List Nat) : Bool :=
  tableOk .any ops T && Region.ready .any ops listed == l

/-- One of those that are ready comes, and acts. -/
structure XOne (P : Program) (f : Fr) (n : Nat) (R : Value → World → Prop) (k : List Item) (ops : Array Oper) (T : Array (List Nat)) (held : Helds) (fuel : Nat) (listed : Array Bool) (σ : Env) (w : World) (j : Nat) : Prop where
  mk ::
  h : opW P ops j (fun a' w' => AllHeld (after T held j) w' ∧ ∃ σ', a' = f.act n σ' ∧ XAny P f n R k ops T (after T held j) fuel (listed.setIfInBounds j true) σ' w') (f.act n σ) w

theorem xa_all {l : List Nat} (hc : effOk ops T listed l = true) (hl : l ≠ []) (h : ∀ j ∈ l, XOne P f n R k ops T held fuel listed σ w j) : XAny P f n R k ops T held (fuel + 1) listed σ w := by
  intro hsz hcl hk
  simp only [effOk, Bool.and_eq_true, beq_iff_eq] at hc
  refine ⟨fun h0 => absurd (hc.2 ▸ h0) hl, fun j hj => ?_⟩
  refine opW_mono (fun a' w' h' => ?_) (h j (hc.2 ▸ hj)).h
  obtain ⟨ha, σ', rfl, hx⟩ := h'
  exact ⟨ha, hx (by simpa using hsz) (closed_set hc.1 hcl hsz hj) ha⟩

theorem x_one {j : Nat} {o : Oper} {K : Value → World → Prop} (ho : ops[j]? = some o) (hw : Region.wanted o (yielded ops (mkAct n σ).tmps) = true)
    (hp : EffOp P (ev n σ) o w K) (h : ∀ v w', K v w' → AllHeld (after T held j) w' ∧ XAny P f n R k ops T (after T held j) fuel (listed.setIfInBounds j true) (setDst o.dst v σ) w') :
    XOne P f n R k ops T held fuel listed σ w j := by
  refine ⟨opW_yes ho hw ?_⟩
  rw [act_eval]
  refine hp.mono fun v w' hk => ?_
  rw [act_setDst]
  exact ⟨(h v w' hk).1, _, rfl, (h v w' hk).2⟩

theorem xa_eff' (held' : Helds) {j : Nat} {o : Oper} {K : Value → World → Prop} (hc : effOk ops T listed [j] = true) (hh : after T held j = held') (ho : ops[j]? = some o) (hw : Region.wanted o (yielded ops (mkAct n σ).tmps) = true)
    (hp : EffOp P (ev n σ) o w K) (h : ∀ v w', K v w' → AllHeld held' w' ∧ XAny P f n R k ops T held' fuel (listed.setIfInBounds j true) (setDst o.dst v σ) w') :
    XAny P f n R k ops T held (fuel + 1) listed σ w :=
  xa_all hc (by simp) fun m hm => by
    obtain rfl : m = j := by simpa using hm
    subst hh
    exact x_one ho hw hp h
theorem xa_two {i j : Nat} (hc : effOk ops T listed [i, j] = true) (h1 : XOne P f n R k ops T held fuel listed σ w i) (h2 : XOne P f n R k ops T held fuel listed σ w j) :
    XAny P f n R k ops T held (fuel + 1) listed σ w :=
  xa_all hc (by simp) fun m hm => by
    rcases (by simpa using hm : m = i ∨ m = j) with rfl | rfl
    · exact h1
    · exact h2
theorem xone_eff' (held' : Helds) {j : Nat} {o : Oper} {K : Value → World → Prop} (hh : after T held j = held') (ho : ops[j]? = some o) (hw : Region.wanted o (yielded ops (mkAct n σ).tmps) = true)
    (hp : EffOp P (ev n σ) o w K) (h : ∀ v w', K v w' → AllHeld held' w' ∧ XAny P f n R k ops T held' fuel (listed.setIfInBounds j true) (setDst o.dst v σ) w') :
    XOne P f n R k ops T held fuel listed σ w j := by
  subst hh
  exact x_one ho hw hp h
/-! The steps, the operation as it stands in the region's list -/
variable {l l' : List Oper} {i d : Nat} {o : Oper} {v : Value} {S : World → Prop} {K : Value → World → Prop}
theorem xa_read (i : Nat) (hc : takeOk l.toArray T listed i = true) (ho : l.drop i = o :: l') (hd : o.dst = some d) (hw : Region.wanted o (yielded l.toArray (mkAct n σ).tmps) = true)
    (hp : ∀ w, S w → ReadOp P (ev n σ) o v w) (hS : S w) (h : XAny P f n R k l.toArray T ((i, S) :: held) fuel (listed.setIfInBounds i true) (upd d v σ) w) :
    XAny P f n R k l.toArray T held (fuel + 1) listed σ w := xa_read' hc (drop_get ho) hw hp hS (by rw [hd]; exact h)
theorem xa_pure (i : Nat) (hc : takeOk l.toArray T listed i = true) (ho : l.drop i = o :: l') (hd : o.dst = some d) (hw : Region.wanted o (yielded l.toArray (mkAct n σ).tmps) = true)
    (hp : PureOp P (ev n σ) o v) (h : XAny P f n R k l.toArray T held fuel (listed.setIfInBounds i true) (upd d v σ) w) :
    XAny P f n R k l.toArray T held (fuel + 1) listed σ w := xa_pure' hc (drop_get ho) hw hp (by rw [hd]; exact h)
theorem xa_skip (i : Nat) (hc : takeOk l.toArray T listed i = true) (ho : l.drop i = o :: l') (hd : o.dst = some d) (hw : Region.wanted o (yielded l.toArray (mkAct n σ).tmps) = false)
    (h : XAny P f n R k l.toArray T held fuel (listed.setIfInBounds i true) (upd d undef σ) w) :
    XAny P f n R k l.toArray T held (fuel + 1) listed σ w := xa_skip' hc (drop_get ho) hw (by rw [hd]; exact h)
theorem xa_eff (j : Nat) (held' : Helds) (hc : effOk l.toArray T listed [j] = true) (hh : after T held j = held') (ho : l.drop j = o :: l') (hd : o.dst = some d) (hw : Region.wanted o (yielded l.toArray (mkAct n σ).tmps) = true)
    (hp : EffOp P (ev n σ) o w K) (h : ∀ v w', K v w' → AllHeld held' w' ∧ XAny P f n R k l.toArray T held' fuel (listed.setIfInBounds j true) (upd d v σ) w') :
    XAny P f n R k l.toArray T held (fuel + 1) listed σ w := xa_eff' held' hc hh (drop_get ho) hw hp (by rw [hd]; exact h)
theorem xa_effN (j : Nat) (held' : Helds) (hc : effOk l.toArray T listed [j] = true) (hh : after T held j = held') (ho : l.drop j = o :: l') (hd : o.dst = none) (hw : Region.wanted o (yielded l.toArray (mkAct n σ).tmps) = true)
    (hp : EffOp P (ev n σ) o w K) (h : ∀ v w', K v w' → AllHeld held' w' ∧ XAny P f n R k l.toArray T held' fuel (listed.setIfInBounds j true) σ w') :
    XAny P f n R k l.toArray T held (fuel + 1) listed σ w := xa_eff' held' hc hh (drop_get ho) hw hp (by rw [hd]; exact h)
theorem xone_eff (j : Nat) (held' : Helds) (hh : after T held j = held') (ho : l.drop j = o :: l') (hd : o.dst = some d) (hw : Region.wanted o (yielded l.toArray (mkAct n σ).tmps) = true)
    (hp : EffOp P (ev n σ) o w K) (h : ∀ v w', K v w' → AllHeld held' w' ∧ XAny P f n R k l.toArray T held' fuel (listed.setIfInBounds j true) (upd d v σ) w') :
    XOne P f n R k l.toArray T held fuel listed σ w j := xone_eff' held' hh (drop_get ho) hw hp (by rw [hd]; exact h)
end rules
end
end Go.X

/- The engine's laws: what each operation comes to. -/
set_option linter.all false
namespace Go.X
open Go

/-- A slice, taken apart. -/
structure Sl where
  a : Option Addr
  len : Nat
  cap : Nat
def Sl.v (s : Sl) : Value := .slice s.a s.len s.cap
def Sl.nil : Sl := ⟨none, 0, 0⟩

/-- A value of a kind. -/
def As {α : Type} (enc : α → Value) (v : Value) (K : α → Prop) : Prop := ∃ x, v = enc x ∧ K x
def As2 (v : Value) (K : Value → Value → Prop) : Prop := ∃ x y, v = .tuple #[x, y] ∧ K x y
def As3 (v : Value) (K : Value → Value → Value → Prop) : Prop := ∃ x y z, v = .tuple #[x, y, z] ∧ K x y z
def As4 (v : Value) (K : Value → Value → Value → Value → Prop) : Prop := ∃ x y z u, v = .tuple #[x, y, z, u] ∧ K x y z u
def IfB (b : Bool) (A B : Prop) : Prop := (b = true → A) ∧ (b = false → B)
def Lp {α : Type} (F : (α → World → Prop) → α → World → Prop) (s : α) (w : World) : Prop :=
  ∃ (I : α → World → Prop) (μ : α → World → Nat), I s w ∧ ∀ s w, I s w → F (fun s' w' => I s' w' ∧ μ s' w' < μ s w) s w

section pure
variable {P : Program} {ρ : Operand → Value} {o : Oper}

theorem p_move {x : Operand} {v : Value} (ho : o.op = .move x) (hv : ρ x = v) : PureOp P ρ o v := fun w => by simp [execOp, ho, hv]
theorem p_assign {x : Operand} {v : Value} (ho : o.op = .assign x) (hv : ρ x = v) : PureOp P ρ o v := fun w => by simp [execOp, ho, hv]
theorem p_pickT {c x y : Operand} {b : Bool} (ho : o.op = .pick c x y) (hc : ρ c = .bool b) (hb : b = true) {v : Value} (hv : ρ x = v) : PureOp P ρ o v := fun w => by subst hb; simp [execOp, ho, hc, asBool, hv]
theorem p_pickF {c x y : Operand} {b : Bool} (ho : o.op = .pick c x y) (hc : ρ c = .bool b) (hb : b = false) {v : Value} (hv : ρ y = v) : PureOp P ρ o v := fun w => by subst hb; simp [execOp, ho, hc, asBool, hv]

theorem eqGuard_int {op : BinOp} {t : TypeId} {x y : Operand} {k k' : IntKind} {m n : Int} {w : World} : (eqGuard op t x y (.int k m) (.int k' n)).run P w = .ok () w := by
  unfold eqGuard; cases op <;> simp

variable {t t' : TypeId} {x y : Operand} {k : IntKind} {m n : Int}
theorem p_add (ho : o.op = .binOp .add t x y t') (hx : ρ x = .int k m) (hy : ρ y = .int k n) : PureOp P ρ o (.int k (k.wrap (m + n))) := fun w => by
  simp [execOp, ho, hx, hy, binOp, Op.intArith, eqGuard_int]
theorem p_sub (ho : o.op = .binOp .sub t x y t') (hx : ρ x = .int k m) (hy : ρ y = .int k n) : PureOp P ρ o (.int k (k.wrap (m - n))) := fun w => by
  simp [execOp, ho, hx, hy, binOp, Op.intArith, eqGuard_int]
theorem p_mul (ho : o.op = .binOp .mul t x y t') (hx : ρ x = .int k m) (hy : ρ y = .int k n) : PureOp P ρ o (.int k (k.wrap (m * n))) := fun w => by
  simp [execOp, ho, hx, hy, binOp, Op.intArith, eqGuard_int]
theorem p_quo (ho : o.op = .binOp .quo t x y t') (hx : ρ x = .int k m) (hy : ρ y = .int k n) (hn : n ≠ 0) : PureOp P ρ o (.int k (k.wrap (m.tdiv n))) := fun w => by
  simp [execOp, ho, hx, hy, binOp, Op.intDiv, eqGuard_int, hn]
theorem p_rem (ho : o.op = .binOp .rem t x y t') (hx : ρ x = .int k m) (hy : ρ y = .int k n) (hn : n ≠ 0) : PureOp P ρ o (.int k (m.tmod n)) := fun w => by
  simp [execOp, ho, hx, hy, binOp, Op.intDiv, eqGuard_int, hn]
def andK (k : IntKind) (m n : Int) : Int := k.wrap (BitVec.ofInt k.bits m &&& BitVec.ofInt k.bits n).toNat
def orK (k : IntKind) (m n : Int) : Int := k.wrap (BitVec.ofInt k.bits m ||| BitVec.ofInt k.bits n).toNat
def xorK (k : IntKind) (m n : Int) : Int := k.wrap (BitVec.ofInt k.bits m ^^^ BitVec.ofInt k.bits n).toNat
def andNotK (k : IntKind) (m n : Int) : Int := k.wrap (BitVec.ofInt k.bits m &&& ~~~BitVec.ofInt k.bits n).toNat
theorem p_and (ho : o.op = .binOp .and t x y t') (hx : ρ x = .int k m) (hy : ρ y = .int k n) : PureOp P ρ o (.int k (andK k m n)) := fun w => by
  simp [execOp, ho, hx, hy, binOp, Op.intBits, eqGuard_int, andK]
theorem p_or (ho : o.op = .binOp .or t x y t') (hx : ρ x = .int k m) (hy : ρ y = .int k n) : PureOp P ρ o (.int k (orK k m n)) := fun w => by
  simp [execOp, ho, hx, hy, binOp, Op.intBits, eqGuard_int, orK]
theorem p_xor (ho : o.op = .binOp .xor t x y t') (hx : ρ x = .int k m) (hy : ρ y = .int k n) : PureOp P ρ o (.int k (xorK k m n)) := fun w => by
  simp [execOp, ho, hx, hy, binOp, Op.intBits, eqGuard_int, xorK]
theorem p_andNot (ho : o.op = .binOp .andNot t x y t') (hx : ρ x = .int k m) (hy : ρ y = .int k n) : PureOp P ρ o (.int k (andNotK k m n)) := fun w => by
  simp [execOp, ho, hx, hy, binOp, Op.intBits, eqGuard_int, andNotK]
def shlK (k : IntKind) (m n : Int) : Int := k.wrap (m * 2 ^ (min n.toNat k.bits))
def shrK (k : IntKind) (m n : Int) : Int := m.fdiv (2 ^ (min n.toNat k.bits))
theorem p_shl {k' : IntKind} (ho : o.op = .binOp .shl t x y t') (hx : ρ x = .int k m) (hy : ρ y = .int k' n) (hn : 0 ≤ n) : PureOp P ρ o (.int k (shlK k m n)) := fun w => by
  have h : ¬ n < 0 := by omega
  simp [execOp, ho, hx, hy, binOp, Op.shift, eqGuard_int, h, shlK]
theorem p_shr {k' : IntKind} (ho : o.op = .binOp .shr t x y t') (hx : ρ x = .int k m) (hy : ρ y = .int k' n) (hn : 0 ≤ n) : PureOp P ρ o (.int k (shrK k m n)) := fun w => by
  have h : ¬ n < 0 := by omega
  simp [execOp, ho, hx, hy, binOp, Op.shift, eqGuard_int, h, shrK]
theorem p_eq (ho : o.op = .binOp .eql t x y t') (hx : ρ x = .int k m) (hy : ρ y = .int k n) : PureOp P ρ o (.bool (decide (m = n))) := fun w => by
  simp [execOp, ho, hx, hy, binOp, Op.intCmp, eqGuard_int]; rfl
theorem p_ne (ho : o.op = .binOp .neq t x y t') (hx : ρ x = .int k m) (hy : ρ y = .int k n) : PureOp P ρ o (.bool (!decide (m = n))) := fun w => by
  simp [execOp, ho, hx, hy, binOp, Op.intCmp, eqGuard_int]; rfl
theorem p_lt (ho : o.op = .binOp .lss t x y t') (hx : ρ x = .int k m) (hy : ρ y = .int k n) : PureOp P ρ o (.bool (decide (m < n))) := fun w => by
  simp [execOp, ho, hx, hy, binOp, Op.intCmp, eqGuard_int]
theorem p_le (ho : o.op = .binOp .leq t x y t') (hx : ρ x = .int k m) (hy : ρ y = .int k n) : PureOp P ρ o (.bool (decide (m ≤ n))) := fun w => by
  simp [execOp, ho, hx, hy, binOp, Op.intCmp, eqGuard_int]
theorem p_gt (ho : o.op = .binOp .gtr t x y t') (hx : ρ x = .int k m) (hy : ρ y = .int k n) : PureOp P ρ o (.bool (decide (n < m))) := fun w => by
  simp [execOp, ho, hx, hy, binOp, Op.intCmp, eqGuard_int]
theorem p_ge (ho : o.op = .binOp .geq t x y t') (hx : ρ x = .int k m) (hy : ρ y = .int k n) : PureOp P ρ o (.bool (decide (n ≤ m))) := fun w => by
  simp [execOp, ho, hx, hy, binOp, Op.intCmp, eqGuard_int]
theorem p_not {b : Bool} (ho : o.op = .unOp .not t x) (hx : ρ x = .bool b) : PureOp P ρ o (.bool (!b)) := fun w => by simp [execOp, ho, hx, Op.unary]
theorem p_neg (ho : o.op = .unOp .neg t x) (hx : ρ x = .int k m) : PureOp P ρ o (.int k (k.wrap (0 - m))) := fun w => by simp [execOp, ho, hx, Op.unary, Op.intArith]
theorem p_conv {k' : IntKind} {d : TypeDesc} (ho : o.op = .convert t t' x) (h1 : P.underlying t = some d) (h2 : P.underlying t' = some (.int k')) (hx : ρ x = .int k m) : PureOp P ρ o (.int k' (k'.wrap m)) := fun w => by
  simp [execOp, ho, hx, convert, run_underlying h1, run_underlying h2, Conv.intToInt]
theorem equalIn_run (_ : Nat) (t : TypeId) (x y : Value) (w : World) (b : Bool) (h : ∀ d, (Op.equalIn (d + 1) t x y).run P w = .ok b w) : (Op.equal t x y).run P w = .ok b w := h 9999
theorem eql_run {t : TypeId} {x y : Value} {w : World} {b : Bool} (he : binOp .eql t x y = (do pure (.bool (← Op.equal t x y)))) (h : (Op.equal t x y).run P w = .ok b w) : (binOp .eql t x y).run P w = .ok (.bool b) w := by
  rw [he]; simp [h]
theorem neq_run {t : TypeId} {x y : Value} {w : World} {b : Bool} (he : binOp .neq t x y = (do pure (.bool (!(← Op.equal t x y))))) (h : (Op.equal t x y).run P w = .ok b w) : (binOp .neq t x y).run P w = .ok (.bool (!b)) w := by
  rw [he]; simp [h]
theorem exec_eql {t' : TypeId} {vx vy : Value} {b : Bool} {w : World} (ho : o.op = .binOp .eql t x y t') (hx : ρ x = vx) (hy : ρ y = vy) (hg : (eqGuard .eql t x y vx vy).run P w = .ok () w)
    (he : binOp .eql t vx vy = (do pure (.bool (← Op.equal t vx vy)))) (h : ∀ d, (Op.equalIn (d + 1) t vx vy).run P w = .ok b w) : (execOp ρ o).run P w = .ok (.value (.bool b)) w := by
  simp only [execOp, ho, hx, hy]
  simp [hg, eql_run he (equalIn_run 0 t vx vy w b h)]
theorem exec_neq {t' : TypeId} {vx vy : Value} {b : Bool} {w : World} (ho : o.op = .binOp .neq t x y t') (hx : ρ x = vx) (hy : ρ y = vy) (hg : (eqGuard .neq t x y vx vy).run P w = .ok () w)
    (he : binOp .neq t vx vy = (do pure (.bool (!(← Op.equal t vx vy))))) (h : ∀ d, (Op.equalIn (d + 1) t vx vy).run P w = .ok b w) : (execOp ρ o).run P w = .ok (.value (.bool (!b))) w := by
  simp only [execOp, ho, hx, hy]
  simp [hg, neq_run he (equalIn_run 0 t vx vy w b h)]
theorem p_beq {a b : Bool} (ho : o.op = .binOp .eql t x y t') (h1 : P.underlying t = some .bool) (hx : ρ x = .bool a) (hy : ρ y = .bool b) : PureOp P ρ o (.bool (a == b)) := fun w =>
  exec_eql ho hx hy (by simp [eqGuard]) rfl fun d => by simp [Op.equalIn, run_underlying h1]
theorem p_bne {a b : Bool} (ho : o.op = .binOp .neq t x y t') (h1 : P.underlying t = some .bool) (hx : ρ x = .bool a) (hy : ρ y = .bool b) : PureOp P ρ o (.bool (!(a == b))) := fun w =>
  exec_neq ho hx hy (by simp [eqGuard]) rfl fun d => by simp [Op.equalIn, run_underlying h1]
/-- strings -/
theorem eqGuard_str {op : BinOp} {a b : ByteArray} {w : World} : (eqGuard op t x y (.string a) (.string b)).run P w = .ok () w := by
  unfold eqGuard; cases op <;> simp
def seq (a b : ByteArray) : Bool := a.toList == b.toList
def slt (a b : ByteArray) : Bool := Op.bytesLess a.toList b.toList
variable {a b : ByteArray}
theorem p_seq (ho : o.op = .binOp .eql t x y t') (hx : ρ x = .string a) (hy : ρ y = .string b) : PureOp P ρ o (.bool (seq a b)) := fun w => by
  simp [execOp, ho, hx, hy, binOp, Op.stringOp, eqGuard_str, seq]
theorem p_sne (ho : o.op = .binOp .neq t x y t') (hx : ρ x = .string a) (hy : ρ y = .string b) : PureOp P ρ o (.bool (!seq a b)) := fun w => by
  simp [execOp, ho, hx, hy, binOp, Op.stringOp, eqGuard_str, seq]
theorem p_slt (ho : o.op = .binOp .lss t x y t') (hx : ρ x = .string a) (hy : ρ y = .string b) : PureOp P ρ o (.bool (slt a b)) := fun w => by
  simp [execOp, ho, hx, hy, binOp, Op.stringOp, eqGuard_str, slt]
theorem p_sle (ho : o.op = .binOp .leq t x y t') (hx : ρ x = .string a) (hy : ρ y = .string b) : PureOp P ρ o (.bool (slt a b || seq a b)) := fun w => by
  simp [execOp, ho, hx, hy, binOp, Op.stringOp, eqGuard_str, slt, seq]
theorem p_sge (ho : o.op = .binOp .geq t x y t') (hx : ρ x = .string a) (hy : ρ y = .string b) : PureOp P ρ o (.bool (!slt a b)) := fun w => by
  simp [execOp, ho, hx, hy, binOp, Op.stringOp, eqGuard_str, slt]
theorem p_sgt (ho : o.op = .binOp .gtr t x y t') (hx : ρ x = .string a) (hy : ρ y = .string b) : PureOp P ρ o (.bool (!(slt a b || seq a b))) := fun w => by
  simp [execOp, ho, hx, hy, binOp, Op.stringOp, eqGuard_str, slt, seq]
theorem p_scat (ho : o.op = .binOp .add t x y t') (hx : ρ x = .string a) (hy : ρ y = .string b) (h : ((a.size + b.size : Nat) : Int) ≤ IntKind.i64.max) : PureOp P ρ o (.string (a ++ b)) := fun w => by
  have h' : ¬ ((a.size + b.size : Nat) : Int) > IntKind.i64.max := by omega
  simp only [execOp, ho, hx, hy, binOp, Op.stringOp, h', if_false]
  simp [eqGuard_str]
/-- pointers, maps, functions against nil -/
theorem p_ptrNil {e : TypeId} {p : Option Addr} (ho : o.op = .binOp .eql t x y t') (h1 : P.underlying t = some (.pointer e)) (hx : ρ x = .pointer p) (hy : ρ y = .pointer none) : PureOp P ρ o (.bool p.isNone) := fun w => by
  cases p <;> exact exec_eql ho hx hy (by simp [eqGuard]) rfl fun d => by simp [Op.equalIn, run_underlying h1]
theorem p_ptrNotNil {e : TypeId} {p : Option Addr} (ho : o.op = .binOp .neq t x y t') (h1 : P.underlying t = some (.pointer e)) (hx : ρ x = .pointer p) (hy : ρ y = .pointer none) : PureOp P ρ o (.bool (!p.isNone)) := fun w => by
  cases p <;> exact exec_neq ho hx hy (by simp [eqGuard]) rfl fun d => by simp [Op.equalIn, run_underlying h1]
theorem p_mapNil {e e' : TypeId} {p : Option Nat} (ho : o.op = .binOp .eql t x y t') (h1 : P.underlying t = some (.map e e')) (hx : ρ x = .map p) (hy : ρ y = .map none) : PureOp P ρ o (.bool p.isNone) := fun w => by
  cases p <;> exact exec_eql ho hx hy (by simp [eqGuard]) rfl fun d => by simp [Op.equalIn, run_underlying h1]
theorem p_mapNotNil {e e' : TypeId} {p : Option Nat} (ho : o.op = .binOp .neq t x y t') (h1 : P.underlying t = some (.map e e')) (hx : ρ x = .map p) (hy : ρ y = .map none) : PureOp P ρ o (.bool (!p.isNone)) := fun w => by
  cases p <;> exact exec_neq ho hx hy (by simp [eqGuard]) rfl fun d => by simp [Op.equalIn, run_underlying h1]
theorem p_slNil {e : TypeId} {s : Sl} (ho : o.op = .binOp .eql t x y t') (h1 : P.underlying t = some (.slice e)) (hx : ρ x = s.v) (hy : ρ y = .slice none 0 0) : PureOp P ρ o (.bool s.a.isNone) := fun w => by
  obtain ⟨a, l, c⟩ := s; cases a <;> exact exec_eql ho hx hy (by simp [eqGuard, Sl.v]) rfl fun d => by simp [Op.equalIn, Sl.v, run_underlying h1]
theorem p_slNotNil {e : TypeId} {s : Sl} (ho : o.op = .binOp .neq t x y t') (h1 : P.underlying t = some (.slice e)) (hx : ρ x = s.v) (hy : ρ y = .slice none 0 0) : PureOp P ρ o (.bool (!s.a.isNone)) := fun w => by
  obtain ⟨a, l, c⟩ := s; cases a <;> exact exec_neq ho hx hy (by simp [eqGuard, Sl.v]) rfl fun d => by simp [Op.equalIn, Sl.v, run_underlying h1]
theorem p_nilCheck {p : Option Addr} {ad : Addr} (ho : o.op = .nilCheck x) (hx : ρ x = .pointer p) (hp : p = some ad) : PureOp P ρ o (.pointer (some ad)) := fun w => by
  subst hp; simp [execOp, ho, hx]
theorem p_extract {tu : Operand} {i : Nat} {vs : Array Value} {v : Value} (ho : o.op = .extract tu i) (hx : ρ tu = .tuple vs) (hv : vs[i]? = some v) : PureOp P ρ o v := fun w => by
  simp [execOp, ho, hx, Instr.extract, hv]
theorem p_makeFunc {fn' : FuncId} {xs ys : Array Operand} {a b : List Value} (ho : o.op = .makeFunc (.func fn') xs ys) (h1' : xs.toList.map ρ = a) (h2' : ys.toList.map ρ = b) : PureOp P ρ o (.func (.func fn') a.toArray b.toArray) := fun w => by
  have h1 : xs.map ρ = a.toArray := by subst h1'; apply Array.ext'; simp
  have h2 : ys.map ρ = b.toArray := by subst h2'; apply Array.ext'; simp
  simp [execOp, ho, Instr.makeFunc, h1, h2]
/-- A type's row: its zero value, its cells, its bytes. -/
def TI (P : Program) (t : TypeId) (z : Value) (size bytes : Nat) : Prop := ∃ i, P.info? t = some i ∧ i.zero = some z ∧ i.size = size ∧ i.bytes = bytes
theorem TI.mk {P : Program} {t : TypeId} {z : Value} {size bytes : Nat} (h : (P.info? t).map (fun i => (i.zero, i.size, i.bytes)) = some (some z, size, bytes)) : TI P t z size bytes := info_parts h
theorem TI.sizeOf {t : TypeId} {z : Value} {size bytes : Nat} (h : TI P t z size bytes) (w : World) : (Go.sizeOf t).run P w = .ok size w := by
  obtain ⟨i, h1, h2, h3, h4⟩ := h
  simp [Go.sizeOf, typeInfo, h1, h3]
theorem TI.zeroValue {t : TypeId} {z : Value} {size bytes : Nat} (h : TI P t z size bytes) (w : World) : (Go.zeroValue t).run P w = .ok z w := by
  obtain ⟨i, h1, h2, h3, h4⟩ := h
  simp [Go.zeroValue, typeInfo, h1, h2]

theorem field_of {fs : Array Field} {i : Nat} {ft : TypeId} {off : Nat} (h : (fs[i]?).map (fun fd => (fd.type, fd.offset)) = some (ft, off)) : ∃ fd, fs[i]? = some fd ∧ fd.type = ft ∧ fd.offset = off := by
  obtain ⟨fd, h1, h2⟩ := Option.map_eq_some_iff.1 h
  simp only [Prod.mk.injEq] at h2
  exact ⟨fd, h1, h2.1, h2.2⟩
def aggD : TypeDesc → Bool
  | .struct _ | .array _ _ => true
  | _ => false
theorem run_isAgg {t : TypeId} {d : TypeDesc} {w : World} (h : P.underlying t = some d) : (isAgg t).run P w = .ok (aggD d) w := by
  simp only [isAgg, Sem.run_bind, run_underlying h, Result.andThen_ok]
  cases d <;> simp [aggD]
theorem p_fieldAddr {s : TypeId} {fs : Array Field} {i : Nat} {ad : Addr} {p : Option Addr} {z : Value} {ft off size bytes : Nat} (ho : o.op = .fieldAddr s x i) (h1 : P.underlying s = some (.struct fs)) (h2 : (fs[i]?).map (fun fd => (fd.type, fd.offset)) = some (ft, off))
    (h3 : TI P ft z size bytes) (h4 : size ≠ 0) (hx : ρ x = .pointer p) (hp : p = some ad) : PureOp P ρ o (.pointer (some (ad.add off))) := fun w => by
  obtain ⟨fd, e1, rfl, rfl⟩ := field_of h2
  subst hp
  simp [execOp, ho, hx, Instr.fieldAt, run_underlying h1, e1, Instr.sureAddr, fieldPlace, h3.sizeOf, h4]
theorem p_field1 {s : TypeId} {fs : Array Field} {i : Nat} {cs : Array Value} {d : TypeDesc} {v : Value} {ft off : Nat} (ho : o.op = .field s x i) (h1 : P.underlying s = some (.struct fs)) (h2 : (fs[i]?).map (fun fd => (fd.type, fd.offset)) = some (ft, off))
    (h3 : P.underlying ft = some d) (h4 : aggD d = false) (hx : ρ x = .agg cs) (hv : cs[off]? = some v) : PureOp P ρ o v := fun w => by
  obtain ⟨fd, e1, rfl, rfl⟩ := field_of h2
  simp [execOp, ho, hx, Instr.field, run_underlying h1, e1, asAgg, part, run_isAgg h3, h4, hv]
theorem p_fieldN {s : TypeId} {fs : Array Field} {i : Nat} {cs : Array Value} {d : TypeDesc} {z : Value} {ft off size bytes : Nat} (ho : o.op = .field s x i) (h1 : P.underlying s = some (.struct fs)) (h2 : (fs[i]?).map (fun fd => (fd.type, fd.offset)) = some (ft, off))
    (h3 : P.underlying ft = some d) (h4 : aggD d = true) (h5 : TI P ft z size bytes) (hx : ρ x = .agg cs) : PureOp P ρ o (.agg (cs.extract off (off + size))) := fun w => by
  obtain ⟨fd, e1, rfl, rfl⟩ := field_of h2
  simp [execOp, ho, hx, Instr.field, run_underlying h1, e1, asAgg, part, run_isAgg h3, h4, h5.sizeOf]
theorem p_indexAN {e : TypeId} {len : Nat} {cs : Array Value} {n : Int} {z : Value} {size bytes : Nat} {d : TypeDesc} (ho : o.op = .index t x y) (h1 : P.underlying t = some (.array len e)) (h2 : TI P e z size bytes) (h5 : P.underlying e = some d) (h6 : aggD d = true)
    (hx : ρ x = .agg cs) (hy : ρ y = .int k n) (h3 : 0 ≤ n) (h4 : n < len) : PureOp P ρ o (.agg (cs.extract (n.toNat * size) (n.toNat * size + size))) := fun w => by
  simp [execOp, ho, hx, hy, Instr.index, asIntOf, run_underlying h1, h3, h4, h2.sizeOf, part, run_isAgg h5, h6]
theorem p_indexAddr {e : TypeId} {s : Sl} {ad : Addr} {n : Int} {z : Value} {size bytes : Nat} (ho : o.op = .indexAddr t x y) (h1 : P.underlying t = some (.slice e)) (h2 : TI P e z size bytes)
    (hx : ρ x = s.v) (hy : ρ y = .int k n) (ha : s.a = some ad) (h3 : 0 ≤ n) (h4 : n < s.len) : PureOp P ρ o (.pointer (some (ad.add (n.toNat * size)))) := fun w => by
  simp [execOp, ho, hx, hy, Instr.indexAt, asIntOf, run_underlying h1, Sl.v, ha, h3, h4, h2.sizeOf]
theorem p_indexAddrA {e : TypeId} {len : Nat} {ad : Addr} {n : Int} {z : Value} {size bytes : Nat} (ho : o.op = .indexAddr t x y) (h1 : P.underlying t = some (.array len e)) (h2 : TI P e z size bytes)
    (hx : ρ x = .pointer (some ad)) (hy : ρ y = .int k n) (h3 : 0 ≤ n) (h4 : n < len) : PureOp P ρ o (.pointer (some (ad.add (n.toNat * size)))) := fun w => by
  simp [execOp, ho, hx, hy, Instr.indexAt, asIntOf, run_underlying h1, Instr.sureAddr, h3, h4, h2.sizeOf]
theorem p_indexA1 {e : TypeId} {len : Nat} {cs : Array Value} {n : Int} {z v : Value} {bytes : Nat} {d : TypeDesc} (ho : o.op = .index t x y) (h1 : P.underlying t = some (.array len e)) (h2 : TI P e z 1 bytes) (h5 : P.underlying e = some d) (h6 : aggD d = false)
    (hx : ρ x = .agg cs) (hy : ρ y = .int k n) (h3 : 0 ≤ n) (h4 : n < len) (hv : cs[n.toNat]? = some v) : PureOp P ρ o v := fun w => by
  simp [execOp, ho, hx, hy, Instr.index, asIntOf, run_underlying h1, h3, h4, h2.sizeOf, part, run_isAgg h5, h6, hv]
theorem p_indexS {s : ByteArray} {n : Int} (ho : o.op = .index t x y) (h1 : P.underlying t = some .string)
    (hx : ρ x = .string s) (hy : ρ y = .int k n) (h3 : 0 ≤ n) (h4 : n < s.size) : PureOp P ρ o (.int .u8 (s.data.toList.getD n.toNat 0).toNat) := fun w => by
  have h5 : n.toNat < s.size := by omega
  have h6 : s[n.toNat]? = some (s.data.toList.getD n.toNat 0) := by
    rw [getElem?_pos s n.toNat h5]
    simp only [List.getD_eq_getElem?_getD]
    rw [List.getElem?_eq_getElem (by simpa using h5)]
    rfl
  simp only [execOp, ho, hx, hy, Instr.index, asIntOf, Sem.run_bind, Sem.run_pure, Result.andThen_ok, run_underlying h1, h3, if_true, h6]
theorem p_len {s : Sl} {bt e : TypeId} (ho : o.op = .call { callee := .builtin .len, args := #[x], argTypes := #[bt] }) (h1 : P.underlying bt = some (.slice e)) (hx : ρ x = s.v) : PureOp P ρ o (.int .i64 s.len) := fun w => by
  simp [execOp, ho, resolve, invoke, builtin, hx, Builtin.len_, Sl.v, goInt, run_underlying h1]
theorem p_lenS {s : ByteArray} {bt : TypeId} (ho : o.op = .call { callee := .builtin .len, args := #[x], argTypes := #[bt] }) (h1 : P.underlying bt = some .string) (hx : ρ x = .string s) : PureOp P ρ o (.int .i64 s.size) := fun w => by
  simp [execOp, ho, resolve, invoke, builtin, hx, Builtin.len_, goInt, run_underlying h1]
theorem p_lenA {n : Nat} {bt e : TypeId} (ho : o.op = .call { callee := .builtin .len, args := #[x], argTypes := #[bt] }) (h1 : P.underlying bt = some (.array n e)) : PureOp P ρ o (.int .i64 n) := fun w => by
  simp [execOp, ho, resolve, invoke, builtin, Builtin.len_, goInt, run_underlying h1]
end pure

def mxOK (vm : Option Int) (cap m : Nat) : Prop := match vm with | some v => v = (m : Int) | none => m = cap
def hiOK (vh vm : Option Int) (len h m : Nat) : Prop := match vh with | some v => v = (h : Int) ∧ h ≤ m | none => h = len ∧ vm = none
def loOK (vl : Option Int) (l : Nat) : Prop := match vl with | some v => v = (l : Int) | none => l = 0
def hiOKS (vh : Option Int) (len h : Nat) : Prop := match vh with | some v => v = (h : Int) | none => h = len
/-- x[lo:hi:mx] -/
def Cut (s : Sl) (size : Nat) (lo hi mx : Option Int) (K : Sl → Prop) : Prop :=
  ∃ l h m : Nat, mxOK mx s.cap m ∧ m ≤ s.cap ∧ hiOK hi mx s.len h m ∧ loOK lo l ∧ l ≤ h ∧ K ⟨if m = l then s.a else s.a.map (·.add (l * size)), h - l, m - l⟩
def CutS (s : ByteArray) (lo hi : Option Int) (K : ByteArray → Prop) : Prop :=
  ∃ l h : Nat, hiOKS hi s.size h ∧ h ≤ s.size ∧ loOK lo l ∧ l ≤ h ∧ K (s.extract l h)

section cuts
variable {P : Program} {ρ : Operand → Value} {o : Oper} {t : TypeId} {x : Operand}
/-- What an operand that may lack says. -/
def OptI (ρ : Operand → Value) (x : Option Operand) (v : Option Int) : Prop := match x, v with
  | some x, some n => ∃ k, ρ x = .int k n
  | none, none => True
  | _, _ => False
theorem OptI.none : OptI ρ none none := trivial
theorem OptI.some {x : Operand} {k : IntKind} {n : Int} (h : ρ x = .int k n) : OptI ρ (some x) (some n) := ⟨k, h⟩

theorem run_bounds {isS : Bool} {len cap : Nat} {lo hi mx : Option Operand} {vl vh vm : Option Int} (h1 : OptI ρ lo vl) (h2 : OptI ρ hi vh) (h3 : OptI ρ mx vm) {l h m : Nat}
    (hm : mxOK vm cap m) (hmc : m ≤ cap) (hh : hiOK vh vm len h m) (hl : loOK vl l) (hlh : l ≤ h) (w : World) :
    (Instr.sliceBounds isS len cap (lo.map ρ) (hi.map ρ) (mx.map ρ)).run P w = .ok (l, h, m) w := by
  unfold mxOK at hm; unfold hiOK at hh; unfold loOK at hl
  have b : ∀ (x : Operand) (k : IntKind) (n : Nat) (y : Nat) (c : BoundsCode), ρ x = .int k n → n ≤ y → (Instr.sliceBound (ρ x) y c).run P w = .ok n w := by
    intro x k n y c hx hn
    have h0 : (0 : Int) ≤ n ∧ (n : Int) ≤ y := by omega
    simp [Instr.sliceBound, asIntOf, hx, h0]
  cases mx with
  | none =>
    cases vm with
    | some v => exact h3.elim
    | none =>
      simp only at hm; subst hm
      cases hi with
      | none =>
        cases vh with
        | some v => exact h2.elim
        | none =>
          obtain ⟨rfl, _⟩ := hh
          cases lo with
          | none =>
            cases vl with
            | some v => exact h1.elim
            | none => simp only at hl; subst hl; simp [Instr.sliceBounds]
          | some x =>
            cases vl with
            | none => exact h1.elim
            | some v => obtain ⟨k, hx⟩ := h1; simp only at hl; subst hl; simp [Instr.sliceBounds, b x k l _ _ hx hlh]
      | some y =>
        cases vh with
        | none => exact h2.elim
        | some v =>
          obtain ⟨k', hy⟩ := h2
          obtain ⟨rfl, hhm⟩ := hh
          cases lo with
          | none =>
            cases vl with
            | some v => exact h1.elim
            | none => simp only at hl; subst hl; simp [Instr.sliceBounds, b y k' h _ _ hy hhm]
          | some x =>
            cases vl with
            | none => exact h1.elim
            | some v => obtain ⟨k, hx⟩ := h1; simp only at hl; subst hl; simp [Instr.sliceBounds, b y k' h _ _ hy hhm, b x k l _ _ hx hlh]
  | some z =>
    cases vm with
    | none => exact h3.elim
    | some v =>
      obtain ⟨k'', hz⟩ := h3
      simp only at hm; subst hm
      cases hi with
      | none =>
        cases vh with
        | some v => exact h2.elim
        | none => exact absurd hh.2 (by simp)
      | some y =>
        cases vh with
        | none => exact h2.elim
        | some v =>
          obtain ⟨k', hy⟩ := h2
          obtain ⟨rfl, hhm⟩ := hh
          cases lo with
          | none =>
            cases vl with
            | some v => exact h1.elim
            | none => simp only at hl; subst hl; simp [Instr.sliceBounds, b y k' h _ _ hy hhm, b z k'' m _ _ hz hmc]
          | some x =>
            cases vl with
            | none => exact h1.elim
            | some v => obtain ⟨k, hx⟩ := h1; simp only at hl; subst hl; simp [Instr.sliceBounds, b y k' h _ _ hy hhm, b x k l _ _ hx hlh, b z k'' m _ _ hz hmc]

theorem p_slice {e : TypeId} {s : Sl} {z : Value} {size bytes : Nat} {lo hi mx : Option Operand} {vl vh vm : Option Int} (ho : o.op = .slice t x lo hi mx) (h1 : P.underlying t = some (.slice e)) (h2 : TI P e z size bytes) (hx : ρ x = s.v)
    (q1 : OptI ρ lo vl) (q2 : OptI ρ hi vh) (q3 : OptI ρ mx vm) {l h m : Nat}
    (hm : mxOK vm s.cap m) (hmc : m ≤ s.cap) (hh : hiOK vh vm s.len h m) (hl : loOK vl l) (hlh : l ≤ h) :
    PureOp P ρ o (Sl.v ⟨if m = l then s.a else s.a.map (·.add (l * size)), h - l, m - l⟩) := fun w => by
  simp [execOp, ho, hx, Instr.sliceAt, Instr.slice, run_underlying h1, Sl.v, run_bounds q1 q2 q3 hm hmc hh hl hlh, h2.sizeOf]
theorem p_sliceA {e : TypeId} {n : Nat} {ad : Addr} {z : Value} {size bytes : Nat} {lo hi mx : Option Operand} {vl vh vm : Option Int} (ho : o.op = .slice t x lo hi mx) (h1 : P.underlying t = some (.array n e)) (h2 : TI P e z size bytes) (hx : ρ x = .pointer (some ad))
    (q1 : OptI ρ lo vl) (q2 : OptI ρ hi vh) (q3 : OptI ρ mx vm) {l h m : Nat}
    (hm : mxOK vm n m) (hmc : m ≤ n) (hh : hiOK vh vm n h m) (hl : loOK vl l) (hlh : l ≤ h) :
    PureOp P ρ o (Sl.v ⟨if m = l then some ad else (some ad).map (·.add (l * size)), h - l, m - l⟩) := fun w => by
  have e1 : (if m = l then some ad else some (ad.add (l * size))) = some (if m = l then ad else ad.add (l * size)) := by split <;> rfl
  simp [execOp, ho, hx, Instr.sliceAt, Instr.sureAddr, run_underlying h1, Sl.v, run_bounds q1 q2 q3 hm hmc hh hl hlh, h2.sizeOf, e1]
theorem p_sliceS {s : ByteArray} {lo hi : Option Operand} {vl vh : Option Int} (ho : o.op = .slice t x lo hi none) (h1 : P.underlying t = some .string) (hx : ρ x = .string s)
    (q1 : OptI ρ lo vl) (q2 : OptI ρ hi vh) {l h : Nat} (hh : hiOKS vh s.size h) (hhs : h ≤ s.size) (hl : loOK vl l) (hlh : l ≤ h) :
    PureOp P ρ o (.string (s.extract l h)) := fun w => by
  have q : hiOK vh none s.size h s.size := by cases vh <;> simp_all [hiOK, hiOKS]
  have := run_bounds (P := P) (isS := false) (len := s.size) (cap := s.size) q1 q2 (OptI.none (ρ := ρ)) (m := s.size) rfl (Nat.le_refl _) q hl hlh
  simp only [Option.map_none] at this
  simp [execOp, ho, hx, Instr.sliceAt, Instr.slice, run_underlying h1, this]
end cuts

/-! ## Reads -/
def Ld {α : Type} (enc : α → Value) (a : Option Addr) (w : World) (K : α → Prop) : Prop := ∃ ad x, a = some ad ∧ w.cell? ad = some (enc x) ∧ K x
/-- A read whose fact is used behind it too. -/
def LdH {α : Type} (enc : α → Value) (a : Option Addr) (w : World) (K : Addr → α → Prop) : Prop := ∃ ad x, a = some ad ∧ w.cell? ad = some (enc x) ∧ K ad x
def Row (w : World) (ad : Addr) (cs : Array Value) : Prop := ∀ i v, cs[i]? = some v → w.cell? (ad.add i) = some v
def LdN (n : Nat) (a : Option Addr) (w : World) (K : Array Value → Prop) : Prop := ∃ ad cs, a = some ad ∧ cs.size = n ∧ Row w ad cs ∧ K cs
def LdNH (n : Nat) (a : Option Addr) (w : World) (K : Addr → Array Value → Prop) : Prop := ∃ ad cs, a = some ad ∧ cs.size = n ∧ Row w ad cs ∧ K ad cs

section reads
variable {P : Program} {ρ : Operand → Value} {o : Oper} {t : TypeId} {x : Operand} {w : World}
theorem rd_load {d : TypeDesc} {ad : Addr} {v : Value} (ho : o.op = .load t x) (h1 : P.underlying t = some d) (h2 : aggD d = false) (hx : ρ x = .pointer (some ad)) (hc : w.cell? ad = some v) : ReadOp P ρ o v w := by
  unfold ReadOp
  simp [execOp, ho, hx, Instr.loadAt, Instr.sureAddr, loadVar, run_isAgg h1, h2, load, Sem.run, hc]
theorem run_loadCellsFrom {ad : Addr} (cs : Array Value) (hr : Row w ad cs) : ∀ (n i : Nat), i + n = cs.size → (loadCellsFrom ad i n (cs.extract 0 i)).run P w = .ok cs w
  | 0, i, h => by
    have : cs.extract 0 i = cs := by rw [show i = cs.size from by omega]; simp
    simp [loadCellsFrom, this]
  | n + 1, i, h => by
    have hi : i < cs.size := by omega
    have hc := hr i cs[i] (by simp [hi])
    have he : (cs.extract 0 i).push cs[i] = cs.extract 0 (i + 1) := by simp [Array.push_extract_getElem]
    simp only [loadCellsFrom, load, Sem.run_bind, Sem.run, hc, Result.andThen_ok]
    rw [he]
    exact run_loadCellsFrom cs hr n (i + 1) (by omega)
theorem run_loadCells {ad : Addr} {cs : Array Value} (hr : Row w ad cs) : (loadCells ad cs.size).run P w = .ok cs w := by
  have := run_loadCellsFrom (P := P) cs hr cs.size 0 (by omega)
  simpa [loadCells] using this
theorem rd_loadN {d : TypeDesc} {ad : Addr} {cs : Array Value} {z : Value} {bytes n : Nat} (ho : o.op = .load t x) (h1 : P.underlying t = some d) (h2 : aggD d = true) (h3 : TI P t z n bytes) (hx : ρ x = .pointer (some ad)) (hn : cs.size = n) (hr : Row w ad cs) : ReadOp P ρ o (.agg cs) w := by
  unfold ReadOp
  subst hn
  simp [execOp, ho, hx, Instr.loadAt, Instr.sureAddr, loadVar, run_isAgg h1, h2, h3.sizeOf, run_loadCells hr]
end reads

/-! ## Effects -/
def Ef {α : Type} (P : Program) (s : Sem Value) (enc : α → Value) (w : World) (K : α → World → Prop) : Prop := ∃ x w', s.run P w = .ok (enc x) w' ∧ K x w'
def EfU (P : Program) (s : Sem Unit) (w : World) (K : World → Prop) : Prop := ∃ w', s.run P w = .ok () w' ∧ K w'
def New (cells : Array Value) (e : TypeId) (w : World) (K : Addr → World → Prop) : Prop := K ⟨w.heap.size, 0, none⟩ (w.alloc (.cells cells e))
def St (a : Option Addr) (v : Value) (w : World) (K : World → Prop) : Prop := ∃ ad, a = some ad ∧ (w.cell? ad).isSome = true ∧ w.frozen? ad = false ∧ K (w.setCell ad v)
def setRow' (w : World) (ad : Addr) : List Value → Nat → World
  | [], _ => w
  | v :: vs, i => setRow' (w.setCell (ad.add i) v) ad vs (i + 1)
def StN (n : Nat) (a : Option Addr) (cs : Array Value) (w : World) (K : World → Prop) : Prop :=
  ∃ ad, a = some ad ∧ cs.size = n ∧ (∀ v ∈ cs, v.oneCell' = true) ∧ (∀ i, i < n → (w.cell? (ad.add i)).isSome = true ∧ w.frozen? (ad.add i) = false) ∧ K (setRow' w ad cs.toList 0)

section effs
variable {P : Program} {ρ : Operand → Value} {o : Oper} {t : TypeId} {x y : Operand} {w : World}
theorem e_val {s : Sem Value} {v : Value} {w' : World} {K : Value → World → Prop} (he : execOp ρ o = (do pure (.value (← s)))) (hr : s.run P w = .ok v w') (h : K v w') : EffOp P ρ o w K := by
  unfold EffOp; rw [he]; simp [hr, h]
theorem e_unit {s : Sem Unit} {w' : World} {K : Value → World → Prop} (he : execOp ρ o = (do s; pure .skip)) (hr : s.run P w = .ok () w') (h : K undef w') : EffOp P ρ o w K := by
  unfold EffOp; rw [he]; simp [hr, h]
theorem e_alloc {z : Value} {size bytes : Nat} {N : Addr → World → Prop} (ho : o.op = .alloc t) (h1 : TI P t z size bytes) (h : New z.cells t w N) : EffOp P ρ o w fun v w' => ∃ a, v = .pointer (some a) ∧ N a w' :=
  e_val (v := .pointer (some ⟨w.heap.size, 0, none⟩)) (w' := w.alloc (.cells z.cells t)) (s := Instr.alloc t true (.tuple #[])) (by simp [execOp, ho]) (by simp [Instr.alloc, h1.zeroValue, newVar, newRow, newObj, Sem.run]) ⟨_, rfl, h⟩
theorem e_box {v : Value} {N : Addr → World → Prop} (ho : o.op = .box t x) (hx : ρ x = v) (h : New v.cells t w N) : EffOp P ρ o w fun v w' => ∃ a, v = .pointer (some a) ∧ N a w' :=
  e_val (v := .pointer (some ⟨w.heap.size, 0, none⟩)) (w' := w.alloc (.cells v.cells t)) (s := Instr.box t v) (by simp [execOp, ho, hx]) (by simp [Instr.box, newVar, newRow, newObj, Sem.run]) ⟨_, rfl, h⟩
theorem e_store {a : Option Addr} {v : Value} {z : Value} {bytes : Nat} {N : World → Prop} (ho : o.op = .store t x y) (h1 : TI P t z 1 bytes) (hv : v.oneCell' = true) (hx : ρ x = .pointer a) (hy : ρ y = v) (h : St a v w N) : EffOp P ρ o w fun _ w' => N w' := by
  obtain ⟨ad, rfl, hc, hf, h⟩ := h
  obtain ⟨u, hu⟩ := Option.isSome_iff_exists.1 hc
  refine e_unit (s := Instr.storeAt t (.pointer (some ad)) v) (by simp [execOp, ho, hx, hy]) ?_ h
  have h0 : (ad.add 0) = ad := by simp [Addr.add]
  cases v <;> first | (simp [Value.oneCell'] at hv; done) | simp [Instr.storeAt, Instr.sureAddr, storeVar, h1.sizeOf, Value.cells, storeCells, store, h0, Sem.run, hu, hf]
theorem run_storeCells {ad : Addr} : ∀ (vs : List Value) (i : Nat) (w : World), (∀ v ∈ vs, v.oneCell' = true) → (∀ j, i ≤ j → j < i + vs.length → (w.cell? (ad.add j)).isSome = true ∧ w.frozen? (ad.add j) = false) →
    (storeCells ad vs i).run P w = .ok () (setRow' w ad vs i)
  | [], i, w, _, _ => by simp [storeCells, setRow']
  | v :: vs, i, w, h1, h2 => by
    obtain ⟨hc, hf⟩ := h2 i (Nat.le_refl _) (by simp)
    obtain ⟨u, hu⟩ := Option.isSome_iff_exists.1 hc
    have hv := h1 v (.head _)
    have hs : ∀ p q, (w.cell? p).isSome = true → ((w.setCell q v).cell? p).isSome = true := fun p q hp => by
      unfold World.cell? World.setCell at *
      by_cases e : q.block = p.block
      · rw [e]
        cases hb : w.heap[p.block]? with
        | none => simp [hb] at hp
        | some b =>
          have hlt := (Array.getElem?_eq_some_iff.1 hb).1
          simp only [hb] at hp
          simp only [Array.getElem?_modify, hb, if_true, Option.map_some]
          cases b <;> simp_all
          split at hp <;> simp_all
          split <;> simp_all
      · simp only [Array.getElem?_modify, if_neg e]
        exact hp
    have ih := run_storeCells (ad := ad) vs (i + 1) (w.setCell (ad.add i) v) (fun u hu => h1 u (.tail _ hu)) (fun j hj hj2 => by
      have := h2 j (by omega) (by simp only [List.length_cons]; omega)
      exact ⟨hs _ _ this.1, by rw [World.frozen?_setCell]; exact this.2⟩)
    cases v <;> first | (simp [Value.oneCell'] at hv; done) | simp [storeCells, store, Sem.run, hu, hf, ih, setRow']
theorem e_storeN {n : Nat} {a : Option Addr} {cs : Array Value} {z : Value} {bytes : Nat} {N : World → Prop} (ho : o.op = .store t x y) (h1 : TI P t z n bytes) (hx : ρ x = .pointer a) (hy : ρ y = .agg cs) (h : StN n a cs w N) : EffOp P ρ o w fun _ w' => N w' := by
  obtain ⟨ad, rfl, hn, h1c, hc, h⟩ := h
  refine e_unit (s := Instr.storeAt t (.pointer (some ad)) (.agg cs)) (by simp [execOp, ho, hx, hy]) ?_ h
  subst hn
  simp [Instr.storeAt, Instr.sureAddr, storeVar, h1.sizeOf, Value.cells]
  exact run_storeCells _ _ _ (fun v hv => h1c v (by simpa using hv)) (fun j _ hj => hc j (by simpa using hj))
theorem e_buildSlice0 {e : TypeId} {z : Value} {size bytes : Nat} {N : Addr → World → Prop} (ho : o.op = .buildSlice t 0 #[]) (h1 : P.underlying t = some (.slice e)) (h2 : TI P e z size bytes)
    (h : New #[] e w N) : EffOp P ρ o w fun v w' => ∃ a, v = Sl.v ⟨some a, 0, 0⟩ ∧ N a w' := by
  refine e_val (s := Instr.buildSlice t 0 #[]) (by simp [execOp, ho]) (v := Sl.v ⟨some ⟨w.heap.size, 0, none⟩, 0, 0⟩) (w' := w.alloc (.cells #[] e)) ?_ ⟨_, rfl, h⟩
  have e0 : Array.range 0 = #[] := by simp [Array.range]
  simp [Instr.buildSlice, run_underlying h1, h2.sizeOf, Instr.fill, newRow, newObj, Sem.run, Sl.v, e0]
theorem e_buildSlice {e : TypeId} {n : Nat} {ps : Array (Nat × Operand)} {cells : Array Value} {z : Value} {size bytes : Nat} {N : Addr → World → Prop} (ho : o.op = .buildSlice t n ps) (h1 : P.underlying t = some (.slice e)) (h2 : TI P e z size bytes) (h3 : n * size ≤ 2 ^ 24) (h0 : n * size ≠ 0)
    {pl : List (Nat × Value)} (h4' : Instr.fill (fun i => some (i * size, size)) ((Array.range (n * size)).map (z.cells[· % z.cells.size]!)) pl = some cells) (hl : ps.toList.map (fun p => (p.1, ρ p.2)) = pl)
    (h : New cells e w N) : EffOp P ρ o w fun v w' => ∃ a, v = Sl.v ⟨some a, n, n⟩ ∧ N a w' := by
  have h4 : Instr.fill (fun i => some (i * size, size)) ((Array.range (n * size)).map (z.cells[· % z.cells.size]!)) ((ps.map fun p => (p.1, ρ p.2)).toList) = some cells := by rw [Array.toList_map, hl]; exact h4'
  have h3' : ¬ n * size > 2 ^ 24 := by omega
  refine e_val (s := Instr.buildSlice t n (ps.map fun p => (p.1, ρ p.2))) (by simp [execOp, ho]) (v := Sl.v ⟨some ⟨w.heap.size, 0, none⟩, n, n⟩) (w' := w.alloc (.cells cells e)) ?_ ⟨_, rfl, h⟩
  simp only [Instr.buildSlice, Sem.run_bind, run_underlying h1, Result.andThen_ok, h2.sizeOf, h3', if_false, h0, h2.zeroValue, Sem.run_pure]
  simp only [h4, newRow, newObj, Sem.run, Sem.run_bind, World.alloc, Sl.v, Result.andThen_ok, Sem.run_pure]
theorem foldl_set : ∀ (l : List Value) (k : Nat) (init : Array Value), k + l.length ≤ init.size →
   (l.zipIdx k).foldl (fun (a : Array Value) p => a.setIfInBounds p.2 p.1) init = (init.toList.take k ++ l ++ init.toList.drop (k + l.length)).toArray
  | [], k, init, _ => by simp
  | v :: l, k, init, h => by
    simp only [List.length_cons] at h
    simp only [List.zipIdx_cons, List.foldl_cons]
    rw [foldl_set l (k + 1) _ (by simp; omega)]
    congr 1
    simp only [Array.toList_setIfInBounds, List.length_cons]
    apply List.ext_getElem?
    intro j
    simp only [List.getElem?_append, List.getElem?_take, List.getElem?_set, List.length_take, List.length_set, Array.length_toList, List.getElem?_drop, List.length_append, List.length_cons, List.append_assoc, List.cons_append]
    grind
theorem fill_agg (cs init : Array Value) (h : init.size = cs.size) : cs.zipIdx.foldl (fun a (p : Value × Nat) => a.setIfInBounds (0 + p.2) p.1) init = cs := by
  rw [← Array.foldl_toList]
  simp only [Nat.zero_add, Array.toList_zipIdx]
  have := foldl_set cs.toList 0 init (by simp [h])
  rw [this]
  apply Array.ext'
  simp [h]
theorem fill_row : ∀ (vs : List Value) (k : Nat) (init : Array Value), (∀ v ∈ vs, v.oneCell' = true) → k + vs.length ≤ init.size →
    Instr.fill (fun i => some (i * 1, 1)) init ((vs.zipIdx k).map fun p => (p.2, p.1)) = some (init.toList.take k ++ vs ++ init.toList.drop (k + vs.length)).toArray
  | [], k, init, _, _ => by simp [Instr.fill]
  | v :: vs, k, init, h1, h2 => by
    have hv := h1 v (.head _)
    have hc : v.cells = #[v] := by cases v <;> first | rfl | (simp [Value.oneCell'] at hv; done)
    simp only [List.length_cons] at h2
    have ih := fill_row vs (k + 1) (init.setIfInBounds k v) (fun u hu => h1 u (.tail _ hu)) (by simp; omega)
    simp only [List.zipIdx_cons, List.map_cons, Instr.fill, hc]
    have h3 : ¬ (1 ≠ 1 ∨ k * 1 + 1 > init.size) := by omega
    simp only [Nat.mul_one, List.size_toArray, List.length_cons, List.length_nil, Nat.zero_add, ne_eq, not_true_eq_false, decide_false, Bool.false_or, decide_eq_true_eq, gt_iff_lt]
    rw [if_neg (by omega)]
    simp only [Nat.mul_one] at ih ⊢
    rw [show (#[v] : Array Value).zipIdx.foldl (fun cs (p : Value × Nat) => cs.setIfInBounds (k + p.2) p.1) init = init.setIfInBounds k v from by simp]
    rw [ih]
    congr 2
    simp only [Array.toList_setIfInBounds, List.length_cons]
    apply List.ext_getElem?
    intro j
    simp only [List.getElem?_append, List.getElem?_take, List.getElem?_set, List.length_take, List.length_set, Array.length_toList, List.getElem?_drop, List.length_append, List.length_cons, List.append_assoc, List.cons_append]
    grind
theorem e_buildRow {e : TypeId} {ps : Array (Nat × Operand)} {vs : List Value} {z : Value} {n bytes : Nat} {N : Addr → World → Prop} (h : New vs.toArray e w N) (ho : o.op = .buildSlice t n ps) (h1 : P.underlying t = some (.slice e)) (h2 : TI P e z 1 bytes) (h3 : n * 1 ≤ 2 ^ 24) (h0 : n * 1 ≠ 0)
    (hv : ps.toList.map (fun p => (p.1, ρ p.2)) = (vs.zipIdx 0).map fun p => (p.2, p.1)) (hn : vs.length = n) (h1c : ∀ v ∈ vs, v.oneCell' = true) : EffOp P ρ o w fun v w' => ∃ a, v = Sl.v ⟨some a, n, n⟩ ∧ N a w' :=
  e_buildSlice ho h1 h2 h3 h0 (pl := (vs.zipIdx 0).map fun p => (p.2, p.1)) (by
    rw [fill_row vs 0 _ h1c (by simp; omega)]
    congr 2
    simp [hn]) hv h
theorem e_buildAgg {e : TypeId} {x : Operand} {cs : Array Value} {z : Value} {size bytes : Nat} {N : Addr → World → Prop} (h : New cs e w N) (ho : o.op = .buildSlice t 1 #[(0, x)]) (h1 : P.underlying t = some (.slice e)) (h2 : TI P e z size bytes) (h3 : 1 * size ≤ 2 ^ 24) (h0 : 1 * size ≠ 0)
    (hx : ρ x = .agg cs) (hs : cs.size = size) : EffOp P ρ o w fun v w' => ∃ a, v = Sl.v ⟨some a, 1, 1⟩ ∧ N a w' :=
  e_buildSlice ho h1 h2 h3 h0 (pl := [(0, .agg cs)]) (by
    simp only [Instr.fill, Value.cells, Nat.zero_mul, hs, ne_eq, not_true_eq_false, decide_false, Nat.zero_add, Bool.false_or, decide_eq_true_eq, Array.size_map, Array.size_range, Nat.one_mul, Nat.lt_irrefl, gt_iff_lt]
    simp only [Bool.false_eq_true, if_false]
    congr 1
    have := fill_agg cs ((Array.range size).map (z.cells[· % z.cells.size]!)) (by simp [hs])
    simp only [Nat.zero_add] at this
    exact this) (by simp [hx]) h
theorem callFunc_run {g : FuncId} {fn : Func} {c : Code} {args : Array Value} (hf : P.funcs[g]? = some fn) (hn : (fn.name == "runtime.NumGoroutine") = false) (hb : fn.body = some c) : (callFunc g args).run P w = .ok (.enter g args) w := by
  have h : fn.body.isNone = false := by rw [hb]; rfl
  simp only [callFunc, program, Sem.run, Sem.run_bind, Result.andThen_ok, hf, hn, h, Bool.false_eq_true, if_false, Sem.run_pure]
theorem e_call {g : FuncId} {fn : Func} {c : Code} {xs : Array Operand} {ts : Array TypeId} {args : List Value} {K : Value → World → Prop} (h : CallF P g args.toArray w K) (ho : o.op = .call { callee := .value (.func g), args := xs, argTypes := ts }) (hg : ρ (.func g) = .func (.func g) #[] #[])
    (hf : P.funcs[g]? = some fn) (hn : (fn.name == "runtime.NumGoroutine") = false) (hb : fn.body = some c) (ha' : xs.toList.map ρ = args) : EffOp P ρ o w K := by
  have ha : xs.map ρ = args.toArray := by subst ha'; apply Array.ext'; simp
  unfold EffOp
  have e : (execOp ρ o).run P w = .ok (.enter g args.toArray) w := by
    simp only [execOp, ho, resolve, Deferred.ofValue, hg, Sem.run_bind, Sem.run_pure, Result.andThen_ok, ha, invoke, Array.empty_append, Array.append_empty, callFunc_run hf hn hb]
  rw [e]
  exact h
/-- A call of a function value that leads into a body. -/
def CallC (P : Program) (v : Value) (args : Array Value) (w : World) (K : Value → World → Prop) : Prop :=
  ∃ g fn c pre cap, v = .func (.func g) pre cap ∧ P.funcs[g]? = some fn ∧ (fn.name == "runtime.NumGoroutine") = false ∧ fn.body = some c ∧ CallF P g (pre ++ args ++ cap) w K
theorem CallC.mono {P : Program} {v : Value} {args : Array Value} {w : World} {K K' : Value → World → Prop} (h : CallC P v args w K) (hk : ∀ v w', K v w' → K' v w') : CallC P v args w K' := by
  obtain ⟨g, fn, c, pre, cap, h1, h2, h3, h4, h⟩ := h
  exact ⟨g, fn, c, pre, cap, h1, h2, h3, h4, h.mono hk⟩
/-- What a call asks for comes to a value. -/
def NextF (P : Program) (x : Result Next) (K : Value → World → Prop) : Prop :=
  match x with
  | .ok (.value v) w' => K v w'
  | .ok (.enter g args) w' => CallF P g args w' K
  | .ok (.round l g tmps asg body) w' => RoundF P l g tmps asg body w' K
  | _ => False
theorem NextF.mono {P : Program} {x : Result Next} {K K' : Value → World → Prop} (h : NextF P x K) (hk : ∀ v w', K v w' → K' v w') : NextF P x K' := by
  unfold NextF at *
  split at h <;> first | exact hk _ _ h | exact CallF.mono h hk | exact RoundF.mono h hk | exact h.elim
/-- A call of a function value: of a function, or of yield. -/
def CallV (P : Program) (v : Value) (args : Array Value) (w : World) (K : Value → World → Prop) : Prop :=
  NextF P ((do let d ← Deferred.ofValue v args; invoke d.target d.args : Sem Next).run P w) K
theorem CallV.mono {P : Program} {v : Value} {args : Array Value} {w : World} {K K' : Value → World → Prop} (h : CallV P v args w K) (hk : ∀ v w', K v w' → K' v w') : CallV P v args w K' := NextF.mono h hk
theorem CallC.callV {P : Program} {v : Value} {args : Array Value} {w : World} {K : Value → World → Prop} (h : CallC P v args w K) : CallV P v args w K := by
  obtain ⟨g, fn, c, pre, cap, rfl, hf, hn, hb, h⟩ := h
  unfold CallV
  have e : (do let d ← Deferred.ofValue (.func (.func g) pre cap) args; invoke d.target d.args : Sem Next).run P w = .ok (.enter g (pre ++ args ++ cap)) w := by
    simp only [Deferred.ofValue, Sem.run_bind, Sem.run_pure, Result.andThen_ok, invoke, callFunc_run hf hn hb]
  rw [e]
  exact h
theorem e_callv {f : Operand} {v : Value} {xs : Array Operand} {ts : Array TypeId} {args : List Value} {K : Value → World → Prop} (h : CallV P v args.toArray w K) (ho : o.op = .call { callee := .value f, args := xs, argTypes := ts }) (hv : ρ f = v)
    (ha' : xs.toList.map ρ = args) : EffOp P ρ o w K := by
  have ha : xs.map ρ = args.toArray := by subst ha'; apply Array.ext'; simp
  unfold CallV NextF at h
  unfold EffOp
  have e : (execOp ρ o).run P w = (do let d ← Deferred.ofValue v args.toArray; invoke d.target d.args : Sem Next).run P w := by
    simp only [execOp, ho, resolve, hv, ha]
  rw [e]
  split at h
  · rename_i he; rw [he]; exact h
  · rename_i he; rw [he]; exact h
  · rename_i he; rw [he]; exact h
  · exact h.elim
theorem e_app {ts : Array TypeId} {xs : Array Operand} {vs : List Value} {ty : TypeId} {N : Sl → World → Prop} (h : Ef P (Builtin.append_ ts ty vs.toArray) Sl.v w N) (ho : o.op = .call { callee := .builtin .append, args := xs, argTypes := ts }) (hty : o.type = ty) (ha' : xs.toList.map ρ = vs) : EffOp P ρ o w fun v w' => ∃ s, v = Sl.v s ∧ N s w' := by
  obtain ⟨s, w', hr, h⟩ := h
  have ha : xs.map ρ = vs.toArray := by subst ha'; apply Array.ext'; simp
  subst hty
  exact e_val (s := Builtin.append_ ts o.type vs.toArray) (by simp only [execOp, ho, resolve, ha, invoke, builtin, pure_bind]) hr ⟨s, rfl, h⟩
theorem e_copy {ts : Array TypeId} {xs : Array Operand} {vs : List Value} {ty : TypeId} {N : Int → World → Prop} (h : Ef P (Builtin.copy_ ts ty vs.toArray) (.int .i64) w N) (ho : o.op = .call { callee := .builtin .copy, args := xs, argTypes := ts }) (hty : o.type = ty) (ha' : xs.toList.map ρ = vs) : EffOp P ρ o w fun v w' => ∃ n, v = .int .i64 n ∧ N n w' := by
  obtain ⟨s, w', hr, h⟩ := h
  have ha : xs.map ρ = vs.toArray := by subst ha'; apply Array.ext'; simp
  subst hty
  exact e_val (s := Builtin.copy_ ts o.type vs.toArray) (by simp only [execOp, ho, resolve, ha, invoke, builtin, pure_bind]) hr ⟨s, rfl, h⟩
end effs

def NotNil (p : Option Addr) (K : Addr → Prop) : Prop := ∃ a, p = some a ∧ K a
def At {α : Type} (enc : α → Value) (cs : Array Value) (i : Nat) (K : α → Prop) : Prop := ∃ x, cs[i]? = some (enc x) ∧ K x
def Ix (s : Sl) (i : Int) (K : Addr → Prop) : Prop := ∃ a, s.a = some a ∧ 0 ≤ i ∧ i < (s.len : Int) ∧ K a
def IxA (n : Nat) (i : Int) (A : Prop) : Prop := 0 ≤ i ∧ i < (n : Int) ∧ A
def AsT2 {α β : Type} (e1 : α → Value) (e2 : β → Value) (v : Value) (K : α → β → Prop) : Prop := ∃ x y, v = .tuple #[e1 x, e2 y] ∧ K x y
def AsT3 {α β γ : Type} (e1 : α → Value) (e2 : β → Value) (e3 : γ → Value) (v : Value) (K : α → β → γ → Prop) : Prop := ∃ x y z, v = .tuple #[e1 x, e2 y, e3 z] ∧ K x y z
def AsT4 {α β γ δ : Type} (e1 : α → Value) (e2 : β → Value) (e3 : γ → Value) (e4 : δ → Value) (v : Value) (K : α → β → γ → δ → Prop) : Prop := ∃ x y z u, v = .tuple #[e1 x, e2 y, e3 z, e4 u] ∧ K x y z u
def AsNext (v : Value) (K : Array Value → Bool → Prop) : Prop := ∃ vs b, v = .tuple vs ∧ vs[0]? = some (.bool b) ∧ K vs b
/-- the cells of a slice that is written out -/
def Filled (n size : Nat) (z : Array Value) (ps : List (Nat × Value)) (K : Array Value → Prop) : Prop :=
  ∃ c, Instr.fill (fun i => some (i * size, size)) ((Array.range (n * size)).map (z[· % z.size]!)) ps = some c ∧ K c
def Built (places : Array (Nat × Nat)) (z : Array Value) (ps : List (Nat × Value)) (K : Array Value → Prop) : Prop := ∃ c, Instr.fill (places[·]?) z ps = some c ∧ K c
def BuiltA (size : Nat) (z : Array Value) (ps : List (Nat × Value)) (K : Array Value → Prop) : Prop := ∃ c, Instr.fill (fun i => some (i * size, size)) z ps = some c ∧ K c
/-- '==' of two arrays or structs. -/
def EqOK (P : Program) (t : TypeId) (x y : Value) (b : Bool) : Prop := P.eqGuardType P.depth t = false ∧ ∀ w d, (Op.equalIn (d + 5) t x y).run P w = .ok b w
def AggEq (P : Program) (t : TypeId) (x y : Array Value) (K : Bool → Prop) : Prop := ∃ b, EqOK P t (.agg x) (.agg y) b ∧ K b
def minI (a b : Int) : Int := if a ≤ b then a else b
def maxI (a b : Int) : Int := if a ≤ b then b else a
section more0
variable {P : Program} {ρ : Operand → Value} {o : Oper} {t : TypeId} {x y : Operand} {w : World}
theorem eqGuard_agg {op : BinOp} {cs ds : Array Value} (h : P.eqGuardType P.depth t = false) : (eqGuard op t x y (.agg cs) (.agg ds)).run P w = .ok () w := by
  unfold eqGuard; cases op <;> simp [program, Sem.run, h]
theorem p_aggEq {t' : TypeId} {cs ds : Array Value} {b : Bool} (ho : o.op = .binOp .eql t x y t') (hb : EqOK P t (.agg cs) (.agg ds) b) (hx : ρ x = .agg cs) (hy : ρ y = .agg ds) : PureOp P ρ o (.bool b) := fun w => by
  have h : (Op.equal t (.agg cs) (.agg ds)).run P w = .ok b w := hb.2 w 9995
  simp only [execOp, ho, hx, hy]
  simp [eqGuard_agg hb.1, eql_run rfl h]
theorem p_aggNe {t' : TypeId} {cs ds : Array Value} {b : Bool} (ho : o.op = .binOp .neq t x y t') (hb : EqOK P t (.agg cs) (.agg ds) b) (hx : ρ x = .agg cs) (hy : ρ y = .agg ds) : PureOp P ρ o (.bool (!b)) := fun w => by
  have h : (Op.equal t (.agg cs) (.agg ds)).run P w = .ok b w := hb.2 w 9995
  simp only [execOp, ho, hx, hy]
  simp [eqGuard_agg hb.1, neq_run rfl h]
theorem p_cap {s : Sl} {bt e : TypeId} (ho : o.op = .call { callee := .builtin .cap, args := #[x], argTypes := #[bt] }) (h1 : P.underlying bt = some (.slice e)) (hx : ρ x = s.v) : PureOp P ρ o (.int .i64 s.cap) := fun w => by
  simp [execOp, ho, resolve, invoke, builtin, hx, Builtin.cap_, Sl.v, goInt, run_underlying h1]
theorem p_buildA {e : TypeId} {n m size bytes bytes' : Nat} {zc : Array Value} {z' : Value} {cs : Array Value} {ps : Array (Nat × Operand)} (ho : o.op = .build t ps) (h1 : P.underlying t = some (.array n e)) (h2 : TI P t (.agg zc) m bytes) (h3 : TI P e z' size bytes')
    {pl : List (Nat × Value)} (hf' : Instr.fill (fun i => some (i * size, size)) zc pl = some cs) (hl : ps.toList.map (fun p => (p.1, ρ p.2)) = pl) : PureOp P ρ o (.agg cs) := fun w => by
  have hf : Instr.fill (fun i => some (i * size, size)) zc (ps.map fun p => (p.1, ρ p.2)).toList = some cs := by rw [Array.toList_map, hl]; exact hf'
  simp only [execOp, ho, Instr.build, Sem.run_bind, h2.zeroValue, Result.andThen_ok, run_underlying h1, h3.sizeOf, Value.cells]
  rw [hf]; rfl
/-- Where a struct's fields lie. -/
def PlaceOf (P : Program) (t : TypeId) (places : Array (Nat × Nat)) : Prop :=
  ∃ fs, P.underlying t = some (.struct fs) ∧ ∀ w, (fs.mapM (fun f => do pure (f.offset, ← sizeOf f.type) : Field → Sem (Nat × Nat))).run P w = .ok places w
theorem p_buildS {m bytes : Nat} {places : Array (Nat × Nat)} {zc : Array Value} {cs : Array Value} {ps : Array (Nat × Operand)} {pl : List (Nat × Value)} (ho : o.op = .build t ps) (h1 : PlaceOf P t places) (h2 : TI P t (.agg zc) m bytes)
    (hf' : Instr.fill (places[·]?) zc pl = some cs) (hl : ps.toList.map (fun p => (p.1, ρ p.2)) = pl) : PureOp P ρ o (.agg cs) := fun w => by
  obtain ⟨fs, h1, h3⟩ := h1
  have hf : Instr.fill (places[·]?) zc (ps.map fun p => (p.1, ρ p.2)).toList = some cs := by rw [Array.toList_map, hl]; exact hf'
  simp only [execOp, ho, Instr.build, Sem.run_bind, h2.zeroValue, Result.andThen_ok, run_underlying h1, h3, Value.cells]
  rw [hf]; rfl
theorem e_gen {α : Type} {s : Sem Value} {enc : α → Value} {N : α → World → Prop} (he : execOp ρ o = (do pure (.value (← s)))) (h : Ef P s enc w N) : EffOp P ρ o w fun v w' => ∃ x, v = enc x ∧ N x w' := by
  obtain ⟨x, w', hr, h⟩ := h
  exact e_val he hr ⟨x, rfl, h⟩
theorem e_genV {s : Sem Value} {N : Value → World → Prop} (he : execOp ρ o = (do pure (.value (← s)))) (h : Ef P s id w N) : EffOp P ρ o w N := by
  obtain ⟨x, w', hr, h⟩ := h
  exact e_val he hr h
theorem e_genU {s : Sem Unit} {N : World → Prop} (he : execOp ρ o = (do s; pure .skip)) (h : EfU P s w N) : EffOp P ρ o w fun _ w' => N w' := by
  obtain ⟨w', hr, h⟩ := h
  exact e_unit he hr h
theorem e_bi {b : Builtin} {s : Sem Value} {α : Type} {enc : α → Value} {N : α → World → Prop} {xs : Array Operand} {ts : Array TypeId} {vs : List Value} (h : Ef P s enc w N) (ho : o.op = .call { callee := .builtin b, args := xs, argTypes := ts }) (ha' : xs.toList.map ρ = vs)
    (he : builtin b ts o.type (xs.map fun | .const _ => true | _ => false) vs.toArray = (do pure (.value (← s)))) : EffOp P ρ o w fun v w' => ∃ x, v = enc x ∧ N x w' := by
  have ha : xs.map ρ = vs.toArray := by subst ha'; apply Array.ext'; simp
  exact e_gen (by simp only [execOp, ho, resolve, ha, invoke, pure_bind]; exact he) h
theorem e_biV {b : Builtin} {s : Sem Value} {N : Value → World → Prop} {xs : Array Operand} {ts : Array TypeId} {vs : List Value} (h : Ef P s id w N) (ho : o.op = .call { callee := .builtin b, args := xs, argTypes := ts }) (ha' : xs.toList.map ρ = vs)
    (he : builtin b ts o.type (xs.map fun | .const _ => true | _ => false) vs.toArray = (do pure (.value (← s)))) : EffOp P ρ o w N := by
  have ha : xs.map ρ = vs.toArray := by subst ha'; apply Array.ext'; simp
  exact e_genV (by simp only [execOp, ho, resolve, ha, invoke, pure_bind]; exact he) h
theorem execOp_makeMap (ho : o.op = .makeMap t none) : execOp ρ o = (do pure (.value (← Instr.makeMap t none))) := by simp [execOp, ho]
theorem execOp_makeSlice {a b : Value} (ho : o.op = .makeSlice t x y) (hx : ρ x = a) (hy : ρ y = b) : execOp ρ o = (do pure (.value (← Instr.makeSlice t a b))) := by simp [execOp, ho, hx, hy]
theorem execOp_mapUpdate {z : Operand} {a b c : Value} (ho : o.op = .mapUpdate t x y z) (hx : ρ x = a) (hy : ρ y = b) (hz : ρ z = c) : execOp ρ o = (do Instr.mapUpdate t a b c; pure .skip) := by simp [execOp, ho, hx, hy, hz]
end more0

/-! ## Guards, joins, loops, results -/
section more
variable {P : Program} {f : Fr} {n : Nat} {R : Value → World → Prop} {k : List Item} {σ : Env} {w : World}
theorem wanted_yes {ops : Array Oper} {o : Oper} {j d : Nat} {want b : Bool} (hg : o.guard = some (j, want)) (hd : (ops[j]?).bind (·.dst) = some d) (hlt : d < n) (hv : σ d = .bool b) (hb : b = want) :
    Region.wanted o (yielded ops (mkAct n σ).tmps) = true := by
  subst hb
  simp [Region.wanted, hg, yielded, hd, mkAct, hlt, hv]
theorem wanted_no {ops : Array Oper} {o : Oper} {j d : Nat} {want b : Bool} (hg : o.guard = some (j, want)) (hd : (ops[j]?).bind (·.dst) = some d) (hlt : d < n) (hv : σ d = .bool b) (hb : b = !want) :
    Region.wanted o (yielded ops (mkAct n σ).tmps) = false := by
  subst hb
  simp [Region.wanted, hg, yielded, hd, mkAct, hlt, hv]
theorem wanted_undef {ops : Array Oper} {o : Oper} {j d : Nat} {want : Bool} (hg : o.guard = some (j, want)) (hd : (ops[j]?).bind (·.dst) = some d) (hlt : d < n) (hv : σ d = undef) :
    Region.wanted o (yielded ops (mkAct n σ).tmps) = false := by
  simp [Region.wanted, hg, yielded, hd, mkAct, hlt, hv, undef]
theorem ifB_cases {G A B : Prop} {b : Bool} (H : IfB b A B) (h1 : b = true → A → G) (h2 : b = false → B → G) : G := by
  cases b
  · exact h2 rfl (H.2 rfl)
  · exact h1 rfl (H.1 rfl)
theorem r_condB {c : Operand} {x y : Code} {A B : Prop} {b : Bool} (hc : ev n σ c = .bool b) (H : IfB b A B) (ht : b = true → A → Runs P f n R (.code x :: k) σ w) (hf : b = false → B → Runs P f n R (.code y :: k) σ w) :
    Runs P f n R (.code (.cond c x y) :: k) σ w := r_cond hc (fun h => ht h (H.1 h)) (fun h => hf h (H.2 h))
theorem r_trueB {c : Operand} {x y : Code} {b : Bool} (hc : ev n σ c = .bool b) (hb : b = true) (h : Runs P f n R (.code x :: k) σ w) : Runs P f n R (.code (.cond c x y) :: k) σ w := r_true (by rw [hc, hb]) h
theorem r_falseB {c : Operand} {x y : Code} {b : Bool} (hc : ev n σ c = .bool b) (hb : b = false) (h : Runs P f n R (.code y :: k) σ w) : Runs P f n R (.code (.cond c x y) :: k) σ w := r_false (by rw [hc, hb]) h
theorem r_seqJ {α : Type} (enc : α → Env → Env) (N : α → World → Prop) {x y : Code} (hJ : ∀ s σ w, N s w → Runs P f n R (.code y :: k) (enc s σ) w)
    (h : (∀ s σ w, N s w → Runs P f n R (.code y :: k) (enc s σ) w) → Runs P f n R (.code x :: .code y :: k) σ w) : Runs P f n R (.code (.seq x y) :: k) σ w := r_seq (h hJ)
theorem r_blockJ {α : Type} (enc : α → Env → Env) (N : α → World → Prop) {id : Nat} {c : Code} (hJ : ∀ s σ w, N s w → Runs P f n R k (enc s σ) w)
    (h : (∀ s σ w, N s w → Runs P f n R k (enc s σ) w) → Runs P f n R (.code c :: .inBlock id :: k) σ w) : Runs P f n R (.code (.block id c) :: k) σ w := r_block (h hJ)
theorem r_topJ {α : Type} (enc : α → Env → Env) (N : α → World → Prop) {x : Item} (hJ : ∀ s σ w, N s w → Runs P f n R k (enc s σ) w)
    (h : (∀ s σ w, N s w → Runs P f n R k (enc s σ) w) → Runs P f n R (x :: k) σ w) : Runs P f n R (x :: k) σ w := h hJ
theorem r_loopJ {α : Type} (enc : α → Env → Env) {F : (α → World → Prop) → α → World → Prop} {s : α} {c : Code} (H : Lp F s w)
    (hs : ∀ (ag : α → World → Prop) s σ w, F ag s w → (∀ s' σ' w', ag s' w' → Runs P f n R (.inLoop c :: k) (enc s' σ') w') → Runs P f n R (.code c :: .inLoop c :: k) (enc s σ) w) :
    Runs P f n R (.code (.loop c) :: k) (enc s σ) w := by
  obtain ⟨I, μ, hI, hst⟩ := H
  have key : ∀ m s σ w, μ s w = m → I s w → Runs P f n R (.code c :: .inLoop c :: k) (enc s σ) w := by
    intro m
    induction m using Nat.strongRecOn with
    | _ m ih =>
      intro s σ w hm hI
      exact hs _ s σ w (hst s w hI) fun s' σ' w' hI' => r_inLoop (ih _ (hm ▸ hI'.2) s' σ' w' rfl hI'.1)
  exact r_loop (key _ s σ w rfl hI)

def ResV (P : Program) (n : Nat) (σ : Env) (w : World) : ResultVar → Value → Prop
  | .tmp t, v => t < n ∧ σ t = v
  | .cell a t, v => a < n ∧ ∃ ad, σ a = .pointer (some ad) ∧ (loadVar t ad).run P w = .ok v w
theorem resV_cell1 {a t : Nat} {ad : Addr} {d : TypeDesc} {v : Value} (h0 : a < n) (ha : σ a = .pointer (some ad)) (h1 : P.underlying t = some d) (h2 : aggD d = false) (hc : w.cell? ad = some v) : ResV P n σ w (.cell a t) v :=
  ⟨h0, ad, ha, by simp [loadVar, run_isAgg h1, h2, load, Sem.run, hc]⟩
theorem resV_cellN {a t : Nat} {ad : Addr} {d : TypeDesc} {cs : Array Value} {z : Value} {m bytes : Nat} (h0 : a < n) (ha : σ a = .pointer (some ad)) (h1 : P.underlying t = some d) (h2 : aggD d = true) (h3 : TI P t z m bytes) (hm : cs.size = m) (hr : Row w ad cs) : ResV P n σ w (.cell a t) (.agg cs) :=
  ⟨h0, ad, ha, by subst hm; simp [loadVar, run_isAgg h1, h2, h3.sizeOf, run_loadCells hr]⟩
def res1 (P : Program) (n : Nat) (σ : Env) : ResultVar → Sem Value
  | .tmp t => pure ((mkAct n σ).tmps.getD t undef)
  | .cell a t => do loadVar t (← asAddr ((mkAct n σ).tmps.getD a undef))
theorem run_resV {r : ResultVar} {v : Value} (h : ResV P n σ w r v) : (res1 P n σ r).run P w = .ok v w := by
  cases r with
  | tmp t => obtain ⟨h1, h2⟩ := h; simp only [res1]; rw [tmps_getD n σ t h1, h2]; rfl
  | cell a t => obtain ⟨h1, ad, h2, h3⟩ := h; simp only [res1]; rw [tmps_getD n σ a h1, h2]; simp [asAddr, h3]
theorem results_eq (fn : Func) : results fn (mkAct n σ).tmps = (do let vs ← fn.results.mapM (res1 P n σ); pure (if h : vs.size = 1 then vs[0] else .tuple vs)) := by
  unfold results
  congr 1
theorem res_1 {fn : Func} {r : ResultVar} {v : Value} (hf : fn.results = #[r]) (h : ResV P n σ w r v) : (results fn (mkAct n σ).tmps).run P w = .ok v w := by
  rw [results_eq (P := P), hf]; simp [run_resV h]
theorem res_0 {fn : Func} (hf : fn.results = #[]) : (results fn (mkAct n σ).tmps).run P w = .ok (.tuple #[]) w := by
  rw [results_eq (P := P), hf]; simp
theorem res_2 {fn : Func} {r s : ResultVar} {u v : Value} (hf : fn.results = #[r, s]) (h1 : ResV P n σ w r u) (h2 : ResV P n σ w s v) : (results fn (mkAct n σ).tmps).run P w = .ok (.tuple #[u, v]) w := by
  rw [results_eq (P := P), hf]; simp [run_resV h1, run_resV h2]
theorem res_3 {fn : Func} {r s t : ResultVar} {u v x : Value} (hf : fn.results = #[r, s, t]) (h1 : ResV P n σ w r u) (h2 : ResV P n σ w s v) (h3 : ResV P n σ w t x) : (results fn (mkAct n σ).tmps).run P w = .ok (.tuple #[u, v, x]) w := by
  rw [results_eq (P := P), hf]; simp [run_resV h1, run_resV h2, run_resV h3]
theorem res_4 {fn : Func} {r s t q : ResultVar} {u v x y : Value} (hf : fn.results = #[r, s, t, q]) (h1 : ResV P n σ w r u) (h2 : ResV P n σ w s v) (h3 : ResV P n σ w t x) (h4 : ResV P n σ w q y) : (results fn (mkAct n σ).tmps).run P w = .ok (.tuple #[u, v, x, y]) w := by
  rw [results_eq (P := P), hf]; simp [run_resV h1, run_resV h2, run_resV h3, run_resV h4]
end more
end Go.X

/- What is in memory, and what an operation does to it: the laws that contracts use. -/
set_option linter.all false
namespace Go.X
open Go Go.RowKit

/-- Nothing has changed but the blocks of S, and new ones. -/
structure Ch (S : Nat → Prop) (w w' : World) : Prop where
  os : w'.os = w.os
  tape : w'.tape = w.tape
  output : w'.output = w.output
  size : w.heap.size ≤ w'.heap.size
  block : ∀ k, k < w.heap.size → ¬ S k → w'.heap[k]? = w.heap[k]?
abbrev Ext (w w' : World) : Prop := Ch (fun _ => False) w w'
theorem Ch.refl (S : Nat → Prop) (w : World) : Ch S w w := ⟨rfl, rfl, rfl, Nat.le_refl _, fun _ _ _ => rfl⟩
theorem Ch.trans {S : Nat → Prop} {a b c : World} (h : Ch S a b) (k : Ch S b c) : Ch S a c :=
  ⟨k.os.trans h.os, k.tape.trans h.tape, k.output.trans h.output, Nat.le_trans h.size k.size, fun i hi hs => (k.block i (Nat.lt_of_lt_of_le hi h.size) hs).trans (h.block i hi hs)⟩
/-- Of the second change only what lies below the first world's end counts. -/
theorem Ch.step {S T U : Nat → Prop} {a b c : World} (h : Ch S a b) (k : Ch T b c) (h1 : ∀ i, i < a.heap.size → S i → U i) (h2 : ∀ i, i < a.heap.size → T i → U i) : Ch U a c :=
  ⟨k.os.trans h.os, k.tape.trans h.tape, k.output.trans h.output, Nat.le_trans h.size k.size, fun i hi hu =>
    (k.block i (Nat.lt_of_lt_of_le hi h.size) fun t => hu (h2 i hi t)).trans (h.block i hi fun s => hu (h1 i hi s))⟩
theorem Ch.mono {S T : Nat → Prop} {a b : World} (h : Ch S a b) (h1 : ∀ i, i < a.heap.size → S i → T i) : Ch T a b := ⟨h.os, h.tape, h.output, h.size, fun i hi ht => h.block i hi fun s => ht (h1 i hi s)⟩
theorem Ch.drew (w : World) : Ext w w.drew := ⟨rfl, rfl, rfl, Nat.le_refl _, fun _ _ _ => rfl⟩
theorem Ch.alloc (w : World) (o : Obj) : Ext w (w.alloc o) := ⟨rfl, rfl, rfl, by simp, fun k hk _ => Below.heap_alloc w o k hk⟩
theorem Ch.setCell (w : World) (a : Addr) (v : Value) : Ch (· = a.block) w (w.setCell a v) := ⟨rfl, rfl, rfl, by simp [World.setCell], fun k _ hk => Below.heap_setCell w a v k hk⟩
theorem Ch.below {S : Nat → Prop} {w w' : World} (h : Ch S w w') (hs : ∀ i, i < w.heap.size → ¬ S i) : Below w.heap.size w w' := ⟨h.os, h.tape, h.output, h.size, fun k hk => h.block k hk (hs k hk)⟩
theorem Ext.below {w w' : World} (h : Ext w w') : Below w.heap.size w w' := Ch.below h fun _ _ hf => hf
theorem Ch.of_grown {w w' : World} {row : Option Nat} (h : w.grownBy w' row) : Ch (fun k => some k = row) w w' := ⟨h.os, h.tape, h.output, h.size, fun k hk hn => h.block k hk hn⟩

/-- A block known whole. -/
def Blk (w : World) (b : Nat) (cs : Array Value) (e : TypeId) : Prop := w.heap[b]? = some (.cells cs e (0, 0))
theorem Blk.lt {w : World} {b : Nat} {cs : Array Value} {e : TypeId} (h : Blk w b cs e) : b < w.heap.size := (Array.getElem?_eq_some_iff.1 h).1
theorem Blk.ch {S : Nat → Prop} {w w' : World} {b : Nat} {cs : Array Value} {e : TypeId} (h : Blk w b cs e) (hc : Ch S w w') (hs : ¬ S b) : Blk w' b cs e := (hc.block b h.lt hs).trans h
theorem Blk.ext {w w' : World} {b : Nat} {cs : Array Value} {e : TypeId} (h : Blk w b cs e) (hc : Ext w w') : Blk w' b cs e := h.ch hc id
theorem Blk.cell {w : World} {b i : Nat} {cs : Array Value} {e : TypeId} {v : Value} (h : Blk w b cs e) (hv : cs[i]? = some v) : w.cell? ⟨b, i, none⟩ = some v := by
  unfold Blk at h; simp [World.cell?, h, hv]
theorem Blk.free {w : World} {b i : Nat} {cs : Array Value} {e : TypeId} (h : Blk w b cs e) : w.frozen? ⟨b, i, none⟩ = false := by
  unfold Blk at h; simp [World.frozen?, h]
theorem Blk.new (w : World) (cs : Array Value) (e : TypeId) : Blk (w.alloc (.cells cs e)) w.heap.size cs e := by
  show (w.heap.push _)[w.heap.size]? = _
  simp
theorem Blk.set {w : World} {b i : Nat} {cs : Array Value} {e : TypeId} {v : Value} (h : Blk w b cs e) : Blk (w.setCell ⟨b, i, none⟩ v) b (cs.setIfInBounds i v) e := by
  unfold Blk World.setCell at *
  simp [Array.getElem?_modify, h]

@[simp] theorem addr_add (b o n : Nat) : (⟨b, o, none⟩ : Addr).add n = ⟨b, o + n, none⟩ := by unfold Addr.add; split <;> simp_all

/-! ## Reads and writes of known blocks -/
section laws
variable {α : Type} {enc : α → Value} {w : World} {b i : Nat} {cs : Array Value} {e : TypeId}
theorem Ld.blk {K : α → Prop} {x : α} (h : Blk w b cs e) (hv : cs[i]? = some (enc x)) (k : K x) : Ld enc (some ⟨b, i, none⟩) w K := ⟨_, x, rfl, h.cell hv, k⟩
theorem LdH.blk {K : Addr → α → Prop} {x : α} (h : Blk w b cs e) (hv : cs[i]? = some (enc x)) (k : K ⟨b, i, none⟩ x) : LdH enc (some ⟨b, i, none⟩) w K := ⟨_, x, rfl, h.cell hv, k⟩
theorem Row.blk {ds : Array Value} (h : Blk w b cs e) (hd : ∀ j v, ds[j]? = some v → cs[i + j]? = some v) : Row w ⟨b, i, none⟩ ds := fun j v hj => by rw [addr_add]; exact h.cell (hd j v hj)
theorem LdN.blk {n : Nat} {K : Array Value → Prop} {ds : Array Value} (h : Blk w b cs e) (hd : ∀ j v, ds[j]? = some v → cs[i + j]? = some v) (hn : ds.size = n) (k : K ds) : LdN n (some ⟨b, i, none⟩) w K := ⟨_, ds, rfl, hn, .blk h hd, k⟩
theorem LdNH.blk {n : Nat} {K : Addr → Array Value → Prop} {ds : Array Value} (h : Blk w b cs e) (hd : ∀ j v, ds[j]? = some v → cs[i + j]? = some v) (hn : ds.size = n) (k : K ⟨b, i, none⟩ ds) : LdNH n (some ⟨b, i, none⟩) w K := ⟨_, ds, rfl, hn, .blk h hd, k⟩
/-- All of a block. -/
theorem LdN.all {n : Nat} {K : Array Value → Prop} (h : Blk w b cs e) (hn : cs.size = n) (k : K cs) : LdN n (some ⟨b, 0, none⟩) w K := .blk h (fun j v hj => by simpa using hj) hn k
theorem LdNH.all {n : Nat} {K : Addr → Array Value → Prop} (h : Blk w b cs e) (hn : cs.size = n) (k : K ⟨b, 0, none⟩ cs) : LdNH n (some ⟨b, 0, none⟩) w K := .blk h (fun j v hj => by simpa using hj) hn k
theorem Row.all (h : Blk w b cs e) : Row w ⟨b, 0, none⟩ cs := .blk h fun j v hj => by simpa using hj
theorem St.blk {v : Value} {K : World → Prop} (h : Blk w b cs e) (hi : i < cs.size) (k : ∀ w', Blk w' b (cs.setIfInBounds i v) e → Ch (· = b) w w' → K w') : St (some ⟨b, i, none⟩) v w K :=
  ⟨_, rfl, by rw [h.cell (v := cs[i]) (by simp [hi])]; rfl, h.free, k _ h.set (Ch.setCell w ⟨b, i, none⟩ v)⟩
theorem New.mk {K : Addr → World → Prop} (k : ∀ b w', b = w.heap.size → w'.heap.size = w.heap.size + 1 → Blk w' b cs e → Ext w w' → K ⟨b, 0, none⟩ w') : New cs e w K :=
  k _ _ rfl (by simp) (Blk.new w cs e) (Ch.alloc w _)
end laws

/-! ## Slices -/
/-- What a slice shows: its cells. -/
def Sees (w : World) (s : Sl) (size : Nat) (xs : List Value) : Prop :=
  xs.length = s.len * size ∧ s.len ≤ s.cap ∧ (s.a = none → s.len = 0) ∧ ∀ a, s.a = some a → a.spot = none ∧ ∀ i v, xs[i]? = some v → w.cell? (a.add i) = some v
theorem Sees.nil (w : World) (size : Nat) : Sees w Sl.nil size [] := ⟨by simp [Sl.nil], Nat.le_refl _, fun _ => rfl, fun a h => by cases h⟩

/-- A slice at the head of a block of its own. -/
def Own (w : World) (s : Sl) (e size : Nat) (xs : List Value) : Prop := w.ownsRow 0 e size s.v s.len xs
def Sl.blk (s : Sl) : Nat → Prop := fun k => ∃ a, s.a = some a ∧ k = a.block
theorem Own.nil (w : World) (e size : Nat) : Own w Sl.nil e size [] := World.ownsRow_nil w 0 e size
theorem Own.len {w : World} {s : Sl} {e size : Nat} {xs : List Value} (h : Own w s e size xs) : xs.length = s.len * size := h.1
theorem own_blk {s : Sl} {k : Nat} : s.v.ownBlock = some k ↔ s.blk k := by
  obtain ⟨a, l, c⟩ := s
  cases a <;> simp [Sl.v, Value.ownBlock, Sl.blk, eq_comm]
theorem Own.lt {w : World} {s : Sl} {e size : Nat} {xs : List Value} (h : Own w s e size xs) {k : Nat} (hk : s.blk k) : k < w.heap.size := (World.ownsRow.lt h k (own_blk.2 hk)).2
theorem Own.ch {S : Nat → Prop} {w w' : World} {s : Sl} {e size : Nat} {xs : List Value} (h : Own w s e size xs) (hc : Ch S w w') (hs : ∀ k, s.blk k → ¬ S k) : Own w' s e size xs := by
  refine ⟨h.1, ?_⟩
  rcases h.2 with hn | ⟨g, cap, cur, hv, hb, hg, rest⟩
  · exact .inl hn
  · refine .inr ⟨g, cap, cur, hv, hb, ?_, rest⟩
    have hk : s.blk g := own_blk.1 (by rw [hv]; rfl)
    rw [hc.block g (h.lt hk) (hs g hk)]
    exact hg
theorem Own.ext {w w' : World} {s : Sl} {e size : Nat} {xs : List Value} (h : Own w s e size xs) (hc : Ext w w') : Own w' s e size xs := h.ch hc fun _ _ => id
theorem Own.sees {w : World} {s : Sl} {e size : Nat} {xs : List Value} (h : Own w s e size xs) : Sees w s size xs := by
  obtain ⟨a, l, c⟩ := s
  rcases h.2 with ⟨hv, hl⟩ | ⟨g, cap, cur, hv, hb, hg, hn, hm, hz, ht⟩
  · simp only [Sl.v, Value.slice.injEq] at hv
    obtain ⟨rfl, rfl, rfl⟩ := hv
    exact ⟨h.1, Nat.le_refl _, fun _ => rfl, (fun a h => by cases h)⟩
  · simp only [Sl.v, Value.slice.injEq] at hv
    obtain ⟨rfl, hl, rfl⟩ := hv
    refine ⟨h.1, hn, (fun h => by cases h), fun a ha => ?_⟩
    obtain rfl : _ = a := by injection ha
    exact ⟨rfl, fun i v hi => World.ownsRow.cells h (g := g) rfl i v hi⟩
theorem Sees.ch {S : Nat → Prop} {w w' : World} {s : Sl} {size : Nat} {xs : List Value} (h : Sees w s size xs) (hc : Ch S w w') (hs : ∀ k, s.blk k → ¬ S k) : Sees w' s size xs := by
  refine ⟨h.1, h.2.1, h.2.2.1, fun a ha => ⟨(h.2.2.2 a ha).1, fun i v hi => ?_⟩⟩
  have hv := (h.2.2.2 a ha).2 i v hi
  have hb : (a.add i).block = a.block := by unfold Addr.add; split <;> rfl
  have hlt := World.block_lt_of_cell? w (a.add i) hv
  rw [← hv]
  exact World.cell?_of_block (hc.block _ hlt (by rw [hb]; exact hs _ ⟨a, ha, rfl⟩))
theorem Sees.ext {w w' : World} {s : Sl} {size : Nat} {xs : List Value} (h : Sees w s size xs) (hc : Ext w w') : Sees w' s size xs := h.ch hc fun _ _ => id
/-- The slice of a whole new block. -/
theorem Sees.ofBlk {w : World} {b n size : Nat} {cs : Array Value} {e : TypeId} (h : Blk w b cs e) (hn : cs.size = n * size) : Sees w ⟨some ⟨b, 0, none⟩, n, n⟩ size cs.toList :=
  ⟨by simpa using hn, Nat.le_refl _, (fun h => by cases h), fun a ha => by
    obtain rfl : _ = a := by injection ha
    exact ⟨rfl, fun i v hi => by rw [addr_add, Nat.zero_add]; exact h.cell (by simpa using hi)⟩⟩

/-- append of what a slice shows. -/
theorem Ef.append {P : Program} {w : World} {t ty e : TypeId} {z : Value} {size bytes : Nat} {s x : Sl} {xs ys : List Value} {K : Sl → World → Prop}
    (ht : P.underlying t = some (.slice e)) (hi : TI P e z size bytes) (hz : z.cells.size = size) (hsz : 0 < size) (ho : Own w s e size xs) (hx : Sees w x size ys) (h1 : ∀ u ∈ ys, u.oneCell' = true)
    (hbytes : (s.len + x.len) * bytes ≤ 140737488355328) (hm : s.len + x.len ≤ 140737488355328)
    (k : ∀ s' w', Own w' s' e size (xs ++ ys) → Ch s.blk w w' → s'.len = s.len + x.len → (∀ b, s'.blk b → s.blk b ∨ w.heap.size ≤ b) → K s' w') :
    Ef P (Builtin.append_ #[t, t] ty #[s.v, x.v]) Sl.v w K := by
  obtain ⟨i, hi0, hi1, hi2, hi3⟩ := hi
  have hm' : s.len + x.len ≤ maxLen := by unfold maxLen; omega
  obtain ⟨xa, xl, xc⟩ := x
  cases xa with
  | none =>
    have hl : xl = 0 := hx.2.2.1 rfl
    subst hl
    have hys : ys = [] := List.eq_nil_of_length_eq_zero (by simpa using hx.1)
    subst hys
    obtain ⟨sa, sl, sc⟩ := s
    have hle : sl ≤ sc := ho.sees.2.1
    refine ⟨⟨sa, sl, sc⟩, w, ?_, k _ _ (by simpa using ho) (Ch.refl _ _) rfl fun b hb => .inl hb⟩
    cases sa <;> simp [Sl.v, Builtin.append_, run_underlying ht, sizeOf, typeInfo, hi0, Builtin.lenOf, Builtin.firstCells, hle, storeCells]
  | some a =>
    obtain ⟨v', w', hr, h2, h3, h4⟩ := run_append_own (P := P) w 0 t ty e i z size bytes ht hi0 hi1 hi2 hi3 hz hsz s.v s.len xs ho a xl xc ys hx.1 (fun j u hj => (hx.2.2.2 a rfl).2 j u hj) h1 hm' hbytes (Nat.zero_le _)
    obtain ⟨s', rfl, hs'⟩ : ∃ s' : Sl, v' = s'.v ∧ s'.len = s.len + xl := by
      rcases h2.2 with ⟨hv, hn⟩ | ⟨g, cap, cur, hv, _⟩
      · exact ⟨Sl.nil, hv, by simp [Sl.nil, hn]⟩
      · exact ⟨⟨some ⟨g, 0, none⟩, _, cap⟩, hv, rfl⟩
    refine ⟨s', w', hr, k s' w' (by unfold Own; rw [hs']; exact h2) ((Ch.of_grown h3).mono fun i _ h => own_blk.1 h.symm) hs' fun b hb => ?_⟩
    -- the new slice's block is the old one, or new
    subst hi3
    have hnews : ∀ j u, ys[j]? = some u → w.cell? (a.add j) = some u := fun j u hj => (hx.2.2.2 a rfl).2 j u hj
    have hl' : ys.length = xl * i.size := by rw [hi2]; exact hx.1
    simp only [] at hm hm'
    rcases ho.2 with ⟨hv, hn⟩ | ⟨g, cap, cur, hv, hbg, hg, hnc, hcm, hcs, htake⟩
    · by_cases hxl : xl = 0
      · subst hxl
        have hys : ys = [] := List.eq_nil_of_length_eq_zero (by simpa using hl')
        subst hys
        have : s'.v = .slice none 0 0 := (h4.2 ⟨hv, rfl⟩)
        obtain ⟨_, e1, _⟩ := hb
        obtain ⟨sa, sl, sc⟩ := s'
        simp only [Sl.v, Value.slice.injEq] at this
        simp only at e1
        rw [this.1] at e1
        cases e1
      · have hr2 := run_append_nil (P := P) w t ty e i z ht hi0 hi1 a xl xc ys hl' hnews (by omega) (by omega) (by have hb' := hbytes; rw [hn] at hb'; simp only [Nat.zero_add] at hb'; omega)
        rw [hv] at hr
        rw [hr2] at hr
        injection hr with e1 _
        obtain ⟨a', e2, rfl⟩ := hb
        obtain ⟨sa, sl, sc⟩ := s'
        simp only [Sl.v, Value.slice.injEq] at e1
        simp only at e2
        rw [← e1.1] at e2
        injection e2 with e2
        subst e2
        exact .inr (Nat.le_refl _)
    · by_cases hroom : s.len + xl ≤ cap
      · have hfit : s.len * i.size + ys.length ≤ cur.size := by rw [hl', hcs, hi2, ← Nat.add_mul]; exact Nat.mul_le_mul_right _ hroom
        have hr2 := run_append_room (P := P) w t ty e i ht hi0 g s.len cap cur hg a xl xc ys hl' hnews h1 hroom hfit
        rw [hv] at hr
        rw [hr2] at hr
        injection hr with e1 _
        obtain ⟨a', e2, rfl⟩ := hb
        obtain ⟨sa, sl, sc⟩ := s'
        simp only [Sl.v, Value.slice.injEq] at e1
        simp only at e2
        rw [← e1.1] at e2
        injection e2 with e2
        subst e2
        left
        exact own_blk.1 (by rw [hv]; rfl)
      · have holds : ∀ j u, xs[j]? = some u → w.cell? ((⟨g, 0, none⟩ : Addr).add j) = some u := World.ownsRow.cells ho (g := g) (by rw [hv]; rfl)
        have hr2 := run_append_grow (P := P) w t ty e i z ht hi0 hi1 ⟨g, 0, none⟩ s.len cap xs (by rw [hi2]; exact ho.1) holds a xl xc ys hl' hnews (by omega) (by unfold maxLen at hm'; omega) (growslice_fits (by omega) hbytes)
        rw [hv] at hr
        rw [hr2] at hr
        injection hr with e1 _
        obtain ⟨a', e2, rfl⟩ := hb
        obtain ⟨sa, sl, sc⟩ := s'
        simp only [Sl.v, Value.slice.injEq] at e1
        simp only at e2
        rw [← e1.1] at e2
        injection e2 with e2
        subst e2
        exact .inr (Nat.le_refl _)
/-- append of some new cells. -/
theorem Ef.append1 {P : Program} {w : World} {t ty e : TypeId} {z : Value} {size bytes n : Nat} {s : Sl} {xs : List Value} {ys : Array Value} {K : Sl → World → Prop}
    (ht : P.underlying t = some (.slice e)) (hi : TI P e z size bytes) (hz : z.cells.size = size) (hsz : 0 < size) (ho : Own w s e size xs) (hn : ys.size = n * size) (h1 : ∀ u ∈ ys.toList, u.oneCell' = true)
    (hb : (s.len + n) * bytes ≤ 140737488355328) (hm : s.len + n ≤ 140737488355328)
    (k : ∀ s' w', Own w' s' e size (xs ++ ys.toList) → Ch s.blk w w' → s'.len = s.len + n → (∀ b, s'.blk b → s.blk b ∨ w.heap.size ≤ b) → K s' w') :
    New ys e w fun a w1 => Ef P (Builtin.append_ #[t, t] ty #[s.v, Sl.v ⟨some a, n, n⟩]) Sl.v w1 K :=
  New.mk fun b w' hb' hs hblk hext => Ef.append ht hi hz hsz (ho.ext hext) (Sees.ofBlk hblk hn) h1 hb hm fun s' w'' ho' hch hl hbl =>
    k s' w'' ho' (hext.step hch (fun _ _ h => h.elim) (fun _ _ h => h)) hl fun c hc => (hbl c hc).imp id fun h => by omega

/-! ## Numbers of a kind -/
theorem wrap_u64 {n : Int} (h0 : 0 ≤ n) (h : n < 18446744073709551616) : IntKind.u64.wrap n = n := by
  simp only [IntKind.wrap, IntKind.bits, IntKind.signed, Bool.false_and, Bool.false_eq_true, if_false]; omega
theorem wrap_u8 {n : Int} (h0 : 0 ≤ n) (h : n < 256) : IntKind.u8.wrap n = n := by
  simp only [IntKind.wrap, IntKind.bits, IntKind.signed, Bool.false_and, Bool.false_eq_true, if_false]; omega
theorem wrap_u32 {n : Int} (h0 : 0 ≤ n) (h : n < 4294967296) : IntKind.u32.wrap n = n := by
  simp only [IntKind.wrap, IntKind.bits, IntKind.signed, Bool.false_and, Bool.false_eq_true, if_false]; omega
theorem wrap_i64 {n : Int} (h0 : -9223372036854775808 ≤ n) (h : n ≤ 9223372036854775807) : IntKind.i64.wrap n = n := by
  simp only [IntKind.wrap, IntKind.bits, IntKind.signed, Bool.true_and, decide_eq_true_eq, ge_iff_le]; split <;> omega
end Go.X
