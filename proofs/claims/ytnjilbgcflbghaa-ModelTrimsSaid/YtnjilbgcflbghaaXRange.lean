/- Ranges over functions: the statement, the round, the call of yield. -/
import Derived.Test.YtnjilbgcflbghaaXOps
import Derived.RangeFuncIn
set_option linter.all false
set_option linter.all false
namespace Go.X
open Go

/-- The loop's record in a state, with a pending jump. -/
def LRof (lr : Loop) (st : LoopState) (c : Option Code) : Obj := .loop { lr with state := st, pending := c }
/-- The round begins. -/
def BegR (l : Nat) (lr : Loop) (w : World) (K : World → Prop) : Prop := w.heap[l]? = some (LRof lr .ready none) ∧ K (w.putObj l (LRof lr .busy none))
/-- The round ends, by a jump or by none. -/
def EndR (l : Nat) (lr : Loop) (c : Option Code) (w : World) (K : Value → World → Prop) : Prop :=
  w.heap[l]? = some (LRof lr .busy none) ∧ K (.bool c.isNone) (w.putObj l (LRof lr (if c.isNone then .ready else .done) c))
/-- A range over a function: whatever the record and yield are, the function's call comes to its end, and the loop goes on as K says. Y: what a round comes to. -/
def RF (P : Program) (fv : Value) (Y : Nat → Loop → Array Value → World → (Value → World → Prop) → Prop) (w : World) (K : Nat → Option Code → World → Prop) : Prop :=
  ∀ (lr : Loop) (y : Value),
    (∀ args w' K', w'.heap[w.heap.size + 1]? = some (LRof lr .ready none) → Y (w.heap.size + 1) lr args w' K' → CallV P y args w' K') →
    CallC P fv #[y] ((w.alloc (.deferred (some []))).alloc (LRof lr .ready none)) fun _ w' =>
      ∃ st c, st ≠ .busy ∧ w'.heap[w.heap.size + 1]? = some (LRof lr st c) ∧ K w.heap.size c (w'.putObj (w.heap.size + 1) (LRof lr .exhausted c))

section rules
variable {P : Program} {f : Fr} {n : Nat} {R : Value → World → Prop} {k : List Item} {σ : Env} {w : World}

theorem r_beg {l : Nat} {lr : Loop} (hro : f.ro = some l) (h : w.heap[l]? = some (LRof lr .ready none)) (hk : Runs P f n R k σ (w.putObj l (LRof lr .busy none))) : Runs P f n R (.beginRound :: k) σ w :=
  Ends.steps hk fun cs => .one (stepR_beginRound (b := f.frame) hro (run_beginRound h rfl))

theorem ends_round {l : Nat} {m : List Frame → Machine} (hro : f.ro = some l) (h : ∀ c cs, ∃ v w', R v w' ∧ Steps P (m (c :: cs)) (lone (c.finish v) cs w')) : Ends P f R m := by
  unfold Ends; rw [hro]; exact h
theorem r_rEnd {l : Nat} {lr : Loop} (hro : f.ro = some l) (h : EndR l lr none w R) : Runs P f n R [] σ w :=
  ends_round hro fun c cs => ⟨_, _, h.2, .one (stepR_round_end (b := f.frame) hro rfl (run_endRound (r := { lr with state := .busy, pending := none }) none h.1))⟩
theorem r_rRet {l : Nat} {lr : Loop} (hro : f.ro = some l) (h : EndR l lr (some .ret) w R) : Runs P f n R (.code .ret :: k) σ w :=
  ends_round hro fun c cs => ⟨_, _, h.2, .one (stepR_round_ret (b := f.frame) hro rfl (run_endRound (r := { lr with state := .busy, pending := none }) (some .ret) h.1))⟩
theorem r_rExit {l id : Nat} {lr : Loop} (hro : f.ro = some l) (hx : exitTo id k = none) (h : EndR l lr (some (.exit id)) w R) : Runs P f n R (.code (.exit id) :: k) σ w :=
  ends_round hro fun c cs => ⟨_, _, h.2, .one (stepR_round_exit (b := f.frame) hro rfl hx (run_endRound (r := { lr with state := .busy, pending := none }) (some (.exit id)) h.1))⟩

/-- The slots of a round: the parameters are laid upon those of the loop. -/
def updL : List (Nat × Value) → Env → Env
  | [], σ => σ
  | (i, v) :: l, σ => updL l (upd i v σ)
theorem foldl_updL (n : Nat) : ∀ (l : List (Nat × Value)) (σ : Env), l.foldl (fun tmps (p : Nat × Value) => tmps.setIfInBounds p.1 p.2) (mkAct n σ).tmps = (mkAct n (updL l σ)).tmps
  | [], σ => rfl
  | (i, v) :: l, σ => by
    have h := mkAct_put n σ i v
    simp only [Act.put, mkAct, Act.mk.injEq] at h
    simp only [List.foldl_cons, updL]
    rw [← foldl_updL n l]
    exact congrArg (fun x => List.foldl (fun tmps (p : Nat × Value) => tmps.setIfInBounds p.1 p.2) x l) h.1

theorem callV_yield {l : Nat} {lr : Loop} {args : Array Value} {fn : FuncId} {n : Nat} {σ : Env} {K : Value → World → Prop} (h : w.heap[l]? = some (LRof lr .ready none)) (hn : args.size = lr.params.size) (hfn : lr.fn = fn) (ht : lr.tmps = (mkAct n σ).tmps)
    (hr : Runs P ⟨fn, some l, []⟩ n K [.code lr.assign, .beginRound, .code lr.body] (updL (lr.params.toList.zip args.toList) σ) w) : CallV P (.func (.yield l) #[] #[]) args w K := by
  unfold CallV
  have e : (do let d ← Deferred.ofValue (.func (.yield l) #[] #[]) args; invoke d.target d.args : Sem Next).run P w =
      .ok (.round l fn (mkAct n (updL (lr.params.toList.zip args.toList) σ)).tmps lr.assign lr.body) w := by
    simp only [Deferred.ofValue, Sem.run_bind, Sem.run_pure, Result.andThen_ok, invoke, Array.empty_append]
    have hy := run_yield (P := P) (r := { lr with state := .ready, pending := none }) h (args := args) hn
    rw [hy]
    congr 2
    rw [← foldl_updL, ← ht, ← Array.foldl_toList]
    simp [Array.toList_zip]
  rw [e]
  intro c cs
  obtain ⟨v, w', hK, hs⟩ := hr c cs
  refine ⟨v, w', hK, ?_⟩
  exact hs

theorem r_range {g : Operand} {ps : Array Tmp} {asg body : Code} {fv : Value} {Y : Nat → Loop → Array Value → World → (Value → World → Prop) → Prop} {K : Nat → Option Code → World → Prop} (hro : f.ro = none) (hg : ev n σ g = fv) (H : RF P fv Y w K)
    (hY : ∀ l lr args w K, Y l lr args w K → ∃ vs : List Value, args = vs.toArray ∧ vs.length = ps.size ∧ Runs P ⟨f.fn, some l, []⟩ n K [.code asg, .beginRound, .code body] (updL (ps.toList.zip vs) σ) w)
    (hK : ∀ r c w', K r c w' → Runs P ⟨f.fn, f.ro, r :: f.ds⟩ n R ((c.map Item.code).toList ++ k) σ w') : Runs P f n R (.code (.rangeFunc g ps asg body) :: k) σ w := by
  let lr : Loop := { state := .ready, pending := none, fn := f.fn, tmps := (f.act n σ).tmps, params := ps, assign := asg, body := body, defers := w.heap.size }
  obtain ⟨gf, fn, c, pre, cap, e1, e2, e3, e4, hc⟩ := H lr (.func (.yield (w.heap.size + 1)) #[] #[]) fun args w' K' hl hy => by
    obtain ⟨vs, rfl, hvs, hr⟩ := hY _ _ _ _ _ hy
    exact callV_yield (lr := lr) hl (by simpa using hvs) rfl rfl hr
  unfold Runs Ends
  rw [hro]
  intro cs
  have he : (Instr.enterLoop f.frame.fn (f.act n σ).tmps ps asg body f.frame.roundOf).run P w = .ok (w.heap.size + 1, [{ target := .collected w.heap.size, args := #[] }]) ((w.alloc (.deferred (some []))).alloc (LRof lr .ready none)) := by
    have hr : f.frame.roundOf = none := hro
    rw [hr]
    exact run_enterLoop_outer _ _ _ _ _
  have hres : (resolve (f.act n σ).eval (rangeCall g (w.heap.size + 1)) 0).run P ((w.alloc (.deferred (some []))).alloc (LRof lr .ready none)) = .ok { target := .fn (.func gf) cap, args := pre ++ #[.func (.yield (w.heap.size + 1)) #[] #[]] } ((w.alloc (.deferred (some []))).alloc (LRof lr .ready none)) := by
    have ha : (f.act n σ).eval (.const (.func (.yield (w.heap.size + 1)) #[] #[])) = .func (.yield (w.heap.size + 1)) #[] #[] := rfl
    have hb : (f.act n σ).eval g = .func (.func gf) pre cap := by rw [act_eval, hg, e1]
    simp [resolve, rangeCall, hb, ha, Deferred.ofValue]
  have hinv : (invoke (.fn (.func gf) cap) (pre ++ #[.func (.yield (w.heap.size + 1)) #[] #[]])).run P ((w.alloc (.deferred (some []))).alloc (LRof lr .ready none)) = .ok (.enter gf (pre ++ #[.func (.yield (w.heap.size + 1)) #[] #[]] ++ cap)) ((w.alloc (.deferred (some []))).alloc (LRof lr .ready none)) := by
    simp only [invoke, callFunc_run e2 e3 e4]
  have hs1 := stepR_rangeFunc (b := f.frame) (k := k) (cs := cs) he hres hinv
  obtain ⟨e, w', fr, ⟨v, rfl, st, c', hst, hl, hKK⟩, hst2, _, hleave⟩ := hc (f.frame.atR { (f.act n σ) with defers := [{ target := .collected w.heap.size, args := #[] }] ++ (f.act n σ).defers } (.inRangeFunc (w.heap.size + 1) :: k) :: cs)
  have hend : (Instr.endLoop (w.heap.size + 1)).run P w' = .ok c' (w'.putObj (w.heap.size + 1) (LRof lr .exhausted c')) := run_endLoop (r := { lr with state := st, pending := c' }) hl hst
  have hs3 := stepR_endRangeFunc (b := f.frame) (a := { (f.act n σ) with defers := [{ target := .collected w.heap.size, args := #[] }] ++ (f.act n σ).defers }) (k := k) (cs := cs) hend
  have hrest := hK _ _ _ hKK
  unfold Runs Ends at hrest
  simp only [hro] at hrest
  obtain ⟨v2, w2, fr2, hR, hsteps, hf2, hl2⟩ := hrest cs
  refine ⟨v2, w2, fr2, hR, ?_, hf2, hl2⟩
  refine .head hs1 (hst2.trans (.head ?_ (.head hs3 ?_)))
  · rw [← finish_atR_inRangeFunc (v := v)]; exact step_leave_returned hleave
  · have hfr : (⟨f.fn, f.ro, w.heap.size :: f.ds⟩ : Fr).frame = f.frame := rfl
    simpa [Fr.act, Fr.marks, Fr.frame, hro] using hsteps
theorem r_rangeJ {α : Type} {g : Operand} {ps : Array Tmp} {asg body : Code} (enc : α → Env → Env) (N : (Value → World → Prop) → Nat → Loop → α → World → Prop)
    (hJ : ∀ K l lr s σ w, N K l lr s w → Runs P ⟨f.fn, some l, []⟩ n K [.code asg, .beginRound, .code body] (enc s σ) w)
    (h : (∀ K l lr s σ w, N K l lr s w → Runs P ⟨f.fn, some l, []⟩ n K [.code asg, .beginRound, .code body] (enc s σ) w) → Runs P f n R (.code (.rangeFunc g ps asg body) :: k) σ w) : Runs P f n R (.code (.rangeFunc g ps asg body) :: k) σ w := h hJ
theorem rj_none (h : Runs P f n R k σ w) : Runs P f n R (((none : Option Code).map Item.code).toList ++ k) σ w := h
theorem rj_some {c : Code} (h : Runs P f n R (.code c :: k) σ w) : Runs P f n R (((some c).map Item.code).toList ++ k) σ w := h
end rules
end Go.X
