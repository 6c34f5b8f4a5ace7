/- A region that draws its order: what reads and what computes is taken as early as it may be; a read's fact is held over what does not wait for it. -/
import Derived.Test.YtnjilbgcflbghaaXCore
import Derived.Laws.World
set_option linter.all false
namespace Go.X
open Go
section
variable {P : Program} {ops : Array Oper} {Q : Act → World → Prop} {md : Region.Mode} {T : Array (List Nat)}
theorem YieldsIf.opW {S : World → Prop} {i : Nat} {o : Oper} {v : Value} {a : Act} (hi : ops[i]? = some o) (hy : YieldsIf P ops S o v a) {K : Act → World → Prop} {w : World} (hS : S w) (h : K (a.put o.dst v) w) : opW P ops i K a w := by
  rcases hy with ⟨hw, hv⟩ | ⟨hw, rfl⟩
  · exact opW_yes hi hw (.read (hv w hS) h)
  · exact opW_no hi hw h
theorem opW_putIf {S : World → Prop} {j : Nat} {oi oj : Oper} {v : Value} (hj : ops[j]? = some oj) (hap : oi.apart ops oj = true) (hsi : ∀ cs b, oi.op ≠ .select cs b) (hsj : ∀ cs b, oj.op ≠ .select cs b)
    {K : Act → World → Prop} {a : Act} {w : World} (hy : YieldsIf P ops S oi v a) (h : opW P ops j K (a.put oi.dst v) w) : opW P ops j (fun a' w' => YieldsIf P ops S oi v a' ∧ K (a'.put oi.dst v) w') a w := by
  obtain ⟨h1, h2, h3⟩ := Oper.apart_spec hap
  have keep : ∀ (a : Act), YieldsIf P ops S oi v a → ∀ u, YieldsIf P ops S oi v (a.put oj.dst u) := fun a hy u =>
    hy.of_same (execOp_put oi hsi a oj.dst u h3) (wanted_put oi a oj.dst u h3)
  unfold Go.X.opW at *
  simp only [hj] at *
  rw [wanted_put oj a oi.dst v h1] at h
  split
  · rename_i hw
    rw [if_pos hw] at h
    have he : EffOp P a.eval oj w (fun u w' => K ((a.put oi.dst v).put oj.dst u) w') := by
      unfold EffOp at *
      rw [execOp_put oj hsj a oi.dst v h1] at h
      exact h
    exact he.mono fun u w' hk => ⟨keep a hy u, by rw [← Act.put_comm a v u h2]; exact hk⟩
  · rename_i hw
    rw [if_neg hw] at h
    exact ⟨keep a hy _, by rw [← Act.put_comm a v undef h2]; exact h⟩

abbrev Helds := List (Nat × (World → Prop))
/-- What is still held behind j: whatever j does not wait for. -/
def after (T : Array (List Nat)) (held : Helds) (j : Nat) : Helds := held.filter fun p => !(T.getD j []).contains p.1
def AllHeld (held : Helds) (w : World) : Prop := ∀ p ∈ held, p.2 w
theorem AllHeld.nil {w : World} : AllHeld [] w := fun _ h => by cases h
theorem AllHeld.cons {i : Nat} {S : World → Prop} {held : Helds} {w : World} (hs : S w) (h : AllHeld held w) : AllHeld ((i, S) :: held) w := by
  intro p hp
  cases hp with
  | head => exact hs
  | tail _ hp => exact h p hp
theorem AllHeld.after {held : Helds} {w : World} (h : AllHeld held w) (T : Array (List Nat)) (j : Nat) : AllHeld (after T held j) w := fun p hp => h p (List.mem_filter.1 hp).1
def wpAnyG (P : Program) (md : Region.Mode) (ops : Array Oper) (Q : Act → World → Prop) (T : Array (List Nat)) : Helds → Nat → Array Bool → Act → World → Prop
  | _, 0, listed, a, w => Region.ready md ops listed = [] ∧ Q a w
  | held, fuel + 1, listed, a, w =>
    (Region.ready md ops listed = [] → Q a w) ∧
    ∀ j ∈ Region.ready md ops listed, opW P ops j (fun a' w' => AllHeld (after T held j) w' ∧ wpAnyG P md ops Q T (after T held j) fuel (listed.setIfInBounds j true) a' w') a w

theorem wpAnyG_sound {f : Fr} {R : Value → World → Prop} {k : List Item} : ∀ (fuel t : Nat) (held : Helds) (listed : Array Bool) (a : Act) (w : World), wpAnyG P md ops (RunsA P f R k) T held fuel listed a w →
    RunsA P f R (.inRegion ops (Region.linearise.go md ops fuel t listed []) :: k) a w := by
  intro fuel
  induction fuel with
  | zero => intro t held listed a w h; exact Ends.steps (m' := fun cs => lone (f.frame.atR a k) cs w) h.2 fun _ => .one (by simpa [Region.linearise.go] using stepR_region_end)
  | succ fuel ih =>
    intro t held listed a w h
    obtain ⟨h₀, h₁⟩ := h
    simp only [Region.linearise.go]
    change RunsA P f R (.inRegion ops (match (Region.ready md ops listed)[t % (Region.ready md ops listed).length]? with
      | some i => Region.linearise.go md ops fuel (t / (Region.ready md ops listed).length) (listed.setIfInBounds i true) [i]
      | none => [].reverse) :: k) a w
    cases hi : (Region.ready md ops listed)[t % (Region.ready md ops listed).length]? with
    | none =>
      have hnil : Region.ready md ops listed = [] := by
        cases hr : Region.ready md ops listed with
        | nil => rfl
        | cons x xs =>
          rw [hr] at hi
          have hlt : t % (x :: xs).length < (x :: xs).length := Nat.mod_lt _ (by simp)
          simp at hi
          simp at hlt
          omega
      exact Ends.steps (m' := fun cs => lone (f.frame.atR a k) cs w) (h₀ hnil) fun _ => .one (by simpa using stepR_region_end)
    | some i =>
      simp only []
      rw [linearise_go_acc, List.reverse_singleton, List.singleton_append]
      exact runs_op (opW_mono (fun a w h => ih _ _ _ a w h.2) (h₁ i (List.mem_of_getElem? hi)))

theorem after_sub {held held' : Helds} (T : Array (List Nat)) (j : Nat) (h : ∀ p ∈ held', p ∈ held) : ∀ p ∈ after T held' j, p ∈ after T held j := fun p hp =>
  List.mem_filter.2 ⟨h p (List.mem_filter.1 hp).1, (List.mem_filter.1 hp).2⟩

theorem wpAnyG_weaken : ∀ (held held' : Helds) (_ : ∀ p ∈ held', p ∈ held) (fuel : Nat) (listed : Array Bool) (a : Act) (w : World),
    wpAnyG P md ops Q T held fuel listed a w → wpAnyG P md ops Q T held' fuel listed a w
  | _, _, _, 0, _, _, _, h => h
  | held, held', hs, fuel + 1, _, _, _, h => ⟨h.1, fun j hj => opW_mono (fun a' w' h' =>
      ⟨fun p hp => h'.1 p (after_sub T j hs p hp), wpAnyG_weaken (after T held j) (after T held' j) (after_sub T j hs) fuel _ a' w' h'.2⟩) (h.2 j hj)⟩

theorem wpAnyG_strengthen' {i : Nat} : ∀ (held held' : Helds) (_ : ∀ p ∈ held', p ∈ held ∨ ∀ w, p.2 w) (fuel : Nat) (listed : Array Bool) (a : Act) (w : World),
    wpAnyG P md ops Q T held fuel listed a w → wpAnyG P md ops Q T held' fuel listed a w
  | _, _, _, 0, _, _, _, h => h
  | held, held', hs, fuel + 1, _, _, _, h => ⟨h.1, fun j hj => opW_mono (fun a' w' h' =>
      have hs' : ∀ p ∈ after T held' j, p ∈ after T held j ∨ ∀ w, p.2 w := fun p hp => (hs p (List.mem_filter.1 hp).1).imp (fun h => List.mem_filter.2 ⟨h, (List.mem_filter.1 hp).2⟩) id
      ⟨fun p hp => (hs' p hp).elim (h'.1 p) (fun h => h w'), wpAnyG_strengthen' (i := i) (after T held j) (after T held' j) hs' fuel _ a' w' h'.2⟩) (h.2 j hj)⟩
theorem wpAnyG_strengthen {i : Nat} {held : Helds} (fuel : Nat) (listed : Array Bool) (a : Act) (w : World) (h : wpAnyG P md ops Q T held fuel listed a w) :
    wpAnyG P md ops Q T ((i, fun _ => True) :: held) fuel listed a w :=
  wpAnyG_strengthen' (i := i) held _ (fun p hp => by cases hp with | head => exact .inr fun _ => trivial | tail _ hp => exact .inl hp) fuel listed a w h

/-- The table of what waits for what is borne out by the edges. -/
def tableOk (md : Region.Mode) (ops : Array Oper) (T : Array (List Nat)) : Bool :=
  (List.range ops.size).all fun j => (T.getD j []).all fun i =>
    match ops[j]? with
    | some o => o.after.any fun e => Region.binds md e && (e.on == i || (T.getD e.on []).contains i)
    | none => false

def Closed (ops : Array Oper) (T : Array (List Nat)) (listed : Array Bool) : Prop :=
  ∀ j, j < ops.size → listed.getD j true = true → ∀ i ∈ T.getD j [], listed.getD i false = true

theorem closed_ready (ht : tableOk md ops T = true) {listed : Array Bool} (hc : Closed ops T listed) (hs : listed.size = ops.size) {j : Nat} (hj : j ∈ Region.ready md ops listed) :
    ∀ i ∈ T.getD j [], listed.getD i false = true := by
  intro i hi
  obtain ⟨_, o, ho, hall⟩ := mem_ready.1 hj
  have hlt : j < ops.size := (Array.getElem?_eq_some_iff.1 ho).1
  have h1 := List.all_eq_true.1 (List.all_eq_true.1 ht j (List.mem_range.2 hlt)) i hi
  simp only [ho] at h1
  obtain ⟨e, he, hb⟩ := Array.any_eq_true'.1 h1
  simp only [Bool.and_eq_true, Bool.or_eq_true, beq_iff_eq] at hb
  have hl := hall e he hb.1
  rcases hb.2 with h2 | h2
  · rw [← h2]; exact hl
  · have hlt2 : e.on < listed.size := by
      rcases Nat.lt_or_ge e.on listed.size with h | h
      · exact h
      · simp [Array.getElem?_eq_none h] at hl
    exact hc e.on (hs ▸ hlt2) (by simpa [hlt2] using hl) i (by simpa using h2)

theorem closed_set (ht : tableOk md ops T = true) {listed : Array Bool} (hc : Closed ops T listed) (hs : listed.size = ops.size) {j : Nat} (hj : j ∈ Region.ready md ops listed) :
    Closed ops T (listed.setIfInBounds j true) := by
  intro m hm hl i hi
  by_cases h : m = j
  · subst h; exact getD_set_true (closed_ready ht hc hs hj i hi)
  · rw [getD_set_ne true (Ne.symm h)] at hl
    exact getD_set_true (hc m hm hl i hi)

theorem wpAnyG_first {i : Nat} {oi : Oper} {v : Value} {S : World → Prop} (ht : tableOk md ops T = true) (hi : ops[i]? = some oi) (hsel : ∀ (j : Nat) (o : Oper) cs b, ops[j]? = some o → o.op ≠ .select cs b)
    :
    ∀ (fuel : Nat) (held : Helds) (listed : Array Bool) (a : Act) (w : World), listed.size = ops.size → Closed ops T listed →
      (∀ j oj, ops[j]? = some oj → j ≠ i → listed.getD j true = false → (∀ e ∈ oj.after, Region.binds md e = true → e.on ≠ i) → oi.apart ops oj = true) →
      i ∈ Region.ready md ops listed → YieldsIf P ops S oi v a → S w → AllHeld held w →
      wpAnyG P md ops Q T ((i, S) :: held) fuel (listed.setIfInBounds i true) (a.put oi.dst v) w → wpAnyG P md ops Q T held (fuel + 1) listed a w := by
  intro fuel
  induction fuel with
  | zero =>
    intro held listed a w hsz hcl _ hr hy hS hk H
    refine ⟨fun h => (by rw [h] at hr; cases hr), fun j hj => ?_⟩
    by_cases hji : j = i
    · subst hji; exact YieldsIf.opW hi hy hS ⟨hk.after T j, wpAnyG_weaken _ _ (fun p hp => .tail _ (List.mem_filter.1 hp).1) _ _ _ _ H⟩
    · have := ready_mono hj hji
      rw [H.1] at this
      cases this
  | succ fuel ih =>
    intro held listed a w hsz hcl hfree hr hy hS hk H
    refine ⟨fun h => (by rw [h] at hr; cases hr), fun j hj => ?_⟩
    by_cases hji : j = i
    · subst hji; exact YieldsIf.opW hi hy hS ⟨hk.after T j, wpAnyG_weaken _ _ (fun p hp => .tail _ (List.mem_filter.1 hp).1) _ _ _ _ H⟩
    · have h1 := H.2 j (ready_mono hj hji)
      obtain ⟨hjun, oj, hoj, hall⟩ := mem_ready.1 hj
      have hiun : listed.getD i false = false := by
        have h0 := (mem_ready.1 hr).1
        rcases Nat.lt_or_ge i listed.size with h' | h'
        · simpa [h'] using h0
        · simp [Array.getElem?_eq_none h']
      have hnot : ∀ e ∈ oj.after, Region.binds md e = true → e.on ≠ i := fun e he hb heq => by
        have h1 := hall e he hb
        rw [heq, hiun] at h1
        cases h1
      have hwt : (T.getD j []).contains i = false := by
        cases hc : (T.getD j []).contains i with
        | false => rfl
        | true => have := closed_ready ht hcl hsz hj i (by simpa using hc); rw [hiun] at this; cases this
      have h2 := opW_putIf hoj (hfree j oj hoj hji hjun hnot) (fun cs b => hsel i oi cs b hi) (fun cs b => hsel j oj cs b hoj) hy h1
      have hfree' : ∀ k ok, ops[k]? = some ok → k ≠ i → (listed.setIfInBounds j true).getD k true = false →
          (∀ e ∈ ok.after, Region.binds md e = true → e.on ≠ i) → oi.apart ops ok = true := fun k ok hk hki hun hno => by
        refine hfree k ok hk hki ?_ hno
        by_cases hjk : j = k
        · subst hjk; exact hjun
        · rw [getD_set_ne true hjk] at hun; exact hun
      refine opW_mono (fun a' w' h3 => ?_) h2
      obtain ⟨hy', hheld, hnext⟩ := h3
      have e : after T ((i, S) :: held) j = (i, S) :: after T held j := by
        simp only [after, List.filter_cons, hwt, Bool.not_false, if_true]
      rw [e] at hheld hnext
      have hS' : S w' := hheld (i, S) (.head _)
      have hsz' : (listed.setIfInBounds j true).size = ops.size := by simpa using hsz
      have hheld' : AllHeld (after T held j) w' := fun p hp => hheld p (.tail _ hp)
      refine ⟨hheld', ih _ (listed.setIfInBounds j true) a' w' hsz' (closed_set ht hcl hsz hj) hfree' (ready_mono hr (Ne.symm hji)) hy' hS' hheld' ?_⟩
      rw [Array.setIfInBounds_comm _ _ hji]
      exact hnext

/-- A region whose order is drawn, from a state of what has come. -/
def XAny (P : Program) (f : Fr) (n : Nat) (R : Value → World → Prop) (k : List Item) (ops : Array Oper) (T : Array (List Nat)) (held : Helds) (fuel : Nat) (listed : Array Bool) (σ : Env) (w : World) : Prop :=
  listed.size = ops.size → Closed ops T listed → AllHeld held w → wpAnyG P .any ops (RunsA P f R k) T held fuel listed (f.act n σ) w

section rules
variable {f : Fr} {n : Nat} {R : Value → World → Prop} {k : List Item} {σ : Env} {w : World} {held : Helds} {fuel : Nat} {listed : Array Bool}

theorem drop_get {l l' : List Oper} {i : Nat} {o : Oper} (h : l.drop i = o :: l') : l.toArray[i]? = some o := by
  have : (l.drop i)[0]? = some o := by rw [h]; rfl
  simpa using this
theorem r_draw {id : Nat} {l : List Oper} (T : Array (List Nat)) (m : Nat) (hm : P.follows .mixedOrders = true) (hs : l.length = m) (h : XAny P f n R k l.toArray T [] m (Array.replicate m false) σ w.drew) :
    Runs P f n R (.code (.region id l.toArray true) :: k) σ w := by
  have h : XAny P f n R k l.toArray T [] l.toArray.size (Array.replicate l.toArray.size false) σ { w with drawn := w.drawn + 1 } := by subst hs; simpa using h
  have h2 := h (by simp) (by
    intro j hj hl
    have : (Array.replicate l.toArray.size false).getD j true = false := by simp at hj; simp [hj]
    rw [this] at hl
    cases hl) AllHeld.nil
  refine Ends.steps (m' := fun cs => lone (f.frame.atR (f.act n σ) (.inRegion l.toArray (Region.schedule (P.follows .mixedOrders) l.toArray (w.tape w.drawn (.order f.frame.fn id))) :: k)) cs { w with drawn := w.drawn + 1 }) ?_ fun cs => .one stepR_region_draw
  simp only [Region.schedule, hm, Bool.true_or, if_true]
  exact wpAnyG_sound _ _ _ _ _ _ h2

theorem xa_end (hr : Region.ready .any ops listed = []) (h : Runs P f n R k σ w) : XAny P f n R k ops T held fuel listed σ w := by
  intro _ _ _
  cases fuel with
  | zero => exact ⟨hr, h⟩
  | succ fuel => exact ⟨fun _ => h, by rw [hr]; intro j hj; cases hj⟩

/-- All that a step asks of the region's text, at once. -/
def takeOk (ops : Array Oper) (T : Array (List Nat)) (listed : Array Bool) (i : Nat) : Bool :=
  tableOk .any ops T && Region.noSelect ops && Region.free .any ops listed i && (Region.ready .any ops listed).contains i

theorem xa_read' {i : Nat} {o : Oper} {v : Value} {S : World → Prop} (hc : takeOk ops T listed i = true) (ho : ops[i]? = some o) (hw : Region.wanted o (yielded ops (mkAct n σ).tmps) = true)
    (hp : ∀ w, S w → ReadOp P (ev n σ) o v w) (hS : S w) (h : XAny P f n R k ops T ((i, S) :: held) fuel (listed.setIfInBounds i true) (setDst o.dst v σ) w) :
    XAny P f n R k ops T held (fuel + 1) listed σ w := by
  intro hsz hcl hk
  simp only [takeOk, Bool.and_eq_true] at hc
  obtain ⟨⟨⟨h1, h2⟩, h3⟩, h4⟩ := hc
  have hr : i ∈ Region.ready .any ops listed := by simpa using h4
  refine wpAnyG_first h1 ho (Region.noSelect_spec h2) fuel held listed _ w hsz hcl (Region.free_spec ho h3) hr (v := v) (S := S) (.inl ⟨hw, fun w hs => ?_⟩) hS hk ?_
  · rw [act_eval]; exact hp w hs
  · rw [act_setDst]
    exact h (by simpa using hsz) (closed_set h1 hcl hsz hr) (.cons hS hk)

theorem xa_pure' {i : Nat} {o : Oper} {v : Value} (hc : takeOk ops T listed i = true) (ho : ops[i]? = some o) (hw : Region.wanted o (yielded ops (mkAct n σ).tmps) = true)
    (hp : PureOp P (ev n σ) o v) (h : XAny P f n R k ops T held fuel (listed.setIfInBounds i true) (setDst o.dst v σ) w) :
    XAny P f n R k ops T held (fuel + 1) listed σ w := by
  intro hsz hcl hk
  simp only [takeOk, Bool.and_eq_true] at hc
  obtain ⟨⟨⟨h1, h2⟩, h3⟩, h4⟩ := hc
  have hr : i ∈ Region.ready .any ops listed := by simpa using h4
  refine wpAnyG_first h1 ho (Region.noSelect_spec h2) fuel held listed _ w hsz hcl (Region.free_spec ho h3) hr (v := v) (S := fun _ => True) (.inl ⟨hw, fun w _ => ?_⟩) trivial hk ?_
  · rw [act_eval]; exact hp w
  · rw [act_setDst]
    exact wpAnyG_strengthen _ _ _ _ (h (by simpa using hsz) (closed_set h1 hcl hsz hr) hk)

theorem xa_skip' {i : Nat} {o : Oper} (hc : takeOk ops T listed i = true) (ho : ops[i]? = some o) (hw : Region.wanted o (yielded ops (mkAct n σ).tmps) = false)
    (h : XAny P f n R k ops T held fuel (listed.setIfInBounds i true) (setDst o.dst undef σ) w) :
    XAny P f n R k ops T held (fuel + 1) listed σ w := by
  intro hsz hcl hk
  simp only [takeOk, Bool.and_eq_true] at hc
  obtain ⟨⟨⟨h1, h2⟩, h3⟩, h4⟩ := hc
  have hr : i ∈ Region.ready .any ops listed := by simpa using h4
  refine wpAnyG_first h1 ho (Region.noSelect_spec h2) fuel held listed _ w hsz hcl (Region.free_spec ho h3) hr (v := undef) (S := fun _ => True) (.inr ⟨hw, rfl⟩) trivial hk ?_
  rw [act_setDst]
  exact wpAnyG_strengthen _ _ _ _ (h (by simpa using hsz) (closed_set h1 hcl hsz hr) hk)

def effOk (ops : Array Oper) (T : Array (List Nat)) (listed : Array Bool) (l : List Nat) : Bool :=
  tableOk .any ops T && Region.ready .any ops listed == l

/-- One of those that are ready comes, and acts. -/
structure XOne (P : Program) (f : Fr) (n : Nat) (R : Value → World → Prop) (k : List Item) (ops : Array Oper) (T : Array (List Nat)) (held : Helds) (fuel : Nat) (listed : Array Bool) (σ : Env) (w : World) (j : Nat) : Prop where
  mk ::
  h : opW P ops j (fun a' w' => AllHeld (after T held j) w' ∧ ∃ σ', a' = f.act n σ' ∧ XAny P f n R k ops T (after T held j) fuel (listed.setIfInBounds j true) σ' w') (f.act n σ) w

theorem xa_all {l : List Nat} (hc : effOk ops T listed l = true) (hl : l ≠ []) (h : ∀ j ∈ l, XOne P f n R k ops T held fuel listed σ w j) : XAny P f n R k ops T held (fuel + 1) listed σ w := by
  intro hsz hcl hk
  simp only [effOk, Bool.and_eq_true, beq_iff_eq] at hc
  refine ⟨fun h0 => absurd (hc.2 ▸ h0) hl, fun j hj => ?_⟩
  refine opW_mono (fun a' w' h' => ?_) (h j (hc.2 ▸ hj)).h
  obtain ⟨ha, σ', rfl, hx⟩ := h'
  exact ⟨ha, hx (by simpa using hsz) (closed_set hc.1 hcl hsz hj) ha⟩

theorem x_one {j : Nat} {o : Oper} {K : Value → World → Prop} (ho : ops[j]? = some o) (hw : Region.wanted o (yielded ops (mkAct n σ).tmps) = true)
    (hp : EffOp P (ev n σ) o w K) (h : ∀ v w', K v w' → AllHeld (after T held j) w' ∧ XAny P f n R k ops T (after T held j) fuel (listed.setIfInBounds j true) (setDst o.dst v σ) w') :
    XOne P f n R k ops T held fuel listed σ w j := by
  refine ⟨opW_yes ho hw ?_⟩
  rw [act_eval]
  refine hp.mono fun v w' hk => ?_
  rw [act_setDst]
  exact ⟨(h v w' hk).1, _, rfl, (h v w' hk).2⟩

theorem xa_eff' (held' : Helds) {j : Nat} {o : Oper} {K : Value → World → Prop} (hc : effOk ops T listed [j] = true) (hh : after T held j = held') (ho : ops[j]? = some o) (hw : Region.wanted o (yielded ops (mkAct n σ).tmps) = true)
    (hp : EffOp P (ev n σ) o w K) (h : ∀ v w', K v w' → AllHeld held' w' ∧ XAny P f n R k ops T held' fuel (listed.setIfInBounds j true) (setDst o.dst v σ) w') :
    XAny P f n R k ops T held (fuel + 1) listed σ w :=
  xa_all hc (by simp) fun m hm => by
    obtain rfl : m = j := by simpa using hm
    subst hh
    exact x_one ho hw hp h
theorem xa_two {i j : Nat} (hc : effOk ops T listed [i, j] = true) (h1 : XOne P f n R k ops T held fuel listed σ w i) (h2 : XOne P f n R k ops T held fuel listed σ w j) :
    XAny P f n R k ops T held (fuel + 1) listed σ w :=
  xa_all hc (by simp) fun m hm => by
    rcases (by simpa using hm : m = i ∨ m = j) with rfl | rfl
    · exact h1
    · exact h2
theorem xone_eff' (held' : Helds) {j : Nat} {o : Oper} {K : Value → World → Prop} (hh : after T held j = held') (ho : ops[j]? = some o) (hw : Region.wanted o (yielded ops (mkAct n σ).tmps) = true)
    (hp : EffOp P (ev n σ) o w K) (h : ∀ v w', K v w' → AllHeld held' w' ∧ XAny P f n R k ops T held' fuel (listed.setIfInBounds j true) (setDst o.dst v σ) w') :
    XOne P f n R k ops T held fuel listed σ w j := by
  subst hh
  exact x_one ho hw hp h
/-! The steps, the operation as it stands in the region's list -/
variable {l l' : List Oper} {i d : Nat} {o : Oper} {v : Value} {S : World → Prop} {K : Value → World → Prop}
theorem xa_read (i : Nat) (hc : takeOk l.toArray T listed i = true) (ho : l.drop i = o :: l') (hd : o.dst = some d) (hw : Region.wanted o (yielded l.toArray (mkAct n σ).tmps) = true)
    (hp : ∀ w, S w → ReadOp P (ev n σ) o v w) (hS : S w) (h : XAny P f n R k l.toArray T ((i, S) :: held) fuel (listed.setIfInBounds i true) (upd d v σ) w) :
    XAny P f n R k l.toArray T held (fuel + 1) listed σ w := xa_read' hc (drop_get ho) hw hp hS (by rw [hd]; exact h)
theorem xa_pure (i : Nat) (hc : takeOk l.toArray T listed i = true) (ho : l.drop i = o :: l') (hd : o.dst = some d) (hw : Region.wanted o (yielded l.toArray (mkAct n σ).tmps) = true)
    (hp : PureOp P (ev n σ) o v) (h : XAny P f n R k l.toArray T held fuel (listed.setIfInBounds i true) (upd d v σ) w) :
    XAny P f n R k l.toArray T held (fuel + 1) listed σ w := xa_pure' hc (drop_get ho) hw hp (by rw [hd]; exact h)
theorem xa_skip (i : Nat) (hc : takeOk l.toArray T listed i = true) (ho : l.drop i = o :: l') (hd : o.dst = some d) (hw : Region.wanted o (yielded l.toArray (mkAct n σ).tmps) = false)
    (h : XAny P f n R k l.toArray T held fuel (listed.setIfInBounds i true) (upd d undef σ) w) :
    XAny P f n R k l.toArray T held (fuel + 1) listed σ w := xa_skip' hc (drop_get ho) hw (by rw [hd]; exact h)
theorem xa_eff (j : Nat) (held' : Helds) (hc : effOk l.toArray T listed [j] = true) (hh : after T held j = held') (ho : l.drop j = o :: l') (hd : o.dst = some d) (hw : Region.wanted o (yielded l.toArray (mkAct n σ).tmps) = true)
    (hp : EffOp P (ev n σ) o w K) (h : ∀ v w', K v w' → AllHeld held' w' ∧ XAny P f n R k l.toArray T held' fuel (listed.setIfInBounds j true) (upd d v σ) w') :
    XAny P f n R k l.toArray T held (fuel + 1) listed σ w := xa_eff' held' hc hh (drop_get ho) hw hp (by rw [hd]; exact h)
theorem xa_effN (j : Nat) (held' : Helds) (hc : effOk l.toArray T listed [j] = true) (hh : after T held j = held') (ho : l.drop j = o :: l') (hd : o.dst = none) (hw : Region.wanted o (yielded l.toArray (mkAct n σ).tmps) = true)
    (hp : EffOp P (ev n σ) o w K) (h : ∀ v w', K v w' → AllHeld held' w' ∧ XAny P f n R k l.toArray T held' fuel (listed.setIfInBounds j true) σ w') :
    XAny P f n R k l.toArray T held (fuel + 1) listed σ w := xa_eff' held' hc hh (drop_get ho) hw hp (by rw [hd]; exact h)
theorem xone_eff (j : Nat) (held' : Helds) (hh : after T held j = held') (ho : l.drop j = o :: l') (hd : o.dst = some d) (hw : Region.wanted o (yielded l.toArray (mkAct n σ).tmps) = true)
    (hp : EffOp P (ev n σ) o w K) (h : ∀ v w', K v w' → AllHeld held' w' ∧ XAny P f n R k l.toArray T held' fuel (listed.setIfInBounds j true) (upd d v σ) w') :
    XOne P f n R k l.toArray T held fuel listed σ w j := xone_eff' held' hh (drop_get ho) hw hp (by rw [hd]; exact h)
end rules
end
end Go.X
