/-
Code, and what a call leaves.
-/
import Derived.Test.YtacoaajilnpeiaaGreatDoorKc

set_option linter.unusedVariables false
set_option linter.unusedSimpArgs false

section
namespace Go.Kal
open Go

/-- frame b goes on by 'a' with 'todo' -/
def fat (b : Frame) (a : Act) (todo : List Item) : Frame :=
  { fn := b.fn, tmps := a.tmps, todo, defers := a.defers, mode := .run, kind := b.kind, roundOf := b.roundOf }

theorem eval_fat (b : Frame) (a : Act) (todo : List Item) (x : Operand) : (fat b a todo).eval x = a.eval x := by cases x <;> rfl
theorem eval_fat' (b : Frame) (a : Act) (todo : List Item) : (fat b a todo).eval = a.eval := funext (eval_fat b a todo)

section moves
variable {P : Program} {b : Frame} {a : Act} {k : List Item} {cs : List Frame} {w : World}
theorem st_skip : step P (lone (fat b a (.code .skip :: k)) cs w) = .next (lone (fat b a k) cs w) :=
  step_lone_go (by simp [stepG, stepG.exec, fat])
theorem st_inBlock {id : Nat} : step P (lone (fat b a (.inBlock id :: k)) cs w) = .next (lone (fat b a k) cs w) :=
  step_lone_go (by simp [stepG, stepG.exec, fat])
theorem st_seq {x y : Code} : step P (lone (fat b a (.code (.seq x y) :: k)) cs w) = .next (lone (fat b a (.code x :: .code y :: k)) cs w) :=
  step_lone_go (by simp [stepG, stepG.exec, fat])
theorem st_cond {c : Operand} {x y : Code} {t : Bool} (h : a.eval c = .bool t) :
    step P (lone (fat b a (.code (.cond c x y) :: k)) cs w) = .next (lone (fat b a (.code (if t then x else y) :: k)) cs w) :=
  step_lone_go (by
    have := eval_fat b a (.code (.cond c x y) :: k) c
    simp only [fat] at this
    simp [stepG, stepG.exec, fat, this, h])
theorem st_block {id : Nat} {c : Code} : step P (lone (fat b a (.code (.block id c) :: k)) cs w) = .next (lone (fat b a (.code c :: .inBlock id :: k)) cs w) :=
  step_lone_go (by simp [stepG, stepG.exec, fat])
theorem st_loop {c : Code} : step P (lone (fat b a (.code (.loop c) :: k)) cs w) = .next (lone (fat b a (.code c :: .inLoop c :: k)) cs w) :=
  step_lone_go (by simp [stepG, stepG.exec, fat])
theorem st_inLoop {c : Code} : step P (lone (fat b a (.inLoop c :: k)) cs w) = .next (lone (fat b a (.code c :: .inLoop c :: k)) cs w) :=
  step_lone_go (by simp [stepG, stepG.exec, fat])
theorem st_exit {id : Nat} {k' : List Item} (h : exitTo id k = some k') : step P (lone (fat b a (.code (.exit id) :: k)) cs w) = .next (lone (fat b a k') cs w) :=
  step_lone_go (by simp [stepG, stepG.exec, fat, h])
theorem st_region {id : Nat} {ops : Array Oper} : step P (lone (fat b a (.code (.region id ops false) :: k)) cs w) = .next (lone (fat b a (.inRegion ops (List.range ops.size) :: k)) cs w) :=
  step_lone_go (by simp [stepG, stepG.exec, fat])
theorem st_region_draw {id : Nat} {ops : Array Oper} :
    step P (lone (fat b a (.code (.region id ops true) :: k)) cs w) =
      .next (lone (fat b a (.inRegion ops (Region.schedule (P.follows .mixedOrders) ops (w.tape w.drawn (.order b.fn id))) :: k)) cs w.drew) :=
  step_lone_go (by simp [stepG, stepG.exec, fat, choose, Sem.run, Question.forced, Question.cut])
theorem st_region_end {ops : Array Oper} : step P (lone (fat b a (.inRegion ops [] :: k)) cs w) = .next (lone (fat b a k) cs w) :=
  step_lone_go (by simp [stepG, stepG.exec, fat])

theorem finish_fat {ops : Array Oper} {i : Nat} {rest : List Nat} (v : Value) : (fat b a (.inRegion ops (i :: rest) :: k)).finish v = fat b (a.put ((ops[i]?).bind (·.dst)) v) (.inRegion ops rest :: k) := by
  cases h : (ops[i]?).bind (·.dst) <;> simp [Frame.finish, fat, Act.put, h]

theorem st_op_skip {ops : Array Oper} {i : Nat} {rest : List Nat} (h : ((ops[i]?).map (Region.wanted · (yielded ops a.tmps))).getD false = false) :
    step P (lone (fat b a (.inRegion ops (i :: rest) :: k)) cs w) = .next (lone (fat b (a.put ((ops[i]?).bind (·.dst)) undef) (.inRegion ops rest :: k)) cs w) := by
  rw [← finish_fat]
  exact step_lone_go (by
    have h' := h
    simp only [fat] at *
    simp [stepG, stepG.exec, h'])

theorem stG_op {ops : Array Oper} {i : Nat} {rest : List Nat} {o : Oper} (ho : ops[i]? = some o) (hw : Region.wanted o (yielded ops a.tmps) = true) (hd : b.roundOf = none ∨ ∀ c, o.op ≠ .defer c) :
    stepG P true { frame := fat b a (.inRegion ops (i :: rest) :: k), callers := cs, status := .running, dying := none } w =
      stepG.apply P true (fat b a (.inRegion ops (i :: rest) :: k)) cs none (execOp a.eval o) w := by
  have he := eval_fat' b a (.inRegion ops (i :: rest) :: k)
  simp only [fat] at he
  rcases hd with hd | hd
  · rw [hd] at he
    simp [stepG, stepG.exec, stepG.oper, Frame.oper?, fat, ho, hw, he, hd]
  · cases hr : b.roundOf with
    | none =>
      rw [hr] at he
      simp [stepG, stepG.exec, stepG.oper, Frame.oper?, fat, ho, hw, he, hr]
    | some l =>
      rw [hr] at he
      simp only [stepG, stepG.exec, stepG.oper, Frame.oper?, fat, ho, hw, he, hr, Option.map_some, Option.getD_some, if_true]
      split
      · rename_i c _ heq; exact absurd heq (hd _)
      · rfl
end moves

/-- how a call ends -/
inductive OutV where
  | val (v : Value)
  | pan (v : Value)

def Lands (P : Program) (m : Machine) (fr : Frame) (cs : List Frame) (w : World) : OutV → Prop
  | .val v => Steps P m (lone (fr.finish v) cs w)
  | .pan v => Steps P m (lone (fr.raise [{ v, recovered := false }]) cs w)

theorem Lands.of_steps {P : Program} {m m' : Machine} {fr : Frame} {cs : List Frame} {w : World} {o : OutV} (h : Steps P m m') (l : Lands P m' fr cs w o) : Lands P m fr cs w o := by
  cases o with
  | val v => exact h.trans l
  | pan v => exact h.trans l

/-- callers that a deferred call may have: 'recover' finds nothing -/
def calm : CallKind → List Frame → Prop
  | .normal, _ => True
  | .deferred, cs => ∃ c rest, cs = c :: rest ∧ c.mode = .returning
  | _, _ => False

def leavesK (P : Program) (fr : Frame) (kind : CallKind) (w : World) : OutV → Prop
  | .val v => fr.mode = .returning ∧ fr.defers = [] ∧ fr.kind = kind ∧ ∃ fn, P.funcs[fr.fn]? = some fn ∧ (results fn fr.tmps).run P w = .ok v w
  | .pan v => fr.mode = .panicking [{ v, recovered := false }] ∧ fr.defers = [] ∧ ∃ fn, P.funcs[fr.fn]? = some fn

/-- a call of a function with a body, of whichever kind -/
def CallK (P : Program) (f : FuncId) (args : Array Value) (kind : CallKind) (w : World) (R : OutV → World → Prop) : Prop :=
  ∀ cs, calm kind cs → ∃ out w' fr, R out w' ∧ Steps P (lone (Frame.enter P f args kind) cs w) (lone fr cs w') ∧ fr.fn = f ∧ leavesK P fr kind w' out

theorem CallK.calls {P : Program} {f : FuncId} {args : Array Value} {w : World} {R : OutV → World → Prop} (h : CallK P f args .normal w R) :
    Calls P f args w (fun e w' => match e with | .returned v => R (.val v) w' | .panicked ch => ∃ v, ch = [{ v, recovered := false }] ∧ R (.pan v) w' | .outgrown => False) := by
  intro cs
  obtain ⟨out, w', fr, hR, hs, hf, hl⟩ := h cs trivial
  cases out with
  | val v => exact ⟨.returned v, w', fr, hR, hs, hf, hl⟩
  | pan v => exact ⟨.panicked [{ v, recovered := false }], w', fr, ⟨v, rfl, hR⟩, hs, hf, hl⟩

theorem CallK.mono {P : Program} {f : FuncId} {args : Array Value} {kind : CallKind} {w : World} {R R' : OutV → World → Prop} (h : CallK P f args kind w R) (hr : ∀ o w', R o w' → R' o w') : CallK P f args kind w R' :=
  fun cs hc => let ⟨o, w', fr, a, b⟩ := h cs hc; ⟨o, w', fr, hr _ _ a, b⟩

theorem CallK.of_calls {P : Program} {f : FuncId} {args : Array Value} {w : World} {R : OutV → World → Prop} (h : Calls P f args w (fun e w' => ∃ v, e = .returned v ∧ R (.val v) w')) : CallK P f args .normal w R := by
  intro cs _
  obtain ⟨e, w', fr, ⟨v, rfl, hR⟩, hs, hf, hl⟩ := h cs
  exact ⟨.val v, w', fr, hR, hs, hf, hl⟩

/-- after a normal call the caller goes on -/
theorem CallK.lands {P : Program} {f : FuncId} {args : Array Value} {w : World} {R : OutV → World → Prop} (h : CallK P f args .normal w R) (c : Frame) (cs : List Frame) :
    ∃ out w', R out w' ∧ Lands P (lone (Frame.enter P f args .normal) (c :: cs) w) c cs w' out := by
  obtain ⟨out, w', fr, hR, hs, hf, hl⟩ := h (c :: cs) trivial
  refine ⟨out, w', hR, ?_⟩
  cases out with
  | val v => exact hs.trans (.one (step_leave_returned (show fr.leaving P w' (.returned v) from hl)))
  | pan v => exact hs.trans (.one (step_leave_panicked (show fr.leaving P w' (.panicked _) from hl)))

/-- a call of a function value -/
def CallsV (P : Program) (kind : CallKind) (g : Value) (args : Array Value) (w : World) (R : OutV → World → Prop) : Prop :=
  ∃ fn first captured, g = .func fn first captured ∧
    match (invoke (.fn fn captured) (first ++ args)).run P w with
    | .ok (.value v) w' => R (.val v) w'
    | .ok (.enter f all) w' => CallK P f all kind w' R
    | .ok (.round l f tmps assign body) w' => kind = .normal ∧ ∀ c cs, ∃ out w'', R out w'' ∧ Lands P (lone (Frame.round l f tmps assign body .normal) (c :: cs) w') c cs w'' out
    | _ => False

theorem CallsV.mono {P : Program} {kind : CallKind} {g : Value} {args : Array Value} {w : World} {R R' : OutV → World → Prop} (h : CallsV P kind g args w R) (hr : ∀ o w', R o w' → R' o w') : CallsV P kind g args w R' := by
  obtain ⟨fn, first, captured, e, h⟩ := h
  refine ⟨fn, first, captured, e, ?_⟩
  split at h
  · exact hr _ _ h
  · exact h.mono hr
  · exact ⟨h.1, fun c cs => let ⟨o, w', a, b⟩ := h.2 c cs; ⟨o, w', hr _ _ a, b⟩⟩
  · exact h.elim

/-- the frame that calls goes on where the call has ended -/
theorem CallsV.apply {P : Program} {g : Value} {args : Array Value} {w0 w : World} {R : OutV → World → Prop} (h : CallsV P .normal g args w R) {fr fr0 : Frame} {cs : List Frame} (hk : ∀ d r s k, fr.todo ≠ .call d true r s :: k)
    (hs : (stepG P true { frame := fr0, callers := cs, status := .running, dying := none } w0).bare = (stepG.apply P true fr cs none (do let d ← Deferred.ofValue g args; invoke d.target d.args) w).bare) :
    ∃ out w', R out w' ∧ Lands P (lone fr0 cs w0) fr cs w' out := by
  obtain ⟨fn, first, captured, rfl, h⟩ := h
  have hrun : (do let d ← Deferred.ofValue (.func fn first captured) args; invoke d.target d.args : Sem Next).run P w = (invoke (.fn fn captured) (first ++ args)).run P w := by
    simp [Deferred.ofValue]
  have hkind : (match fr.todo with | .call _ true _ _ :: _ => CallKind.wrapped | _ => .normal) = .normal := by
    split
    · rename_i d r s k heq; exact absurd heq (hk _ _ _ _)
    · rfl
  split at h
  · rename_i v w' hr
    refine ⟨.val v, w', h, .one (step_lone_go ?_)⟩
    rw [hs]
    simp [stepG.apply, hrun, hr]
  · rename_i f all w' hr
    obtain ⟨out, w'', hR, hl⟩ := h.lands fr cs
    refine ⟨out, w'', hR, .of_steps (.one (step_lone_go ?_)) hl⟩
    rw [hs]
    simp only [stepG.apply, Sem.runT_eq, hrun, hr, GStep.bare_after, hkind]
    rfl
  · rename_i l f tmps assign body w' hr
    obtain ⟨out, w'', hR, hl⟩ := h.2 fr cs
    refine ⟨out, w'', hR, .of_steps (.one (step_lone_go ?_)) hl⟩
    rw [hs]
    simp [stepG.apply, hrun, hr]
  · exact h.elim
end Go.Kal
end

section
namespace Go.Kal
open Go

def OutR (J : K) : CR → OutV → Prop
  | .val v, .val v' => VR J v v'
  | .pan v, .pan v' => VR J v v'
  | _, _ => False

theorem OutR.mono {J J' : K} (h : J.le J') : ∀ {r : CR} {o : OutV}, OutR J r o → OutR J' r o
  | .val _, .val _, q => VR.mono h q
  | .pan _, .pan _, q => VR.mono h q

def kindOK (E : Env) (kind : CallKind) (g : AV) : Prop := kind = .normal ∨ (kind = .deferred ∧ ∃ f a b, g = .fn (.func f) a b ∧ E.intr f = none)

/-- the interpreter's calls at one depth hold -/
def CvOK (E : Env) (P : Program) (G : K) (cv : Cv) : Prop :=
  ∀ {J : K} {h : H} {w : World} {g : AV} {g' : Value} {args : List AV} {args' : Array Value} {r : CR × H} {kind : CallKind}, G.le J → W J h w → VR J g g' → LR J args args'.toList → cv g args h = some r → kindOK E kind g →
    CallsV P kind g' args' w (fun out w' => ∃ J', OutR J' r.1 out ∧ W J' r.2 w' ∧ Ext none J h w J' r.2 w')

/-- deferred calls -/
inductive DR (B : Nat) (J : K) (h : H) (w : World) : List Df → List Deferred → Prop
  | nil : DR B J h w [] []
  | call {d : Df} {ds : List Df} {l : List Deferred} {fn : Fn} {first captured args' : Array Value} (hf : VR J d.fn (.func fn first captured)) (ha : LR J d.args args'.toList) (t : DR B J h w ds l) :
      DR B J h w (d :: ds) ({ target := .fn fn captured, args := first ++ args' } :: l)
  | mark {ds : List Df} {l : List Deferred} {r : Nat} (hB : B ≤ r) (hlt : r < w.heap.size) (hno : ∀ id, (h.get id).isSome → J.obj id ≠ some r) (hr : w.heap[r]? = some (.deferred (some []))) (hne : ∀ d ∈ l, d.target ≠ .collected r) (t : DR B J h w ds l) :
      DR B J h w ds ({ target := .collected r, args := #[] } :: l)

theorem DR.mono {B : Nat} {x : Option Nat} {J : K} {h : H} {w : World} {J' : K} {h' : H} {w' : World} (hx : Ext x J h w J' h' w') {ds : List Df} {l : List Deferred} (hd : DR B J h w ds l) : DR B J' h' w' ds l := by
  induction hd with
  | nil => exact .nil
  | call hf ha _ ih => exact .call (hf.mono hx.le) (ha.mono hx.le) ih
  | mark hB hlt hno hr hne _ ih =>
    refine .mark hB (Nat.lt_of_lt_of_le hlt hx.size) (fun id hid e => ?_) (by rw [hx.keep hlt hno]; exact hr) hne ih
    rcases hx.own hid e with q | ⟨i, q1, q2⟩
    · omega
    · exact hno i q1 q2

structure SR (B : Nat) (J : K) (s : St) (nt : Nat) (a : Act) (w : World) : Prop where
  fr : FR J s.fr nt a.tmps
  mem : W J s.h w
  ds : DR B J s.h w s.ds a.defers
  base : B ≤ w.heap.size

def Arr (P : Program) (m : Machine) (b : Frame) (k : List Item) (cs : List Frame) (J : K) : Ex → Act → World → Prop
  | .normal, a, w => Steps P m (lone (fat b a k) cs w)
  | .exit id, a, w => ∃ todo, Steps P m (lone (fat b a (.code (.exit id) :: todo)) cs w) ∧ exitTo id todo = exitTo id k
  | .ret, a, w => ∃ todo, Steps P m (lone (fat b a (.code .ret :: todo)) cs w)
  | .panic v, a, w => ∃ todo v', VR J v v' ∧ Steps P m (lone { fat b a todo with mode := .panicking [{ v := v', recovered := false }] } cs w)

theorem Arr.of_steps {P : Program} {m m' : Machine} {b : Frame} {k : List Item} {cs : List Frame} {J : K} {e : Ex} {a : Act} {w : World} (h : Steps P m m') (l : Arr P m' b k cs J e a w) : Arr P m b k cs J e a w := by
  cases e with
  | normal => exact h.trans l
  | exit id => obtain ⟨t, s, q⟩ := l; exact ⟨t, h.trans s, q⟩
  | ret => obtain ⟨t, s⟩ := l; exact ⟨t, h.trans s⟩
  | panic v => obtain ⟨t, v', q, s⟩ := l; exact ⟨t, v', q, h.trans s⟩

section
variable {E : Env} {P : Program} {G J : K} {h : H} {w : World} {fr : T AV} {nt : Nat} {a : Act} {x : Option Nat}

theorem slot_set (fr : T AV) (d t : Nat) (v : AV) : slot (fr.set d (some v)) t = if t = d then v else slot fr t := by
  unfold slot
  rw [T.get_set]
  split <;> rfl

theorem put_FR (hF : FR J fr nt a.tmps) {d : Option Nat} {v : AV} {v' : Value} (hv : VR J v v') {fr' : T AV} (e : putDst nt fr d v = some fr') : FR J fr' nt (a.put d v').tmps := by
  cases d with
  | none => cases e; exact hF
  | some d =>
    simp only [putDst] at e
    split at e
    · rename_i hd
      cases e
      refine ⟨by simp [Act.put, hF.size], fun t => ?_⟩
      rw [slot_set]
      simp only [Act.put, Array.getD_eq_getD_getElem?, Array.getElem?_setIfInBounds]
      by_cases ht : t = d
      · subst ht
        rw [if_pos rfl, if_pos rfl, if_pos (by rw [hF.size]; exact hd)]
        exact hv
      · rw [if_neg ht, if_neg (fun q => ht q.symm)]
        have := hF.val t
        simpa [Array.getD_eq_getD_getElem?] using this
    · cases e

theorem put_defers (d : Option Nat) (v : Value) : (a.put d v).defers = a.defers := by cases d <;> rfl

theorem wanted_eq (hF : FR J fr nt a.tmps) (ops : Array Oper) (o : Oper) : wantedA ops fr o = Region.wanted o (yielded ops a.tmps) := by
  unfold wantedA Region.wanted
  cases hg : o.guard with
  | none => rfl
  | some p =>
    obtain ⟨j, want⟩ := p
    simp only [yielded]
    cases hd : (ops[j]?).bind (·.dst) with
    | none => simp
    | some d =>
      simp only [Option.bind_some]
      have hv := hF.val d
      rw [Array.getD_eq_getD_getElem?] at hv
      cases ht : a.tmps[d]? with
      | none =>
        rw [ht] at hv
        simp only [Option.getD_none] at hv
        generalize slot fr d = q at hv
        cases hv
        rfl
      | some u =>
        rw [ht] at hv
        simp only [Option.getD_some] at hv
        generalize slot fr d = q at hv
        cases hv <;> rfl

/-- one operation in its frame -/
theorem one_ok {cv : Cv} (hc : CvOK E P G cv) (hE : EnvOK E P G) (hG : G.le J) (hF : FR J fr nt a.tmps) (hW : W J h w) (hp : Place J h x) {wide : Bool} {rd : Option Nat} {o : Oper} {r : CR × H} (e : oneOp E cv wide rd x fr h o = some r)
    {b : Frame} {ops : Array Oper} {i : Nat} {rest : List Nat} {k : List Item} {cs : List Frame} (ho : ops[i]? = some o) (hw : Region.wanted o (yielded ops a.tmps) = true) (hnd : ∀ c, o.op ≠ .defer c) (hcalm : calm b.kind cs) (hrd : rd = none → b.roundOf = none) :
    ∃ out w' J', OutR J' r.1 out ∧ W J' r.2 w' ∧ Ext x J h w J' r.2 w' ∧ Lands P (lone (fat b a (.inRegion ops (i :: rest) :: k)) cs w) (fat b a (.inRegion ops (i :: rest) :: k)) cs w' out := by
  have hG' := stG_op (P := P) (b := b) (k := k) (cs := cs) (w := w) (rest := rest) ho hw (.inr hnd)
  have hplain : ∀ {q : AV × H}, plain E wide x fr h o = some q → r = (.val q.1, q.2) →
      ∃ out w' J', OutR J' r.1 out ∧ W J' r.2 w' ∧ Ext x J h w J' r.2 w' ∧ Lands P (lone (fat b a (.inRegion ops (i :: rest) :: k)) cs w) (fat b a (.inRegion ops (i :: rest) :: k)) cs w' out := by
    intro q hq hr
    subst hr
    obtain ⟨J', w', n, h1, h2, h3, h4⟩ := plain_ok hE hG hW hF hp hq
    rcases h2 with ⟨v', rfl, hv⟩ | ⟨rfl, hv⟩
    · refine ⟨.val v', w', J', hv, h3, h4, .one (step_lone_go ?_)⟩
      rw [hG']
      simp [stepG.apply, h1]
    · refine ⟨.val undef, w', J', ?_, h3, h4, .one (step_lone_go ?_)⟩
      · show VR J' q.1 undef
        rw [hv]; exact undefR J'
      · rw [hG']
        simp [stepG.apply, h1]
  unfold oneOp at e
  split at e
  · rename_i c hop
    split at e
    · -- a call of a value
      rename_i g hcal
      simp only [Option.bind_eq_some_iff] at e
      obtain ⟨gv, hg, as, has, e⟩ := e
      have l1 := evs_LR hE hG hF has
      have hC := hc (kind := .normal) (args' := c.args.map a.eval) hG hW (ev_VR hE hG hF hg) (by simpa using l1) e (.inl rfl)
      obtain ⟨out, w', ⟨J', h1, h2, h3⟩, hl⟩ := hC.apply (fr := fat b a (.inRegion ops (i :: rest) :: k)) (fr0 := fat b a (.inRegion ops (i :: rest) :: k)) (cs := cs) (w0 := w) (fun d r s k q => by simp [fat] at q) (by
        rw [hG']
        congr 2
        simp [execOp, hop, resolve, hcal])
      exact ⟨out, w', J', h1, h2, h3.weaken, hl⟩
    · cases e
    · rename_i bi hcal
      split at e
      · split at e
        · cases e
        · rename_i hrf
          cases e
          have hrn := hrd (by simpa using hrf)
          refine ⟨.val .nilIface, w, J, .nili, hW, .refl J h w, .one (step_lone_go ?_)⟩
          rw [hG']
          have hex : (execOp a.eval o).run P w = .ok .recover w := by simp [execOp, hop, resolve, hcal, invoke, Go.builtin]
          have htr : tryRecover (fat b a (.inRegion ops (i :: rest) :: k)) cs = none := by
            unfold tryRecover
            simp only [fat]
            cases hk : b.kind with
            | normal => rfl
            | deferred =>
              rw [hk] at hcalm
              obtain ⟨c, rest', rfl, hm⟩ := hcalm
              simp [hm]
            | wrapped => rw [hk] at hcalm; exact hcalm.elim
            | report => rfl
            | early => rfl
          have hro : (fat b a (.inRegion ops (i :: rest) :: k)).roundOf = none := hrn
          simp [stepG.apply, hex, hro, htr]
      · simp only [Option.bind_eq_some_iff, Option.some.injEq] at e
        obtain ⟨q, hq, rfl⟩ := e
        exact hplain hq rfl
  · -- panic
    rename_i y hop
    simp only [Option.bind_eq_some_iff] at e
    obtain ⟨v, hv, e⟩ := e
    split at e
    · cases e
      have hvr := ev_VR hE hG hF hv
      refine ⟨.pan (a.eval y), w, J, hvr, hW, .refl J h w, .one (step_lone_go ?_)⟩
      rw [hG']
      have hex : (execOp a.eval o).run P w = .halt (.panic (a.eval y)) w := by
        generalize hy : a.eval y = y' at hvr
        cases hvr
        simp [execOp, hop, hy, Instr.panic]
      simp [stepG.apply, hex]
    · cases e
  · simp only [Option.bind_eq_some_iff, Option.some.injEq] at e
    obtain ⟨q, hq, rfl⟩ := e
    exact hplain hq rfl
end
end Go.Kal
end

section
namespace Go.Kal
open Go
section
variable {E : Env} {P : Program} {G J : K} {h : H} {w : World} {fr : T AV} {nt : Nat} {a : Act} {x : Option Nat}

/-- the frame that code runs in -/
structure BOK (b : Frame) (rd : Option Nat) (cs : List Frame) : Prop where
  calm : calm b.kind cs
  rd : rd = none → b.roundOf = none

theorem raise_fat (b : Frame) (a : Act) (todo : List Item) (ch : List PanicEntry) : (fat b a todo).raise ch = { fat b a todo with mode := .panicking ch } := rfl

theorem opList_ok {B : Nat} {cv : Cv} (hc : CvOK E P G cv) (hE : EnvOK E P G) {wide : Bool} {rd : Option Nat} {ops : Array Oper} {b : Frame} {k : List Item} {cs : List Frame} (hb : BOK b rd cs) : ∀ (os : List Oper) (i : Nat) {J : K} {s : St} {a : Act} {w : World} {ex : Ex} {s' : St}, ops.toList.drop i = os → G.le J → SR B J s nt a w → opList E cv wide rd nt ops os s = some (ex, s') →
    ∃ J' a' w', SR B J' s' nt a' w' ∧ Ext none J s.h w J' s'.h w' ∧ Arr P (lone (fat b a (.inRegion ops (List.range' i (ops.size - i)) :: k)) cs w) b k cs J' ex a' w'
  | [], i, J, s, a, w, ex, s', hd, hG, hS, e => by
    cases e
    have hi : ops.size ≤ i := by have := congrArg List.length hd; simp at this; omega
    rw [show ops.size - i = 0 by omega]
    exact ⟨J, a, w, hS, .refl J s.h w, .one st_region_end⟩
  | o :: os, i, J, s, a, w, ex, s', hd, hG, hS, e => by
    have ho : ops[i]? = some o := by
      have := congrArg (·[0]?) hd
      simpa using this
    have hi : i < ops.size := (Array.getElem?_eq_some_iff.1 ho).1
    have hd' : ops.toList.drop (i + 1) = os := by
      have := congrArg (·.drop 1) hd
      simpa using this
    have hr : List.range' i (ops.size - i) = i :: List.range' (i + 1) (ops.size - (i + 1)) := by
      rw [show ops.size - i = (ops.size - (i + 1)) + 1 by omega, List.range'_succ]
    rw [hr]
    simp only [opList] at e
    by_cases hwn : wantedA ops s.fr o = true
    · rw [if_pos hwn] at e
      have hw := hwn
      rw [wanted_eq hS.fr] at hw
      split at e
      · -- defer
        rename_i c hop
        split at e
        · cases e
        · rename_i hrd
          have hrn := hb.rd (by simpa using hrd)
          split at e
          · rename_i g hcal
            simp only [Option.bind_eq_some_iff] at e
            obtain ⟨gv, hg, as, has, e⟩ := e
            split at e
            · rename_i fn fa fb
              simp only [Option.bind_eq_some_iff] at e
              obtain ⟨fr', hfr, e⟩ := e
              have l1 := evs_LR hE hG hS.fr has
              have hgv := ev_VR hE hG hS.fr hg
              have hstG := stG_op (P := P) (b := b) (a := a) (k := k) (cs := cs) (w := w) (rest := List.range' (i + 1) (ops.size - (i + 1))) ho hw (.inl hrn)
              obtain ⟨fn', first, captured, hgf⟩ : ∃ fn' first captured, a.eval g = .func fn' first captured := by
                generalize a.eval g = g' at hgv
                cases hgv <;> exact ⟨_, _, _, rfl⟩
              have hex : (execOp a.eval o).run P w = .ok (.defer { target := .fn fn' captured, args := first ++ c.args.map a.eval }) w := by
                simp [execOp, hop, resolve, hcal, hgf, Deferred.ofValue]
              have hS' : SR B J { s with fr := fr', ds := ⟨.fn fn fa fb, as⟩ :: s.ds } nt ({ a with defers := { target := .fn fn' captured, args := first ++ c.args.map a.eval } :: a.defers }.put o.dst undef) w := by
                refine ⟨put_FR (a := { a with defers := { target := .fn fn' captured, args := first ++ c.args.map a.eval } :: a.defers }) hS.fr (undefR J) hfr, hS.mem, ?_, hS.base⟩
                rw [put_defers]
                exact .call (by rw [hgf] at hgv; exact hgv) (by simpa using l1) hS.ds
              obtain ⟨J', a', w', h1, h2, h3⟩ := opList_ok hc hE hb os (i + 1) hd' hG hS' e
              refine ⟨J', a', w', h1, h2, .of_steps (.one (step_lone_go ?_)) h3⟩
              rw [hstG]
              have hfin := finish_fat (b := b) (a := { a with defers := { target := .fn fn' captured, args := first ++ c.args.map a.eval } :: a.defers }) (k := k) (ops := ops) (i := i) (rest := List.range' (i + 1) (ops.size - (i + 1))) undef
              rw [ho] at hfin
              simp only [stepG.apply, Sem.runT_eq, hex, GStep.bare_after]
              exact congrArg (fun fr => GStep.go { frame := fr, callers := cs, status := .running, dying := none } w) hfin
            · cases e
          · cases e
      · rename_i hnd
        simp only [Option.bind_eq_some_iff] at e
        obtain ⟨r, hone, e⟩ := e
        obtain ⟨out, w', J', h1, h2, h3, h4⟩ := one_ok (x := none) (k := k) (rest := List.range' (i + 1) (ops.size - (i + 1))) hc hE hG hS.fr hS.mem trivial hone ho hw (fun c q => hnd c q) hb.calm hb.rd
        split at e
        · rename_i v hv
          simp only [Option.bind_eq_some_iff] at e
          obtain ⟨fr', hfr, e⟩ := e
          rw [hv] at h1
          cases out with
          | pan v' => exact h1.elim
          | val v' =>
            have hS' : SR B J' { s with fr := fr', h := r.2 } nt (a.put o.dst v') w' :=
              ⟨put_FR (hS.fr.mono h3.le) h1 hfr, h2, by rw [put_defers]; exact hS.ds.mono h3, Nat.le_trans hS.base h3.size⟩
            obtain ⟨J2, a2, w2, g1, g2, g3⟩ := opList_ok hc hE hb os (i + 1) hd' (hG.trans h3.le) hS' e
            refine ⟨J2, a2, w2, g1, h3.trans g2, .of_steps ?_ g3⟩
            have := h4
            simp only [Lands, finish_fat, ho, Option.bind_some] at this
            exact this
        · rename_i v hv
          cases e
          rw [hv] at h1
          cases out with
          | val v' => exact h1.elim
          | pan v' =>
            exact ⟨J', a, w', ⟨hS.fr.mono h3.le, h2, hS.ds.mono h3, Nat.le_trans hS.base h3.size⟩, h3, _, v', h1, h4⟩
    · rw [if_neg hwn] at e
      simp only [Option.bind_eq_some_iff] at e
      obtain ⟨fr', hfr, e⟩ := e
      have hw : Region.wanted o (yielded ops a.tmps) = false := by rw [← wanted_eq hS.fr]; simpa using hwn
      have hS' : SR B J { s with fr := fr' } nt (a.put o.dst undef) w := ⟨put_FR hS.fr (undefR J) hfr, hS.mem, by rw [put_defers]; exact hS.ds, hS.base⟩
      obtain ⟨J', a', w', h1, h2, h3⟩ := opList_ok hc hE hb os (i + 1) hd' hG hS' e
      refine ⟨J', a', w', h1, h2, .of_steps (.one ?_) h3⟩
      have := st_op_skip (P := P) (b := b) (a := a) (k := k) (cs := cs) (w := w) (ops := ops) (i := i) (rest := List.range' (i + 1) (ops.size - (i + 1))) (by simp [ho, hw])
      simpa [ho] using this
end
end Go.Kal
end

section
namespace Go.Kal
open Go

section
variable {E : Env} {P : Program} {G J : K} {h : H} {w : World} {fr : T AV} {nt : Nat} {a : Act} {x : Option Nat}

/-- code whose regions that draw their order are fine -/
def GoodC (E : Env) (R : Nat → Nat → Array Oper → Prop) (f : Nat) : Code → Prop
  | .region id ops draw => draw = true → R f id ops
  | .seq a b => GoodC E R f a ∧ GoodC E R f b
  | .cond _ a b => GoodC E R f a ∧ GoodC E R f b
  | .block _ b => GoodC E R f b
  | .loop b => GoodC E R f b
  | .rangeFunc _ _ a b => GoodC E R f a ∧ GoodC E R f b
  | _ => True

/-- a round knows its loop -/
def RoundOK (J : K) (b : Frame) : Option Nat → Prop
  | none => True
  | some l => ∃ l0, b.roundOf = some l0 ∧ J.obj l = some l0

theorem RoundOK.mono {J J' : K} (h : J.le J') {b : Frame} {rd : Option Nat} (r : RoundOK J b rd) : RoundOK J' b rd := by
  cases rd with
  | none => trivial
  | some l => obtain ⟨l0, a, c⟩ := r; exact ⟨l0, a, (h.obj c).1⟩

/-- what is to be shown of a region that draws its order -/
def DrawOK (E : Env) (P : Program) (G : K) (R : Nat → Nat → Array Oper → Prop) (cv : Cv) : Prop :=
  ∀ {B f id : Nat} {ops : Array Oper} {nt : Nat} {rd : Option Nat} {J : K} {s : St} {a : Act} {w : World} {r : T AV × H × List Tr} {b : Frame} {k : List Item} {cs : List Frame}, R f id ops → G.le J → SR B J s nt a w → BOK b rd cs → b.fn = f →
    drawList E cv (E.wide f) rd nt ops s.h.next 0 ops.toList s.fr ⟨s.h.next + ops.size, s.h.objs⟩ [] = some r → (E.inc f id).all (sameRead E ops r.2.2) = true →
    ∃ J' a' w', SR B J' { s with fr := r.1, h := r.2.1 } nt a' w' ∧ Ext none J s.h w J' r.2.1 w' ∧ Steps P (lone (fat b a (.code (.region id ops true) :: k)) cs w) (lone (fat b a' k) cs w')

theorem W.aside (hW : W J h w) (ob : Go.Obj) : W J h (w.alloc ob) ∧ Ext x J h w J h (w.alloc ob) := by
  obtain ⟨h1, h2⟩ := hW.known (x := x) ob noImm (fun x v e => by cases e)
  have e : J.known w.heap.size noImm = J := by
    have : (fun b' o => if b' = w.heap.size then noImm o else J.imm b' o) = J.imm := by
      funext b' o
      split
      · rename_i q; subst q; exact (hW.imm_new o).symm
      · rfl
    unfold K.known
    rw [this]
  rw [e] at h1 h2
  exact ⟨h1, h2⟩

theorem DR.lt {B : Nat} {ds : List Df} {l : List Deferred} (hd : DR B J h w ds l) : ∀ d ∈ l, ∀ r, d.target = .collected r → r < w.heap.size := by
  induction hd with
  | nil => intro d hd; simp at hd
  | call _ _ _ ih =>
    intro d hd r e
    rcases List.mem_cons.1 hd with rfl | hd
    · cases e
    · exact ih d hd r e
  | mark _ hlt _ _ _ _ ih =>
    intro d hd r e
    rcases List.mem_cons.1 hd with rfl | hd
    · cases e; exact hlt
    · exact ih d hd r e

theorem loopN_ok {B nt : Nat} {rd : Option Nat} {b : Frame} {k : List Item} {cs : List Frame} {c : Code} {f : St → Option (Ex × St)}
    (hf : ∀ {J : K} {s : St} {a : Act} {w : World} {ex : Ex} {s' : St} {k : List Item}, G.le J → SR B J s nt a w → RoundOK J b rd → f s = some (ex, s') → ∃ J' a' w', SR B J' s' nt a' w' ∧ Ext none J s.h w J' s'.h w' ∧ Arr P (lone (fat b a (.code c :: k)) cs w) b k cs J' ex a' w') :
    ∀ (n : Nat) {J : K} {s : St} {a : Act} {w : World} {ex : Ex} {s' : St}, G.le J → SR B J s nt a w → RoundOK J b rd → loopN f n s = some (ex, s') →
      ∃ J' a' w', SR B J' s' nt a' w' ∧ Ext none J s.h w J' s'.h w' ∧ Arr P (lone (fat b a (.code c :: .inLoop c :: k)) cs w) b k cs J' ex a' w'
  | 0, J, s, a, w, ex, s', hG, hS, hR, e => by simp [loopN] at e
  | n + 1, J, s, a, w, ex, s', hG, hS, hR, e => by
    simp only [loopN, Option.bind_eq_some_iff] at e
    obtain ⟨⟨ex1, s1⟩, e1, e2⟩ := e
    obtain ⟨J1, a1, w1, h1, h2, h3⟩ := hf (k := .inLoop c :: k) hG hS hR e1
    split at e2
    · rename_i hn
      simp only at hn
      subst hn
      obtain ⟨J2, a2, w2, g1, g2, g3⟩ := loopN_ok hf n (hG.trans h2.le) h1 (hR.mono h2.le) e2
      exact ⟨J2, a2, w2, g1, h2.trans g2, .of_steps (Steps.trans h3 (.one st_inLoop)) g3⟩
    · rename_i hn
      cases e2
      refine ⟨J1, a1, w1, h1, h2, ?_⟩
      cases ex with
      | normal => exact (hn rfl).elim
      | exit id => obtain ⟨t, s, q⟩ := h3; exact ⟨t, s, q⟩
      | ret => exact h3
      | panic v => exact h3

theorem getLoop_of {l : Nat} {L : Loop} (hl : w.heap[l]? = some (.loop L)) : (Instr.getLoop l).run P w = .ok L w := by
  unfold Instr.getLoop
  simp [run_getObj_of hl (by intro c e f q; cases q)]

theorem exec_ok {B : Nat} {cv : Cv} {R : Nat → Nat → Array Oper → Prop} (hc : CvOK E P G cv) (hE : EnvOK E P G) (hdr : DrawOK E P G R cv) (hgood : ∀ f c, GoodC E R f c ↔ G.good f c) {N f : Nat} {rd : Option Nat} {b : Frame} {cs : List Frame} (hb : BOK b rd cs) (hbf : b.fn = f) :
    ∀ (c : Code) {J : K} {s : St} {a : Act} {w : World} {ex : Ex} {s' : St} {k : List Item}, GoodC E R f c → G.le J → SR B J s nt a w → RoundOK J b rd → exec E cv N f nt rd c s = some (ex, s') →
      ∃ J' a' w', SR B J' s' nt a' w' ∧ Ext none J s.h w J' s'.h w' ∧ Arr P (lone (fat b a (.code c :: k)) cs w) b k cs J' ex a' w'
  | .skip, J, s, a, w, ex, s', k, hgd, hG, hS, hR, e => by
    cases e
    exact ⟨J, a, w, hS, .refl J s.h w, .one st_skip⟩
  | .region id ops draw, J, s, a, w, ex, s', k, hgd, hG, hS, hR, e => by
    simp only [exec] at e
    split at e
    · rename_i hdw
      subst hdw
      simp only [Option.bind_eq_some_iff] at e
      obtain ⟨r, h1, e⟩ := e
      split at e
      · rename_i hall
        cases e
        exact hdr (hgd rfl) hG hS hb hbf h1 hall
      · cases e
    · rename_i hdw
      have : draw = false := by simpa using hdw
      subst this
      obtain ⟨J', a', w', h1, h2, h3⟩ := opList_ok (k := k) hc hE hb ops.toList 0 rfl hG hS e
      refine ⟨J', a', w', h1, h2, .of_steps (.one st_region) ?_⟩
      rw [List.range_eq_range']
      exact h3
  | .seq c d, J, s, a, w, ex, s', k, hgd, hG, hS, hR, e => by
    simp only [exec, Option.bind_eq_some_iff] at e
    obtain ⟨⟨ex1, s1⟩, e1, e2⟩ := e
    obtain ⟨J1, a1, w1, h1, h2, h3⟩ := exec_ok hc hE hdr hgood hb hbf c (k := .code d :: k) hgd.1 hG hS hR e1
    split at e2
    · rename_i hn
      simp only at hn
      subst hn
      obtain ⟨J2, a2, w2, g1, g2, g3⟩ := exec_ok hc hE hdr hgood hb hbf d (k := k) hgd.2 (hG.trans h2.le) h1 (hR.mono h2.le) e2
      exact ⟨J2, a2, w2, g1, h2.trans g2, .of_steps (.head st_seq h3) g3⟩
    · rename_i hn
      cases e2
      refine ⟨J1, a1, w1, h1, h2, .of_steps (.one st_seq) ?_⟩
      cases ex with
      | normal => exact (hn rfl).elim
      | exit id => obtain ⟨t, s, q⟩ := h3; exact ⟨t, s, q⟩
      | ret => exact h3
      | panic v => exact h3
  | .cond o c d, J, s, a, w, ex, s', k, hgd, hG, hS, hR, e => by
    simp only [exec, Option.bind_eq_some_iff] at e
    obtain ⟨v, hv, e⟩ := e
    split at e
    · rename_i t
      have hvr := ev_VR hE hG hS.fr hv
      have ht : a.eval o = .bool t := by
        generalize a.eval o = y at hvr
        cases hvr; rfl
      cases t with
      | true =>
        obtain ⟨J1, a1, w1, h1, h2, h3⟩ := exec_ok hc hE hdr hgood hb hbf c (k := k) hgd.1 hG hS hR (by simpa using e)
        exact ⟨J1, a1, w1, h1, h2, .of_steps (.one (st_cond ht)) h3⟩
      | false =>
        obtain ⟨J1, a1, w1, h1, h2, h3⟩ := exec_ok hc hE hdr hgood hb hbf d (k := k) hgd.2 hG hS hR (by simpa using e)
        exact ⟨J1, a1, w1, h1, h2, .of_steps (.one (st_cond ht)) h3⟩
    · cases e
  | .block id c, J, s, a, w, ex, s', k, hgd, hG, hS, hR, e => by
    simp only [exec, Option.bind_eq_some_iff, Option.some.injEq] at e
    obtain ⟨⟨ex1, s1⟩, e1, e2⟩ := e
    obtain ⟨J1, a1, w1, h1, h2, h3⟩ := exec_ok hc hE hdr hgood hb hbf c (k := .inBlock id :: k) hgd hG hS hR e1
    cases e2
    refine ⟨J1, a1, w1, h1, h2, ?_⟩
    cases ex1 with
    | normal => exact .head st_block (Steps.trans h3 (.one st_inBlock))
    | exit j =>
      obtain ⟨t, hs, q⟩ := h3
      simp only [blockEx]
      by_cases hj : j = id
      · rw [if_pos hj]
        subst hj
        have : exitTo j t = some k := by rw [q]; simp [exitTo]
        exact .head st_block (hs.trans (.one (st_exit this)))
      · rw [if_neg hj]
        have : (id == j) = false := by simp; exact fun q => hj q.symm
        exact ⟨t, .head st_block hs, by rw [q]; simp [exitTo, this]⟩
    | ret => obtain ⟨t, hs⟩ := h3; exact ⟨t, .head st_block hs⟩
    | panic v => obtain ⟨t, v', q, hs⟩ := h3; exact ⟨t, v', q, .head st_block hs⟩
  | .loop c, J, s, a, w, ex, s', k, hgd, hG, hS, hR, e => by
    simp only [exec] at e
    obtain ⟨J1, a1, w1, h1, h2, h3⟩ := loopN_ok (k := k) (c := c) (rd := rd) (fun {J s a w ex s' k} hG hS hR e => exec_ok hc hE hdr hgood hb hbf c (k := k) hgd hG hS hR e) N hG hS hR e
    exact ⟨J1, a1, w1, h1, h2, .of_steps (.one st_loop) h3⟩
  | .exit id, J, s, a, w, ex, s', k, hgd, hG, hS, hR, e => by
    cases e
    exact ⟨J, a, w, hS, .refl J s.h w, k, .refl P _, rfl⟩
  | .ret, J, s, a, w, ex, s', k, hgd, hG, hS, hR, e => by
    cases e
    exact ⟨J, a, w, hS, .refl J s.h w, k, .refl P _⟩
  | .rangeFunc g ps assign body, J, s, a, w, ex, s', k, hgd, hG, hS, hR, e => by
    simp only [exec] at e
    split at e
    · rename_i hrd
      simp only [Option.bind_eq_some_iff] at e
      obtain ⟨gv, hgv, ⟨r1, rh⟩, hcv, e⟩ := e
      have hvr := ev_VR hE hG hS.fr hgv
      -- memory ahead of the call
      obtain ⟨w1, defers, mark, hen, hW1, hX1, hD1⟩ : ∃ w1 defers mark, (∀ (L : Loop), L = { state := .ready, pending := none, fn := b.fn, tmps := a.tmps, params := ps, assign := assign, body := body, defers := defers } →
          (Instr.enterLoop b.fn a.tmps ps assign body b.roundOf).run P w = .ok (w1.heap.size, mark) (w1.alloc (.loop L))) ∧ W J s.h w1 ∧ Ext none J s.h w J s.h w1 ∧ DR B J s.h w1 s.ds (mark ++ a.defers) := by
        cases rd with
        | none =>
          have hrn := hb.rd rfl
          obtain ⟨q1, q2⟩ := W.aside (x := none) hS.mem (.deferred (some []))
          refine ⟨w.alloc (.deferred (some [])), w.heap.size, [{ target := .collected w.heap.size, args := #[] }], fun L hL => ?_, q1, q2, ?_⟩
          · subst hL
            simp [Instr.enterLoop, hrn]
          · refine .mark hS.base (by simp) (fun id _ e => ?_) (heap_alloc_new w _) (fun d hd q => ?_) (hS.ds.mono q2)
            · have := hS.mem.lt e; omega
            · have := hS.ds.lt d hd _ q; omega
        | some l =>
          obtain ⟨l0, hr0, hobj⟩ := hR
          simp only [loopThere, Option.isSome_iff_exists] at hrd
          obtain ⟨lp, hlp⟩ := hrd
          obtain ⟨ob, g1, L0, rfl, _⟩ := hS.mem.live (H.loop?_eq.1 hlp) hobj
          refine ⟨w, L0.defers, [], fun L hL => ?_, hS.mem, .refl J s.h w, hS.ds⟩
          subst hL
          simp [Instr.enterLoop, hr0, getLoop_of g1]
      obtain ⟨L, hL⟩ : ∃ L : Loop, L = { state := .ready, pending := none, fn := b.fn, tmps := a.tmps, params := ps, assign := assign, body := body, defers := defers } := ⟨_, rfl⟩
      have hen' := hen L hL
      have hle' : J.le (J.put s.h.next w1.heap.size 0 0 noImm) := K.le_put (hW1.fresh (Nat.le_refl _)) (fun o v e => by rw [hW1.imm_new] at e; cases e)
      obtain ⟨n1, n2, n3⟩ := hW1.new (at_ := none) (.inl ⟨rfl, rfl⟩) hW1.free_next (.loop ⟨.ready, .normal, s.fr, ps.toList, assign, body, f, nt⟩) (.loop L) 0 0 noImm
        ⟨L, rfl, by rw [hL]; rfl, by rw [hL]; rfl, by rw [hL]; exact hbf, by rw [hL]; exact hS.fr.mono hle', by rw [hL], by rw [hL], by rw [hL], by
          have hg1 := (hgood f assign).1 hgd.1
          have hg2 := (hgood f body).1 hgd.2
          show J.good f assign ∧ J.good f body
          rw [hG.good]
          exact ⟨hg1, hg2⟩, fun o => K.put_imm, hW1.immM_new⟩ (fun x v e => by cases e)
      have hX2 := hX1.trans n3
      have hself : (J.put s.h.next w1.heap.size 0 0 noImm).obj s.h.next = some w1.heap.size := K.put_self
      have hC := hc (kind := .normal) (args' := #[.func (.yield w1.heap.size) #[] #[]]) (hG.trans hle') n2 (hvr.mono hle') (LR.cons (.yield hself) (LR.nil _)) hcv (.inl rfl)
      obtain ⟨out, w', ⟨J', o1, o2, o3⟩, hl⟩ := hC.apply (fr := fat b { a with defers := mark ++ a.defers } (.inRangeFunc w1.heap.size :: k)) (fr0 := fat b a (.code (.rangeFunc g ps assign body) :: k)) (cs := cs) (w0 := w) (fun d r s k q => by simp [fat] at q) (by
        have he := eval_fat' b a (.code (.rangeFunc g ps assign body) :: k)
        have he' := eval_fat' b { a with defers := mark ++ a.defers } (.inRangeFunc w1.heap.size :: k)
        simp only [fat] at he he'
        have hev : ({ tmps := a.tmps, defers := mark ++ a.defers } : Act).eval = a.eval := funext fun x => by cases x <;> rfl
        simp [stepG, stepG.exec, fat, hen', resolve, he', hev, Act.eval])
      have hX3 := hX2.trans o3
      cases out with
      | pan v' =>
        cases r1 with
        | val v => exact o1.elim
        | pan v =>
          cases e
          refine ⟨J', { a with defers := mark ++ a.defers }, w', ⟨hS.fr.mono hX3.le, o2, (hD1.mono n3).mono o3, Nat.le_trans hS.base hX3.size⟩, hX3, _, v', o1, hl⟩
      | val v' =>
        cases r1 with
        | pan v => exact o1.elim
        | val v =>
          simp only [Option.bind_eq_some_iff] at e
          obtain ⟨lp, hlp, e⟩ := e
          split at e
          · cases e
          · rename_i hst
            cases e
            have hobj' := (o3.le.obj hself).1
            obtain ⟨ob, g1, L1, rfl, b1, b2, b3, b4, b5, b6, b7, b8, b9, b10⟩ := o2.live (H.loop?_eq.1 hlp) hobj'
            have hnb : L1.state ≠ .busy := by
              rw [b1]
              cases hls : lp.st <;> simp [lsR] <;> exact absurd hls hst
            obtain ⟨t1, t2⟩ := turn_set (x := none) o2 (H.loop?_eq.1 hlp) hobj' g1 (o' := .loop { lp with st := .exhausted }) (ob' := .loop { L1 with state := .exhausted })
              ⟨{ L1 with state := .exhausted }, rfl, rfl, b2, b3, b4, b5, b6, b7, b8, b9, b10⟩ b9 b10
            have hend : (Instr.endLoop w1.heap.size).run P w' = .ok L1.pending (setB w' w1.heap.size (.loop { L1 with state := .exhausted })) := by
              have hset := run_setObj_of (P := P) (o' := .loop { L1 with state := .exhausted }) g1 (by intro c e f q; cases q)
              have hnb' : (L1.state == LoopState.busy) = false := by simpa using hnb
              simp [Instr.endLoop, getLoop_of g1, hnb, hset]
            have hstep : step P (lone (fat b { a with defers := mark ++ a.defers } (.endRangeFunc w1.heap.size :: k)) cs w') = .next (lone (fat b { a with defers := mark ++ a.defers } ((L1.pending.map Item.code).toList ++ k)) cs (setB w' w1.heap.size (.loop { L1 with state := .exhausted }))) :=
              step_lone_go (by simp [stepG, stepG.exec, fat, hend])
            have hall : Steps P (lone (fat b a (.code (.rangeFunc g ps assign body) :: k)) cs w) (lone (fat b { a with defers := mark ++ a.defers } ((L1.pending.map Item.code).toList ++ k)) cs (setB w' w1.heap.size (.loop { L1 with state := .exhausted }))) := by
              have hl' : Steps P (lone (fat b a (.code (.rangeFunc g ps assign body) :: k)) cs w) (lone (fat b { a with defers := mark ++ a.defers } (.endRangeFunc w1.heap.size :: k)) cs w') := hl
              exact hl'.trans (.one hstep)
            refine ⟨J', { a with defers := mark ++ a.defers }, _, ⟨hS.fr.mono hX3.le, t1, ((hD1.mono n3).mono o3).mono t2, Nat.le_trans hS.base (Nat.le_trans hX3.size t2.size)⟩, hX3.trans t2, ?_⟩
            cases hpe : lp.pending with
            | normal =>
              rw [hpe] at b2
              have : L1.pending = none := b2
              have hp : (L1.pending.map Item.code).toList ++ k = k := by rw [this]; rfl
              rw [hp] at hall
              exact hall
            | exit id =>
              rw [hpe] at b2
              have : L1.pending = some (.exit id) := b2
              have hp : (L1.pending.map Item.code).toList ++ k = .code (.exit id) :: k := by rw [this]; rfl
              rw [hp] at hall
              exact ⟨k, hall, rfl⟩
            | ret =>
              rw [hpe] at b2
              have : L1.pending = some .ret := b2
              have hp : (L1.pending.map Item.code).toList ++ k = .code .ret :: k := by rw [this]; rfl
              rw [hp] at hall
              exact ⟨k, hall⟩
            | panic v =>
              rw [hpe] at b2
              exact b2.elim
    · cases e
  | .label _, J, s, a, w, ex, s', k, hgd, hG, hS, hR, e => by simp [exec] at e
  | .goto _, J, s, a, w, ex, s', k, hgd, hG, hS, hR, e => by simp [exec] at e
  | .scope _, J, s, a, w, ex, s', k, hgd, hG, hS, hR, e => by simp [exec] at e
  | .refuse _, J, s, a, w, ex, s', k, hgd, hG, hS, hR, e => by simp [exec] at e
end
end Go.Kal
end

section
namespace Go.Kal
open Go

theorem closeds_get : ∀ {l : List AV}, AV.closeds l = true → ∀ j (h : j < l.length), AV.closed l[j] = true
  | [], _, j, h => absurd h (by simp)
  | a :: l, hc, j, h => by
    simp only [AV.closeds, Bool.and_eq_true] at hc
    cases j with
    | zero => exact hc.1
    | succ j => exact closeds_get hc.2 j (by simpa using h)
theorem closedp_get : ∀ {l : List (AV × AV)}, AV.closedp l = true → ∀ j (h : j < l.length), AV.closed l[j].1 = true ∧ AV.closed l[j].2 = true
  | [], _, j, h => absurd h (by simp)
  | (a, b) :: l, hc, j, h => by
    simp only [AV.closedp, Bool.and_eq_true] at hc
    cases j with
    | zero => exact hc.1
    | succ j => exact closedp_get hc.2 j (by simpa using h)
theorem closeds_append : ∀ {a b : List AV}, AV.closeds (a ++ b) = (AV.closeds a && AV.closeds b)
  | [], b => by simp [AV.closeds]
  | x :: a, b => by simp [AV.closeds, closeds_append, Bool.and_assoc]
theorem closeds_cells : ∀ {es : List AV}, AV.closeds es = true → AV.closeds (cellsOfAll es) = true
  | [], _ => rfl
  | e :: es, h => by
    simp only [AV.closeds, Bool.and_eq_true] at h
    rw [cellsOfAll_cons, closeds_append, closeds_cells h.2, Bool.and_true]
    cases e <;> simp_all [AV.cells, AV.closed, AV.closeds]

/-- closed values need no object -/
theorem VR.closed {J J' : K} (hi : ∀ b o v, J.imm b o = some v → J'.imm b o = some v) (hm : ∀ r l, J.immM r = some l → J'.immM r = some l) {v : AV} {v' : Value} (h : VR J v v') : AV.closed v = true → VR J' v v' := by
  induction h with
  | bool b => intro _; exact .bool b
  | int k n => intro _; exact .int k n
  | str s => intro _; exact .str s
  | nilp => intro _; exact .nilp
  | ptr h => intro c; simp [AV.closed] at c
  | pv f h1 _ ih => intro c; simp only [AV.closed] at c; exact .pv f (fun j hj => hi _ _ _ (h1 j hj)) (fun j hj => ih j hj (closeds_get c j hj))
  | pel f ht h1 _ ih => intro c; simp [AV.closed] at c
  | nils => intro _; exact .nils
  | @vl tk es b off cap sz a f hpos hsz h1 _ hcap htk ha he ih =>
    intro c
    cases tk with
    | some t => simp [AV.closed] at c
    | none =>
      simp only [AV.closed] at c
      exact .vl f hpos hsz (fun j hj => hi _ _ _ (h1 j hj)) (fun j hj => ih j hj (closeds_get (closeds_cells c) j hj)) hcap (fun t ht => by cases ht) ha he
  | sl h hpos hl hcap hext ha => intro c; simp [AV.closed] at c
  | nilm => intro _; exact .nilm
  | mp h => intro c; simp [AV.closed] at c
  | mv l h hl _ _ ihk ihv => intro c; simp only [AV.closed] at c; exact .mv l (hm _ _ h) hl (fun j a b => ihk j a b (closedp_get c j a).1) (fun j a b => ihv j a b (closedp_get c j a).2)
  | fn hg ha hb _ _ iha ihb =>
    intro c
    simp only [AV.closed, Bool.and_eq_true] at c
    exact .fn hg ha hb (fun j x y => iha j x y (closeds_get c.1.2 j x)) (fun j x y => ihb j x y (closeds_get c.2 j x))
  | yield h => intro c; simp [AV.closed] at c
  | nilf => intro _; exact .nilf
  | ifc _ ih => intro c; simp only [AV.closed] at c; exact .ifc (ih c)
  | nili => intro _; exact .nili
  | agg hl _ ih => intro c; simp only [AV.closed] at c; exact .agg hl (fun j a b => ih j a b (closeds_get c j a))
  | tup hl _ ih => intro c; simp only [AV.closed] at c; exact .tup hl (fun j a b => ih j a b (closeds_get c j a))

section
variable {J1 J2 : K} {h1 : H} {w1 : World}

/-- what J2 knows of all that J1 knows, and of the objects as they are now -/
structure Snap (J1 J2 : K) (h1 : H) (w1 : World) : Prop where
  imm : ∀ b o v, J1.imm b o = some v → J2.imm b o = some v
  immM : ∀ r l, J1.immM r = some l → J2.immM r = some l
  cell : ∀ {id b o v}, (h1.get id).isSome → J1.obj id = some b → w1.cell? ⟨b, o, none⟩ = some v → J2.imm b o = some v
  map : ∀ {id b es ck}, (h1.get id).isSome → J1.obj id = some b → w1.heap[b]? = some (.map es ck) → J2.immM b = some (es.toList.map fun e => (e.key, e.val))

theorem optAll_LR' {f : AV → Option AV} (hf : ∀ v u v', f v = some u → VR J1 v v' → VR J2 u v') : ∀ {l r : List AV} {l' : List Value}, optAll f l = some r → LR J1 l l' → LR J2 r l'
  | [], r, l', e, h => by cases e; rw [h.nil_inv]; exact LR.nil J2
  | v :: l, r, l', e, h => by
    obtain ⟨b, y, e1, e2, rfl⟩ := optAll_cons.1 e
    obtain ⟨v', t', rfl, hv, ht⟩ := h.uncons
    exact LR.cons (hf _ _ _ e1 hv) (optAll_LR' hf e2 ht)

theorem optAll_length {α β : Type} {f : α → Option β} : ∀ {l : List α} {r : List β}, optAll f l = some r → r.length = l.length
  | [], r, e => by cases e; rfl
  | v :: l, r, e => by
    obtain ⟨b, y, e1, e2, rfl⟩ := optAll_cons.1 e
    simp [optAll_length e2]

theorem optAll_get {α β : Type} {f : α → Option β} : ∀ {l : List α} {r : List β}, optAll f l = some r → ∀ j (h : j < l.length) (h' : j < r.length), f l[j] = some r[j]
  | [], r, e, j, h, _ => absurd h (by simp)
  | v :: l, r, e, j, h, h' => by
    obtain ⟨b, y, e1, e2, rfl⟩ := optAll_cons.1 e
    cases j with
    | zero => exact e1
    | succ j => exact optAll_get e2 j (by simpa using h) (by simpa using h')

/-- frozen elements: their cells -/
theorem frozen_cells {n : Nat} (ih : ∀ v u v', freeze h1 n v = some u → VR J1 v v' → VR J2 u v') {e u : AV} (hu : freeze h1 n e = some u) {vals : List Value} (hl : LR J1 e.cells vals) : LR J2 u.cells vals := by
  cases n with
  | zero => simp [freeze] at hu
  | succ n =>
    have key : ∀ {e u : AV} {vals : List Value}, freeze h1 (n + 1) e = some u → e.cells = [e] → u.cells = [u] → LR J1 e.cells vals → LR J2 u.cells vals := by
      intro e u vals hu he hu' hl
      rw [he] at hl
      obtain ⟨v', t, rfl, hv, ht⟩ := hl.uncons
      rw [ht.nil_inv, hu']
      exact LR.cons (ih _ _ _ hu hv) (LR.nil J2)
    cases e with
    | agg cs =>
      have hv : VR J2 u (.agg vals.toArray) := ih _ _ _ hu (VR.agg_iff.2 ⟨vals.toArray, rfl, by simpa [AV.cells] using hl⟩)
      have : ∃ us, u = .agg us := by
        simp only [freeze, Option.bind_eq_some_iff, Option.some.injEq] at hu
        obtain ⟨us, _, rfl⟩ := hu
        exact ⟨us, rfl⟩
      obtain ⟨us, rfl⟩ := this
      obtain ⟨cs', e', l'⟩ := VR.agg_iff.1 hv
      cases e'
      simpa [AV.cells] using l'
    | fn f x y =>
      have : u.cells = [u] := by
        simp only [freeze] at hu
        split at hu
        · cases hu
        · simp only [Option.bind_eq_some_iff, Option.some.injEq] at hu
          obtain ⟨_, _, _, _, rfl⟩ := hu
          rfl
      exact key hu rfl this hl
    | sl sz ag id off len =>
      have : u.cells = [u] := by
        simp only [freeze, Option.bind_eq_some_iff] at hu
        obtain ⟨_, _, _, _, hu⟩ := hu
        split at hu
        · simp only [Option.bind_eq_some_iff, Option.some.injEq] at hu
          obtain ⟨_, _, rfl⟩ := hu; rfl
        · cases hu
      exact key hu rfl this hl
    | ptr id off =>
      have : u.cells = [u] := by
        simp only [freeze, Option.bind_eq_some_iff, Option.some.injEq] at hu
        obtain ⟨_, _, _, _, rfl⟩ := hu; rfl
      exact key hu rfl this hl
    | mp id =>
      have : u.cells = [u] := by
        simp only [freeze, Option.bind_eq_some_iff, Option.some.injEq] at hu
        obtain ⟨_, _, _, _, rfl⟩ := hu; rfl
      exact key hu rfl this hl
    | pel t cs => simp [freeze] at hu
    | mv es =>
      have : u.cells = [u] := by
        simp only [freeze] at hu
        split at hu
        · cases hu; rfl
        · cases hu
      exact key hu rfl this hl
    | _ =>
      have : u.cells = [u] := by
        simp only [freeze, Option.bind_eq_some_iff, Option.some.injEq] at hu
        first
          | (subst hu; rfl)
          | (obtain ⟨_, _, rfl⟩ := hu; rfl)
      exact key hu rfl this hl

theorem frozen_all {n : Nat} (ih : ∀ v u v', freeze h1 n v = some u → VR J1 v v' → VR J2 u v') : ∀ {es us : List AV} {vals : List Value}, optAll (freeze h1 n) es = some us → LR J1 (cellsOfAll es) vals → LR J2 (cellsOfAll us) vals
  | [], us, vals, e, hl => by cases e; rw [hl.nil_inv]; exact LR.nil J2
  | e :: es, us, vals, he, hl => by
    obtain ⟨u, us', e1, e2, rfl⟩ := optAll_cons.1 he
    rw [cellsOfAll_cons] at hl ⊢
    have h3 := hl.take e.cells.length
    have h4 := hl.drop e.cells.length
    rw [List.take_left'] at h3
    rw [List.drop_left'] at h4
    · have := (frozen_cells ih e1 h3).append (frozen_all ih e2 h4)
      rwa [List.take_append_drop] at this
    · rfl
    · rfl

theorem freeze_ok (hW : W J1 h1 w1) (hs : Snap J1 J2 h1 w1) : ∀ (n : Nat) (v u : AV) (v' : Value), freeze h1 n v = some u → VR J1 v v' → VR J2 u v'
  | 0, v, u, v', e, h => by simp [freeze] at e
  | n + 1, v, u, v', e, hv => by
    have ih := freeze_ok hW hs n
    have ihs : ∀ {l r : List AV} {l' : List Value}, optAll (freeze h1 n) l = some r → LR J1 l l' → LR J2 r l' := fun a b => optAll_LR' ih a b
    cases v with
    | ptr id off =>
      simp only [freeze, Option.bind_eq_some_iff, Option.some.injEq] at e
      obtain ⟨c, hc, c', hc', rfl⟩ := e
      cases hv with
      | ptr hb =>
        rename_i b
        obtain ⟨cs, l1, l2⟩ := lies_obj hW hc hb
        have l3 := ihs hc' (l1.drop off)
        have hlive : (h1.get id).isSome := by rw [H.cells?_eq.1 hc]; rfl
        refine .pv (fun j => (cs.drop off).getD j undef) (fun j hj => ?_) (fun j hj => ?_)
        · have hj' : j < (cs.drop off).length := by rw [← l3.1]; exact hj
          refine hs.cell hlive hb ?_
          have := (l2.drop off) j (cs.drop off)[j] (List.getElem?_eq_getElem hj')
          rw [Nat.zero_add] at this
          rw [this]
          simp [List.getD, List.getElem?_eq_getElem hj']
        · have hj' : j < (cs.drop off).length := by rw [← l3.1]; exact hj
          have := l3.2 j hj hj'
          simpa [List.getD, List.getElem?_eq_getElem hj'] using this
    | sl sz ag id off len =>
      simp only [freeze, Option.bind_eq_some_iff] at e
      obtain ⟨c, hc, c', hc', e⟩ := e
      split at e
      · rename_i hq
        simp only [Option.bind_eq_some_iff, Option.some.injEq] at e
        obtain ⟨es, hes, rfl⟩ := e
        obtain ⟨s1, s2, s3⟩ := chunks_spec hq.1 hes
        cases hv with
        | sl hb hpos hl hcap hext ha =>
          rename_i cap b ad
          obtain ⟨cs, l1, l2⟩ := lies_obj hW hc hb
          have l3 := ihs hc' ((l1.drop off).take (len * sz))
          have l4 := (l2.drop off).take (len * sz)
          rw [Nat.zero_add] at l4
          have hlive : (h1.get id).isSome := by rw [H.cells?_eq.1 hc]; rfl
          rw [← s1] at l3
          have := VR.vl (J := J2) (tk := none) (es := es) (b := b) (off := off) (cap := cap) (sz := sz) (a := ad) (fun j => ((cs.drop off).take (len * sz)).getD j undef) hpos s3
            (fun j hj => by
              have hj' : j < ((cs.drop off).take (len * sz)).length := by rw [← l3.1]; exact hj
              refine hs.cell hlive hb ?_
              have := l4 j _ (List.getElem?_eq_getElem hj')
              rw [this]
              simp only [List.getD, List.getElem?_eq_getElem hj', Option.getD_some])
            (fun j hj => by
              have hj' : j < ((cs.drop off).take (len * sz)).length := by rw [← l3.1]; exact hj
              have := l3.2 j hj hj'
              simpa only [List.getD, List.getElem?_eq_getElem hj', Option.getD_some] using this)
            (by omega) (fun t ht => by cases ht)
            (by
              rcases ha with ha | ha
              · left
                refine ⟨List.eq_nil_of_length_eq_zero (by omega), rfl⟩
              · exact .inr ha) (fun _ => .inl rfl)
          rw [s2] at this
          exact this
      · cases e
    | mp id =>
      simp only [freeze, Option.bind_eq_some_iff, Option.some.injEq] at e
      obtain ⟨es, hes, es', hes', rfl⟩ := e
      cases hv with
      | mp hb =>
        rename_i b
        obtain ⟨ob, g1, ents, ck, rfl, a1, a2, a3, a4, a5⟩ := hW.live (H.map?_eq.1 hes) hb
        have hlive : (h1.get id).isSome := by rw [H.map?_eq.1 hes]; rfl
        have hlen := optAll_length hes'
        have hg := optAll_get hes'
        refine .mv _ (hs.map hlive hb g1) (by simp [hlen, a1]) (fun j x y => ?_) (fun j x y => ?_)
        · have hj : j < es.length := by omega
          have := hg j hj x
          simp only [Option.bind_eq_some_iff, Option.some.injEq] at this
          obtain ⟨k, hk, v, hv, e⟩ := this
          rw [← e]
          have := ih _ _ _ hk (a2 j hj (by omega)).1
          simpa using this
        · have hj : j < es.length := by omega
          have := hg j hj x
          simp only [Option.bind_eq_some_iff, Option.some.injEq] at this
          obtain ⟨k, hk, v, hv, e⟩ := this
          rw [← e]
          have := ih _ _ _ hv (a2 j hj (by omega)).2.1
          simpa using this
    | vl tk es =>
      simp only [freeze, Option.bind_eq_some_iff, Option.some.injEq] at e
      obtain ⟨us, hus, rfl⟩ := e
      cases hv with
      | vl f hpos hsz hi hvv hcap htk ha he =>
        rename_i b off cap sz ad
        have l1 := LR.of_fn f hvv
        have l2 := frozen_all ih hus l1
        have hlen := optAll_length hus
        have hszu : ∀ e ∈ us, e.cells.length = sz := by
          intro q hq
          obtain ⟨j, hj, rfl⟩ := List.getElem_of_mem hq
          have hj' : j < es.length := by omega
          have h3 := optAll_get hus j hj' hj
          have hcl : LR J1 (es[j]).cells (((List.range (cellsOfAll es).length).map f).drop (j * sz) |>.take sz) := by
            have := (l1.drop (j * sz)).take sz
            rwa [cellsOfAll_at hsz (List.getElem?_eq_getElem hj')] at this
          have := (frozen_cells ih h3 hcl).1
          rw [this, ← hcl.1]
          exact hsz _ (List.getElem_mem hj')
        have := VR.vl (J := J2) (tk := none) (es := us) (b := b) (off := off) (cap := cap) (sz := sz) (a := ad) f hpos hszu
          (fun j hj => hs.imm _ _ _ (hi j (by rw [l2.1] at hj; simpa using hj)))
          (fun j hj => by
            have hj' : j < (cellsOfAll es).length := by rw [l2.1] at hj; simpa using hj
            have := l2.2 j hj (by simpa using hj')
            simpa using this) (by omega) (fun t ht => by cases ht)
          (by
            rcases ha with ⟨h, _⟩ | h
            · left; subst h; exact ⟨List.eq_nil_of_length_eq_zero (by simpa using hlen), rfl⟩
            · exact .inr h) (fun _ => .inl rfl)
        rw [hlen] at this
        exact this
    | pv cs =>
      simp only [freeze, Option.bind_eq_some_iff, Option.some.injEq] at e
      obtain ⟨us, hus, rfl⟩ := e
      cases hv with
      | pv f hi hvv =>
        have l2 := ihs hus (LR.of_fn f hvv)
        have hlen := optAll_length hus
        exact .pv f (fun j hj => hs.imm _ _ _ (hi j (by omega))) (fun j hj => by
          have := l2.2 j hj (by simp; omega)
          simpa using this)
    | agg cs =>
      simp only [freeze, Option.bind_eq_some_iff, Option.some.injEq] at e
      obtain ⟨us, hus, rfl⟩ := e
      obtain ⟨cs', rfl, l⟩ := VR.agg_iff.1 hv
      exact VR.agg_iff.2 ⟨cs', rfl, ihs hus l⟩
    | tup cs =>
      simp only [freeze, Option.bind_eq_some_iff, Option.some.injEq] at e
      obtain ⟨us, hus, rfl⟩ := e
      obtain ⟨cs', rfl, l⟩ := VR.tup_iff.1 hv
      exact VR.tup_iff.2 ⟨cs', rfl, ihs hus l⟩
    | ifc t y =>
      simp only [freeze, Option.bind_eq_some_iff, Option.some.injEq] at e
      obtain ⟨us, hus, rfl⟩ := e
      cases hv with
      | ifc h => exact .ifc (ih _ _ _ hus h)
    | fn g x y =>
      simp only [freeze] at e
      split at e
      · cases e
      · rename_i hng
        simp only [Option.bind_eq_some_iff, Option.some.injEq] at e
        obtain ⟨xs, hxs, ys, hys, rfl⟩ := e
        cases hv with
        | fn hg ha hb hav hbv =>
          rename_i as' bs'
          have lx := ihs hxs (⟨by simpa using ha, fun j a b => hav j a b⟩ : LR J1 x as'.toList)
          have ly := ihs hys (⟨by simpa using hb, fun j a b => hbv j a b⟩ : LR J1 y bs'.toList)
          exact .fn hg (by simpa using lx.1) (by simpa using ly.1) (fun j a b => lx.2 j a b) (fun j a b => ly.2 j a b)
        | yield h => exact absurd rfl (hng _)
    | pel t cs => simp [freeze] at e
    | mv es =>
      simp only [freeze] at e
      split at e
      · rename_i hcl
        cases e
        exact hv.closed hs.imm hs.immM (by simpa [AV.closed] using hcl)
      · cases e
    | bool b => simp only [freeze, Option.some.injEq] at e; subst e; cases hv; exact .bool b
    | int k m => simp only [freeze, Option.some.injEq] at e; subst e; cases hv; exact .int k m
    | str s => simp only [freeze, Option.some.injEq] at e; subst e; cases hv; exact .str s
    | nilp => simp only [freeze, Option.some.injEq] at e; subst e; cases hv; exact .nilp
    | nils => simp only [freeze, Option.some.injEq] at e; subst e; cases hv; exact .nils
    | nilm => simp only [freeze, Option.some.injEq] at e; subst e; cases hv; exact .nilm
    | nilf => simp only [freeze, Option.some.injEq] at e; subst e; cases hv; exact .nilf
    | nili => simp only [freeze, Option.some.injEq] at e; subst e; cases hv; exact .nili
end
end Go.Kal
end

section
namespace Go.Kal
open Go
section
variable {E : Env} {P : Program} {G J : K} {h : H} {w : World} {fr : T AV} {nt : Nat} {a : Act} {x : Option Nat}

theorem loadAs_ok (hE : EnvOK E P G) (hW : W J h w) {t : TypeId} {p : AV} {p' : Value} (hp : VR J p p') {v : AV} (e : Kal.loadVar E h t p = some v) :
    ∃ v', (do Go.loadVar t (← asAddr p') : Sem Value).run P w = .ok v' w ∧ VR J v v' := by
  obtain ⟨v', h1, h2⟩ := load_ok hE hW hp e
  refine ⟨v', ?_, h2⟩
  have : ∃ ad, p' = .pointer (some ad) := by
    unfold Kal.loadVar at e
    simp only [Option.bind_eq_some_iff] at e
    obtain ⟨i, _, e⟩ := e
    split at e
    · cases hp; exact ⟨_, rfl⟩
    · cases hp; exact ⟨_, rfl⟩
    · cases e
  obtain ⟨ad, rfl⟩ := this
  simpa [Instr.loadAt, Instr.sureAddr, asAddr] using h1

theorem resultList_ok (hE : EnvOK E P G) (hW : W J h w) (hF : FR J fr nt a.tmps) {A : ResultVar → Option AV} {F : ResultVar → Sem Value} (hA1 : ∀ t, A (.tmp t) = some (slot fr t)) (hA2 : ∀ p t, A (.cell p t) = Kal.loadVar E h t (slot fr p))
    (hF1 : ∀ t, F (.tmp t) = pure (a.tmps.getD t undef)) (hF2 : ∀ p t, F (.cell p t) = (do Go.loadVar t (← asAddr (a.tmps.getD p undef)))) : ∀ {l : List ResultVar} {vs : List AV}, optAll A l = some vs →
    ∃ vs', (l.mapM F).run P w = .ok vs' w ∧ LR J vs vs'
  | [], vs, e => by cases e; exact ⟨[], by simp, LR.nil J⟩
  | r :: l, vs, e => by
    obtain ⟨b, y, e1, e2, rfl⟩ := optAll_cons.1 e
    obtain ⟨ys, g1, g2⟩ := resultList_ok hE hW hF hA1 hA2 hF1 hF2 e2
    cases r with
    | tmp t =>
      rw [hA1] at e1
      cases e1
      exact ⟨_ :: ys, by simp only [List.mapM_cons, hF1, Sem.run_bind, Sem.run_pure, Result.andThen_ok, g1], LR.cons (hF.val t) g2⟩
    | cell p t =>
      rw [hA2] at e1
      obtain ⟨v', k1, k2⟩ := loadAs_ok (P := P) hE hW (hF.val p) e1
      exact ⟨v' :: ys, by simp only [List.mapM_cons, hF2]; rw [Sem.run_bind, k1]; simp [g1], LR.cons k2 g2⟩

theorem results_ok (hE : EnvOK E P G) {s : St} (hW : W J s.h w) (hF : FR J s.fr nt a.tmps) {fn : Func} {v : AV} (e : resultsOf E s fn = some v) : ∃ v', (results fn a.tmps).run P w = .ok v' w ∧ VR J v v' := by
  unfold resultsOf at e
  simp only [Option.bind_eq_some_iff, Option.some.injEq] at e
  obtain ⟨vs, h1, h2⟩ := e
  unfold results
  rw [Array.mapM_eq_mapM_toList]
  obtain ⟨vs', g1, g2⟩ := resultList_ok (P := P) (F := fun | .tmp t => pure (a.tmps.getD t undef) | .cell x t => do Go.loadVar t (← asAddr (a.tmps.getD x undef))) hE hW hF (fun t => rfl) (fun p t => rfl) (fun t => rfl) (fun p t => rfl) h1
  have hlen := g2.1
  refine ⟨if hh : vs'.toArray.size = 1 then vs'.toArray[0] else .tuple vs'.toArray, by
    simp only [Sem.run_bind, Sem.run_map]
    erw [g1]
    simp, ?_⟩
  split at h2
  · subst h2
    rename_i v
    obtain ⟨v', t, rfl, hv, ht⟩ := g2.uncons
    rw [ht.nil_inv]
    simpa using hv
  · rename_i hn
    subst h2
    have : vs'.toArray.size ≠ 1 := by
      intro q
      have : vs.length = 1 := by rw [hlen]; simpa using q
      obtain ⟨u, rfl⟩ := List.length_eq_one_iff.1 this
      exact hn u rfl
    rw [dif_neg this]
    exact VR.tup_iff.2 ⟨_, rfl, by simpa using g2⟩

/-- a block that no object is turns, of the call's own -/
theorem touch {J0 : K} {h0 : H} {w0 : World} (hX : Ext x J0 h0 w0 J h w) (hW : W J h w) {r : Nat} {ob ob' : Go.Obj} (hr : w0.heap.size ≤ r) (hob : w.heap[r]? = some ob) (hn1 : ∀ c e f, ob ≠ .cells c e f) (hn2 : ∀ es ck, ob ≠ .map es ck) (hno : ∀ id, (h.get id).isSome → J.obj id ≠ some r) :
    W J h (setB w r ob') ∧ Ext x J0 h0 w0 J h (setB w r ob') := by
  refine ⟨⟨?_, ?_, ?_, hW.apart, hW.ids, hW.fresh, fun e => (by rw [setB_size]; exact hW.lt e), hW.pin.grow rfl (fun b hb => setB_other (fun q => by
    subst q
    obtain ⟨o, ho⟩ := Option.ne_none_iff_exists'.1 hb
    obtain ⟨cs, el, fz, rfl⟩ := hW.pin.cells ho
    rw [hW.pin.blk ho] at hob
    cases hob
    exact hn1 _ _ _ rfl)) (fun e => .inl e)⟩, ⟨hX.le, hX.os, hX.tape, hX.output, by rw [setB_size]; exact hX.size, ?_, hX.own, hX.next, hX.newImm, hX.newImmM, hX.still⟩⟩
  · intro b o v e
    obtain ⟨cs, el, fz, g1, g2⟩ := hW.imm e
    have : b ≠ r := fun q => by subst q; rw [hob] at g1; cases g1; exact hn1 _ _ _ rfl
    exact ⟨cs, el, fz, by rw [setB_other this]; exact g1, g2⟩
  · intro b l e
    obtain ⟨es, ck, g1, g2⟩ := hW.immM e
    have : b ≠ r := fun q => by subst q; rw [hob] at g1; cases g1; exact hn2 _ _ rfl
    exact ⟨es, ck, by rw [setB_other this]; exact g1, g2⟩
  · intro id o b hg e
    obtain ⟨ob1, g1, g2⟩ := hW.live hg e
    have : b ≠ r := fun q => hno id (by rw [hg]; rfl) (by rw [← q]; exact e)
    exact ⟨ob1, by rw [setB_other this]; exact g1, g2⟩
  · intro b hb hn
    rw [setB_other (by omega)]
    exact hX.keep hb hn

theorem DR.touch {B : Nat} {r : Nat} {ob' : Go.Obj} {ds : List Df} {l : List Deferred} (hd : DR B J h w ds l) (hne : ∀ d ∈ l, d.target ≠ .collected r) : DR B J h (setB w r ob') ds l := by
  induction hd with
  | nil => exact .nil
  | call hf ha _ ih => exact .call hf ha (ih (fun d hd => hne d (List.mem_cons_of_mem _ hd)))
  | @mark ds l r' hB hlt hno hr hne' _ ih =>
    have : r' ≠ r := fun q => hne _ (List.mem_cons_self ..) (by rw [q])
    exact .mark hB (by rw [setB_size]; exact hlt) hno (by rw [setB_other this]; exact hr) hne' (ih (fun d hd => hne d (List.mem_cons_of_mem _ hd)))

/-- the deferred calls, one by one; those that a range over a function has marked are none -/
theorem unwind_ok {cv : Cv} (hc : CvOK E P G cv) {b : Frame} {cs : List Frame} {todo : List Item} {m : FrameMode} {J0 : K} {h0 : H} {w0 : World} : ∀ (l : List Deferred) {ds : List Df} {J : K} {h h' : H} {w : World} {tmps : Array Value}, G.le J → W J h w → DR w0.heap.size J h w ds l → Ext none J0 h0 w0 J h w →
    (m = .returning ∨ (ds = [] ∧ ∃ ch, m = .panicking ch)) → deferred E cv ds h = some h' →
    ∃ J' w', G.le J' ∧ J.le J' ∧ W J' h' w' ∧ Ext none J0 h0 w0 J' h' w' ∧ Steps P (lone { fat b ⟨tmps, l⟩ todo with mode := m } cs w) (lone { fat b ⟨tmps, []⟩ todo with mode := m } cs w')
  | [], ds, J, h, h', w, tmps, hG, hW, hD, hX, hm, e => by
    cases hD
    cases e
    exact ⟨J, w, hG, .refl J, hW, hX, .refl P _⟩
  | d :: l, ds, J, h, h', w, tmps, hG, hW, hD, hX, hm, e => by
    cases hD with
    | @mark _ _ r hB hlt hno hr hne t =>
      obtain ⟨t1, t2⟩ := Kal.touch (ob' := .deferred none) hX hW hB hr (by intro c e f q; cases q) (by intro c e q; cases q) hno
      obtain ⟨J', w', g0, g1, g2, g3, g4⟩ := unwind_ok hc (b := b) (cs := cs) (todo := todo) (m := m) (tmps := tmps) l hG t1 (t.touch hne) t2 hm e
      refine ⟨J', w', g0, g1, g2, g3, .head (step_lone_go ?_) g4⟩
      have hset := run_setObj_of (P := P) (o' := .deferred none) hr (by intro c e f q; cases q)
      have htake : (Instr.takeDeferred r).run P w = .ok [] (setB w r (.deferred none)) := by
        simp [Instr.takeDeferred, run_getObj_of hr (by intro c e f q; cases q), hset]
      rcases hm with rfl | ⟨_, ch, rfl⟩
      · simp [stepG, unwind, fat, htake]
      · simp [stepG, unwind, fat, htake]
    | @call d0 ds0 _ fn first captured args' hf ha t =>
      rcases hm with rfl | ⟨q, _⟩
      · simp only [deferred] at e
        split at e
        · rename_i f fa fb hfn
          split at e
          · cases e
          · rename_i hin
            simp only [Option.bind_eq_some_iff] at e
            obtain ⟨⟨r1, rh⟩, hcv, e⟩ := e
            split at e
            · rename_i v hv
              simp only at hv
              subst hv
              have hC := hc (kind := .deferred) hG hW hf ha hcv (.inr ⟨rfl, f, fa, fb, hfn, by simpa using hin⟩)
              obtain ⟨fn2, first2, captured2, he, hC⟩ := hC
              cases he
              have hgo : ∃ w1, (∃ J', OutR J' (.val v) (.val undef) ∨ True) ∧ (∃ J', G.le J' ∧ J.le J' ∧ W J' rh w1 ∧ Ext none J h w J' rh w1) ∧ Steps P (lone { fat b ⟨tmps, { target := .fn fn captured, args := first ++ args' } :: l⟩ todo with mode := .returning } cs w) (lone { fat b ⟨tmps, l⟩ todo with mode := .returning } cs w1) := by
                split at hC
                · rename_i v' w1 hr
                  obtain ⟨J', _, o2, o3⟩ := hC
                  refine ⟨w1, ⟨J', .inr trivial⟩, ⟨J', hG.trans o3.le, o3.le, o2, o3⟩, .one (step_lone_go ?_)⟩
                  simp [stepG, unwind, fat, callDeferred, hr]
                · rename_i f2 all w1 hr
                  obtain ⟨out, w2, fr2, ⟨J', o1, o2, o3⟩, hs, hfr, hl⟩ := hC ({ fat b ⟨tmps, l⟩ todo with mode := .returning } :: cs) ⟨_, _, rfl, rfl⟩
                  cases out with
                  | pan v' => exact o1.elim
                  | val v' =>
                    refine ⟨w2, ⟨J', .inr trivial⟩, ⟨J', hG.trans o3.le, o3.le, o2, o3⟩, .head (step_lone_go (by simp [stepG, unwind, fat, callDeferred, hr])) (hs.trans (.one ?_))⟩
                    obtain ⟨hm, hd, hk, fnn, hff, hres⟩ := hl
                    exact step_lone_go (by simp [stepG, unwind, doReturn, hm, hd, hk, hff, hres])
                · cases hC.1
                · exact hC.elim
              obtain ⟨w1, _, ⟨J', k1, k2, k3, k4⟩, hst⟩ := hgo
              obtain ⟨J2, w2, g0, g1, g2, g3, g4⟩ := unwind_ok hc (b := b) (cs := cs) (todo := todo) (m := .returning) (tmps := tmps) l k1 k3 (t.mono k4) (hX.trans k4) (.inl rfl) e
              exact ⟨J2, w2, g0, k2.trans g1, g2, g3, hst.trans g4⟩
            · cases e
        · cases e
      · cases q
end
end Go.Kal
end
