/-
Calls.
-/
import Derived.Test.YtacoaajilnpeiaaGreatDoorKd

set_option linter.unusedVariables false
set_option linter.unusedSimpArgs false

section
namespace Go.Kal
open Go

/-- the functions, as the interpreter knows them -/
structure CallEnv (E : Env) (P : Program) (G : K) (R : Nat → Nat → Array Oper → Prop) : Prop where
  fn : ∀ {f : Nat} {fn : Func}, E.fn f = some fn → P.funcs[f]? = some fn ∧ (fn.name == "runtime.NumGoroutine") = false ∧ ∀ c, fn.body = some c → GoodC E R f c
  ext : ∀ {f : Nat} {fn : Func} {args : List AV} {args' : Array Value} {v : AV} {J : K} {w : World}, E.fn f = some fn → fn.body = none → extern fn.name args = some v → LR J args args'.toList → ∃ v', (callFunc f args').run P w = .ok (.value v') w ∧ VR J v v'
  intr : ∀ {f : Nat} {g : List AV → Option AV} {args : List AV} {args' : Array Value} {v : AV} {J : K} {h : H} {w : World}, E.intr f = some g → g args = some v → LR J args args'.toList → G.le J → W J h w →
    (callFunc f args').run P w = .ok (.enter f args') w ∧ CallK P f args' .normal w (fun out w' => ∃ J', OutR J' (.val v) out ∧ W J' h w' ∧ Ext none J h w J' h w')
  gobj : ∀ i, G.obj i = none
  good : ∀ f c, GoodC E R f c ↔ G.good f c

section
variable {E : Env} {P : Program} {G J : K} {h : H} {w : World} {fr : T AV} {nt : Nat} {a : Act} {x : Option Nat}

theorem bindArgs_slot : ∀ (args : List AV) (i : Nat) (t : T AV) (j : Nat), slot (bindArgs i args t) j = if h : i ≤ j ∧ j < i + args.length then args[j - i]'(by omega) else slot t j
  | [], i, t, j => by rw [dif_neg (by simp)]; rfl
  | a :: l, i, t, j => by
    rw [bindArgs, bindArgs_slot l (i + 1)]
    by_cases h1 : i + 1 ≤ j ∧ j < i + 1 + l.length
    · rw [dif_pos h1, dif_pos (by simp; omega)]
      have : j - i = (j - (i + 1)) + 1 := by omega
      simp only [this, List.getElem_cons_succ]
    · rw [dif_neg h1, slot_set]
      by_cases hj : j = i
      · subst hj
        rw [if_pos rfl, dif_pos (by simp)]
        simp
      · rw [if_neg hj, dif_neg (by simp; omega)]

theorem slot_full : ∀ (d t : Nat), slot (full d) t = undefA
  | 0, t => by cases t <;> rfl
  | d + 1, t => by
    unfold slot full
    rw [T.get]
    split
    · rfl
    · split
      · exact slot_full d _
      · exact slot_full d _

theorem enter_FR {args : List AV} {args' : Array Value} (hl : LR J args args'.toList) (n m : Nat) : FR J (bindArgs 0 args (frame0 m)) (max args.length n) (args' ++ Array.replicate (n - args'.size) undef) := by
  have hs : args'.size = args.length := size_of_LR hl
  refine ⟨by simp [hs]; omega, fun t => ?_⟩
  rw [bindArgs_slot]
  by_cases ht : t < args.length
  · rw [dif_pos (by omega)]
    have := hl.2 t ht (by simp [hs]; exact ht)
    simp only [Nat.sub_zero]
    rw [Array.getD_eq_getD_getElem?, Array.getElem?_append_left (by omega), Array.getElem?_eq_getElem (by omega)]
    simpa using this
  · rw [dif_neg (by omega)]
    have hv : VR J (slot (frame0 m) t) undef := by rw [frame0, slot_full]; exact undefR J
    rw [Array.getD_eq_getD_getElem?, Array.getElem?_append_right (by omega), Array.getElem?_replicate]
    split
    · exact hv
    · exact hv

theorem run_ok {cv : Cv} {R : Nat → Nat → Array Oper → Prop} (hC : CallEnv E P G R) (hc : CvOK E P G cv) (hE : EnvOK E P G) (hdr : DrawOK E P G R cv) {N f : Nat} {fn : Func} {c : Code} (hf : E.fn f = some fn) (hbody : fn.body = some c) {args : List AV} {args' : Array Value} {kind : CallKind} (hk : kind = .normal ∨ kind = .deferred)
    (hG : G.le J) (hW : W J h w) (hl : LR J args args'.toList) {r : CR × H} (e : run E cv N f fn c args h = some r) :
    CallK P f args' kind w (fun out w' => ∃ J', OutR J' r.1 out ∧ W J' r.2 w' ∧ Ext none J h w J' r.2 w') := by
  intro cs hcalm
  obtain ⟨hP, _, hgc⟩ := hC.fn hf
  unfold run at e
  simp only [Option.bind_eq_some_iff] at e
  obtain ⟨⟨ex, s1⟩, hex, e⟩ := e
  have hent : Frame.enter P f args' kind = fat (Frame.enter P f args' kind) ⟨args' ++ Array.replicate (fn.ntmps - args'.size) undef, []⟩ [.code c] := by
    simp [Frame.enter, fat, hP, hbody]
  have hS : SR w.heap.size J ⟨bindArgs 0 args (frame0 (max args.length fn.ntmps)), h, []⟩ (max args.length fn.ntmps) ⟨args' ++ Array.replicate (fn.ntmps - args'.size) undef, []⟩ w := ⟨enter_FR hl _ _, hW, .nil, Nat.le_refl _⟩
  have hb : BOK (Frame.enter P f args' kind) none cs := ⟨hcalm, fun _ => rfl⟩
  obtain ⟨J1, a1, w1, h1, h2, h3⟩ := exec_ok hc hE hdr hC.good hb rfl c (k := []) (hgc c hbody) hG hS trivial hex
  rw [← hent] at h3
  have hret : ∀ {todo : List Item}, Steps P (lone (Frame.enter P f args' kind) cs w) (lone { fat (Frame.enter P f args' kind) a1 todo with mode := .returning } cs w1) →
      ((deferred E cv s1.ds s1.h).bind fun h => (resultsOf E { s1 with h } fn).bind fun v => some (CR.val v, h)) = some r →
      ∃ out w' fr, (∃ J', OutR J' r.1 out ∧ W J' r.2 w' ∧ Ext none J h w J' r.2 w') ∧ Steps P (lone (Frame.enter P f args' kind) cs w) (lone fr cs w') ∧ fr.fn = f ∧ leavesK P fr kind w' out := by
    intro todo hst e
    simp only [Option.bind_eq_some_iff, Option.some.injEq] at e
    obtain ⟨hh, hdf, v, hv, rfl⟩ := e
    obtain ⟨J2, w2, _, g1, g2, g3, g4⟩ := unwind_ok hc (b := Frame.enter P f args' kind) (cs := cs) (todo := todo) (m := .returning) (tmps := a1.tmps) a1.defers (hG.trans h2.le) h1.mem h1.ds h2 (.inl rfl) hdf
    obtain ⟨v', r1, r2⟩ := results_ok (P := P) (w := w2) (s := { s1 with h := hh }) (a := ⟨a1.tmps, []⟩) (nt := max args.length fn.ntmps) hE g2 (h1.fr.mono g1) hv
    exact ⟨.val v', w2, _, ⟨J2, r2, g2, g3⟩, hst.trans g4, rfl, rfl, rfl, rfl, fn, hP, r1⟩
  split at e
  · rename_i hex'
    simp only at hex'
    subst hex'
    refine hret (todo := []) ?_ e
    exact Steps.trans h3 (.one (step_lone_go (by simp [stepG, stepG.exec, fat, Frame.enter])))
  · rename_i hex'
    simp only at hex'
    subst hex'
    obtain ⟨todo, hst⟩ := h3
    refine hret (todo := .code .ret :: todo) ?_ e
    exact Steps.trans hst (.one (step_lone_go (by simp [stepG, stepG.exec, fat, Frame.enter])))
  · rename_i v hex'
    simp only at hex'
    subst hex'
    obtain ⟨todo, v', hv, hst⟩ := h3
    split at e
    · rename_i hds
      cases e
      have hD := h1.ds
      simp only at hds
      rw [hds] at hD
      obtain ⟨J2, w2, _, g1, g2, g3, g4⟩ := unwind_ok hc (b := Frame.enter P f args' kind) (cs := cs) (todo := todo) (m := .panicking [{ v := v', recovered := false }]) (tmps := a1.tmps) a1.defers (hG.trans h2.le) h1.mem hD h2 (.inr ⟨rfl, _, rfl⟩) rfl
      exact ⟨.pan v', w2, _, ⟨J2, hv.mono g1, g2, g3⟩, hst.trans g4, rfl, rfl, rfl, fn, hP⟩
    · cases e
  · cases e
end
end Go.Kal
end

section
namespace Go.Kal
open Go

section
variable {E : Env} {P : Program} {G J : K} {h : H} {w : World} {fr : T AV} {nt : Nat} {a : Act} {x : Option Nat}

/-- K without objects -/
def K.bare (J : K) : K := { J with obj := fun _ => none }
theorem W.bare (hW : W J h w) : W J.bare H.empty w :=
  ⟨hW.imm, hW.immM, fun hg _ => (by rw [H.get_empty] at hg; cases hg), fun hg _ _ _ => (by rw [H.get_empty] at hg; cases hg), fun hg => (by rw [H.get_empty] at hg; cases hg), fun _ => rfl, fun e => (by cases e), hW.pin.grow rfl (fun _ _ => rfl) (fun e => (by cases e))⟩

theorem snap_ok (hW : W J h w) {J1 : K} {h1 : H} {w1 : World} (hW1 : W J1 h1 w1) (hX : Ext none J.bare H.empty w J1 h1 w1) : ∃ J', J.le J' ∧ W J' h w1 ∧ Ext none J h w J' h w1 ∧ Snap J1 J' h1 w1 := by
  have hkeep : ∀ b, b < w.heap.size → w1.heap[b]? = w.heap[b]? := fun b hb => hX.keep hb (fun id hid => by rw [H.get_empty] at hid; cases hid)
  have hown : ∀ {id b}, (h1.get id).isSome → J1.obj id = some b → w.heap.size ≤ b := fun hid e => by
    rcases hX.own hid e with q | ⟨i, q, _⟩
    · exact q
    · rw [H.get_empty] at q; cases q
  have hI : ∀ b o, b < w.heap.size → J1.imm b o = J.imm b o := fun b o hb => by
    rcases hX.newImm b o with q | q | ⟨i, q, _⟩
    · exact q
    · omega
    · rw [H.get_empty] at q; cases q
  have hM : ∀ b, b < w.heap.size → J1.immM b = J.immM b := fun b hb => by
    rcases hX.newImmM b with q | q | ⟨i, q, _⟩
    · exact q
    · omega
    · rw [H.get_empty] at q; cases q
  have hcell : ∀ {b o v}, w1.cell? ⟨b, o, none⟩ = some v → ∃ cs el fz, w1.heap[b]? = some (.cells cs el fz) ∧ cs[o]? = some v := by
    intro b o v e
    unfold World.cell? at e
    split at e
    · rename_i c el fz hq
      exact ⟨c, el, fz, hq, by simpa using e⟩
    · cases e
  let J' : K := { J with imm := fun b o => if b < w.heap.size then J.imm b o else w1.cell? ⟨b, o, none⟩, immM := fun r => if r < w.heap.size then J.immM r else (match w1.heap[r]? with | some (.map es _) => some (es.toList.map fun e => (e.key, e.val)) | _ => none) }
  have hle : J.le J' := ⟨fun {b o v} e => by show (if _ then _ else _) = _; rw [if_pos (hW.imm_lt e)]; exact e, fun {r l} e => by show (if _ then _ else _) = _; rw [if_pos (hW.immM_lt e)]; exact e, fun e => ⟨e, rfl, rfl⟩, rfl, rfl⟩
  have himm : ∀ b o, b < w.heap.size → J'.imm b o = J.imm b o := fun b o hb => by show (if _ then _ else _) = _; rw [if_pos hb]
  have himm' : ∀ b o, ¬ b < w.heap.size → J'.imm b o = w1.cell? ⟨b, o, none⟩ := fun b o hb => by show (if _ then _ else _) = _; rw [if_neg hb]
  have himmM : ∀ b, b < w.heap.size → J'.immM b = J.immM b := fun b hb => by show (if _ then _ else _) = _; rw [if_pos hb]
  refine ⟨J', hle, ⟨?_, ?_, ?_, hW.apart, hW.ids, hW.fresh, fun e => Nat.lt_of_lt_of_le (hW.lt e) hX.size, hW.pin.grow rfl (fun b hb => hkeep b (hW.pin.lt hb)) (fun e => .inl e)⟩, ⟨hle, hX.os, hX.tape, hX.output, hX.size, fun hb _ => hkeep _ hb, fun a b => .inr ⟨_, a, b⟩, Nat.le_refl _, fun b o => ?_, fun b => ?_, fun _ a _ => ⟨a, rfl⟩⟩, ⟨?_, ?_, ?_, ?_⟩⟩
  · intro b o v e
    by_cases hb : b < w.heap.size
    · rw [himm _ _ hb] at e
      rw [hkeep _ hb]
      exact hW.imm e
    · rw [himm' _ _ hb] at e
      exact hcell e
  · intro r l e
    by_cases hb : r < w.heap.size
    · rw [himmM _ hb] at e
      rw [hkeep _ hb]
      exact hW.immM e
    · have e' : (match w1.heap[r]? with | some (.map es _) => some (es.toList.map fun e => (e.key, e.val)) | _ => none) = some l := by
        have : J'.immM r = _ := if_neg hb
        rw [this] at e; exact e
      split at e'
      · rename_i es ck hq
        cases e'
        exact ⟨es, ck, hq, rfl⟩
      · cases e'
  · intro id o b hg e
    obtain ⟨ob, q1, q2⟩ := hW.live hg e
    have hb := hW.lt e
    exact ⟨ob, by rw [hkeep _ hb]; exact q1, q2.mono hle e (fun y => himm _ _ hb) (himmM _ hb)⟩
  · by_cases hb : b < w.heap.size
    · exact .inl (himm _ _ hb)
    · exact .inr (.inl (by omega))
  · by_cases hb : b < w.heap.size
    · exact .inl (himmM _ hb)
    · exact .inr (.inl (by omega))
  · intro b o v e
    by_cases hb : b < w.heap.size
    · rw [himm _ _ hb, ← hI _ _ hb]; exact e
    · rw [himm' _ _ hb]; exact cell_imm hW1 e
  · intro r l e
    by_cases hb : r < w.heap.size
    · rw [himmM _ hb, ← hM _ hb]; exact e
    · obtain ⟨es, ck, q1, q2⟩ := hW1.immM e
      have : J'.immM r = (match w1.heap[r]? with | some (.map es _) => some (es.toList.map fun e => (e.key, e.val)) | _ => none) := if_neg hb
      rw [this, q1, ← q2]
  · intro id b o v hid e hv
    have hb := hown hid e
    rw [himm' _ _ (by omega)]; exact hv
  · intro id b es ck hid e hv
    have hb := hown hid e
    have : J'.immM b = (match w1.heap[b]? with | some (.map es _) => some (es.toList.map fun e => (e.key, e.val)) | _ => none) := if_neg (by omega)
    rw [this, hv]

/-- what a function's call does -/
def CallF (P : Program) (kind : CallKind) (f : Nat) (args : Array Value) (w : World) (R : OutV → World → Prop) : Prop :=
  match (callFunc f args).run P w with
    | .ok (.value v) w' => R (.val v) w'
    | .ok (.enter f all) w' => CallK P f all kind w' R
    | _ => False

theorem callFunc_enter {f : Nat} {fn : Func} {c : Code} {args : Array Value} (hP : P.funcs[f]? = some fn) (hn : (fn.name == "runtime.NumGoroutine") = false) (hb : fn.body = some c) : (callFunc f args).run P w = .ok (.enter f args) w := by
  simp [callFunc, hP, hn, hb]
  intro q
  rw [q] at hn
  simp at hn

theorem callF_ok {cv : Cv} {R : Nat → Nat → Array Oper → Prop} (hC : CallEnv E P G R) (hc : CvOK E P G cv) (hE : EnvOK E P G) (hdr : DrawOK E P G R cv) {N f : Nat} {kind : CallKind} (hk : kind = .normal ∨ (kind = .deferred ∧ E.intr f = none))
    (hG : G.le J) (hW : W J h w) {args : List AV} {args' : Array Value} (hl : LR J args args'.toList) {r : CR × H} (e : callF E cv N f args h = some r) :
    CallF P kind f args' w (fun out w' => ∃ J', OutR J' r.1 out ∧ W J' r.2 w' ∧ Ext none J h w J' r.2 w') := by
  unfold callF at e
  unfold CallF
  split at e
  · rename_i g hg
    simp only [Option.bind_eq_some_iff, Option.some.injEq] at e
    obtain ⟨v, hv, rfl⟩ := e
    obtain ⟨i1, i2⟩ := hC.intr hg hv hl hG hW
    rw [i1]
    rcases hk with rfl | ⟨_, q⟩
    · exact i2
    · rw [hg] at q; cases q
  · simp only [Option.bind_eq_some_iff] at e
    obtain ⟨fn, hfn, e⟩ := e
    obtain ⟨hP, hname, _⟩ := hC.fn hfn
    split at e
    · rename_i hb
      simp only [Option.bind_eq_some_iff, Option.some.injEq] at e
      obtain ⟨v, hv, rfl⟩ := e
      obtain ⟨v', q1, q2⟩ := hC.ext (w := w) hfn hb hv hl
      rw [q1]
      exact ⟨J, q2, hW, .refl J h w⟩
    · rename_i c hb
      rw [callFunc_enter hP hname hb]
      have hk' : kind = .normal ∨ kind = .deferred := hk.imp id And.left
      split at e
      · rename_i hcl
        simp only [Bool.and_eq_true] at hcl
        have hG0 : G.le J.bare := ⟨hG.imm, hG.immM, fun {i b} q => (by rw [hC.gobj] at q; cases q), hG.good, hG.pin⟩
        have hl0 : LR J.bare args args'.toList := ⟨hl.1, fun j p q => VR.closed (J := J) (J' := J.bare) (fun b o v e => e) (fun r l e => e) (hl.2 j p q) (closeds_get hcl.1 j p)⟩
        simp only [Option.bind_eq_some_iff] at e
        obtain ⟨⟨r1, rh⟩, hrun, e⟩ := e
        have hR := run_ok hC hc hE hdr hfn hb hk' hG0 hW.bare hl0 hrun
        refine hR.mono fun out w1 ⟨J1, o1, o2, o3⟩ => ?_
        obtain ⟨J', _, s2, s3, s4⟩ := snap_ok hW o2 o3
        split at e
        · rename_i v hv
          simp only at hv
          subst hv
          simp only [Option.bind_eq_some_iff, Option.some.injEq] at e
          obtain ⟨u, hu, rfl⟩ := e
          cases out with
          | pan v' => exact o1.elim
          | val v' => exact ⟨J', freeze_ok o2 s4 1000 _ _ _ hu o1, s2, s3⟩
        · rename_i v hv
          simp only at hv
          subst hv
          simp only [Option.bind_eq_some_iff, Option.some.injEq] at e
          obtain ⟨u, hu, rfl⟩ := e
          cases out with
          | val v' => exact o1.elim
          | pan v' => exact ⟨J', freeze_ok o2 s4 1000 _ _ _ hu o1, s2, s3⟩
      · exact run_ok hC hc hE hdr hfn hb hk' hG hW hl e
end
end Go.Kal
end

section
namespace Go.Kal
open Go

section
variable {E : Env} {P : Program} {G J : K} {h : H} {w : World} {fr : T AV} {nt : Nat} {a : Act} {x : Option Nat}

theorem setParams_FR : ∀ {ps : List Nat} {args : List AV} {args' : List Value} {fr : T AV} {tmps : Array Value}, FR J fr nt tmps → LR J args args' → ps.length = args.length → (∀ p ∈ ps, p < nt) → FR J (setParams ps args fr) nt ((ps.zip args').foldl (fun tmps (p : Nat × Value) => tmps.setIfInBounds p.1 p.2) tmps)
  | [], args, args', fr, tmps, hF, hl, he, hn => by
    cases args with
    | nil => exact hF
    | cons _ _ => simp at he
  | p :: ps, args, args', fr, tmps, hF, hl, he, hn => by
    cases args with
    | nil => simp at he
    | cons v args =>
      obtain ⟨v', t', rfl, hv, ht⟩ := hl.uncons
      simp only [setParams, List.zip_cons_cons, List.foldl_cons]
      refine setParams_FR (fr := fr.set p (some v)) (tmps := tmps.setIfInBounds p v') ?_ ht (by simpa using he) (fun q hq => hn q (by simp [hq]))
      refine ⟨by simp [hF.size], fun t => ?_⟩
      rw [slot_set]
      simp only [Array.getD_eq_getD_getElem?, Array.getElem?_setIfInBounds]
      by_cases htp : t = p
      · subst htp
        rw [if_pos rfl, if_pos rfl, if_pos (by rw [hF.size]; exact hn _ (by simp))]
        exact hv
      · rw [if_neg htp, if_neg (fun q => htp q.symm)]
        have := hF.val t
        simpa [Array.getD_eq_getD_getElem?] using this

theorem round_ok {cv : Cv} {R : Nat → Nat → Array Oper → Prop} (hC : CallEnv E P G R) (hc : CvOK E P G cv) (hE : EnvOK E P G) (hdr : DrawOK E P G R cv) {N l b : Nat} (hG : G.le J) (hW : W J h w) (hlb : J.obj l = some b) {args : List AV} {args' : Array Value} (hl : LR J args args'.toList) {r : CR × H} (e : round E cv N l args h = some r) :
    CallsV P .normal (.func (.yield b) #[] #[]) args' w (fun out w' => ∃ J', OutR J' r.1 out ∧ W J' r.2 w' ∧ Ext none J h w J' r.2 w') := by
  unfold round at e
  simp only [Option.bind_eq_some_iff] at e
  obtain ⟨lp, hlp, e⟩ := e
  split at e
  · rename_i hq
    obtain ⟨hready, hlen, hpn⟩ := hq
    simp only [Option.bind_eq_some_iff] at e
    obtain ⟨⟨ex1, s1⟩, hex1, e⟩ := e
    obtain ⟨ob, g1, L, rfl, b1, b2, b3, b4, b5, b6, b7, ⟨bg1, bg2⟩, b9, b10⟩ := hW.live (H.loop?_eq.1 hlp) hlb
    have hsz : args'.size = L.params.size := by
      rw [size_of_LR hl, hlen, ← b5]; simp
    refine ⟨.yield b, #[], #[], rfl, ?_⟩
    have hinv : (invoke (.fn (.yield b) #[]) (#[] ++ args')).run P w = .ok (.round b L.fn ((L.params.zip args').foldl (fun tmps (t, a) => tmps.setIfInBounds t a) L.tmps) L.assign L.body) w := by
      simp [invoke, Instr.yield, getLoop_of g1, hsz]
    rw [hinv]
    refine ⟨rfl, fun c cs => ?_⟩
    have hzip : (L.params.zip args').foldl (fun tmps (p : Nat × Value) => tmps.setIfInBounds p.1 p.2) L.tmps = (lp.params.zip args'.toList).foldl (fun tmps (p : Nat × Value) => tmps.setIfInBounds p.1 p.2) L.tmps := by
      rw [← Array.foldl_toList, Array.toList_zip, b5]
    have hF := setParams_FR b4 hl hlen.symm (by simpa using hpn)
    rw [← hzip] at hF
    have hent : Frame.round b L.fn ((L.params.zip args').foldl (fun tmps (t, a) => tmps.setIfInBounds t a) L.tmps) L.assign L.body .normal = fat (Frame.round b L.fn ((L.params.zip args').foldl (fun tmps (t, a) => tmps.setIfInBounds t a) L.tmps) L.assign L.body .normal) ⟨(L.params.zip args').foldl (fun tmps (t, a) => tmps.setIfInBounds t a) L.tmps, []⟩ [.code L.assign, .beginRound, .code L.body] := rfl
    generalize hb0 : Frame.round b L.fn ((L.params.zip args').foldl (fun tmps (t, a) => tmps.setIfInBounds t a) L.tmps) L.assign L.body .normal = b0 at hent ⊢
    have hk0 : b0.kind = .normal := by rw [← hb0]; rfl
    have hr0 : b0.roundOf = some b := by rw [← hb0]; rfl
    have hf0 : b0.fn = lp.fn := by rw [← hb0]; exact b3
    rw [hent]
    have hb : BOK b0 (some l) (c :: cs) := ⟨by rw [hk0]; trivial, fun q => by cases q⟩
    have hgd : ∀ q, J.good lp.fn q → GoodC E R lp.fn q := fun q hq => (hC.good _ _).2 (by rw [← hG.good]; exact hq)
    have hS : SR w.heap.size J ⟨setParams lp.params args lp.fr, h, []⟩ lp.nt ⟨(L.params.zip args').foldl (fun tmps (t, a) => tmps.setIfInBounds t a) L.tmps, []⟩ w := ⟨hF, hW, .nil, Nat.le_refl _⟩
    obtain ⟨J1, a1, w1, h1, h2, h3⟩ := exec_ok hc hE hdr hC.good hb hf0 lp.assign (k := [.beginRound, .code L.body]) (hgd _ bg1) hG hS ⟨b, hr0, hlb⟩ hex1
    rw [← b6] at h3
    split at e
    · rename_i hex
      simp only at hex
      subst hex
      simp only [Option.bind_eq_some_iff] at e
      obtain ⟨lp1, hlp1, e⟩ := e
      split at e
      · rename_i hq1
        obtain ⟨hready1, hemp⟩ := hq1
        simp only [Option.bind_eq_some_iff] at e
        obtain ⟨⟨ex2, s2⟩, hex2, x2, hx2, lp2, hlp2, e⟩ := e
        have hlb1 := (h2.le.obj hlb).1
        obtain ⟨ob1, k1, L1, rfl, c1, c2, c3, c4, c5, c6, c7, c8, c9, c10⟩ := h1.mem.live (H.loop?_eq.1 hlp1) hlb1
        obtain ⟨t1, t2⟩ := turn_set (x := none) h1.mem (H.loop?_eq.1 hlp1) hlb1 k1 (o' := .loop { lp1 with st := .busy }) (ob' := .loop { L1 with state := .busy })
          ⟨{ L1 with state := .busy }, rfl, rfl, c2, c3, c4, c5, c6, c7, c8, c9, c10⟩ c9 c10
        have hst1 : L1.state = .ready := by rw [c1, hready1]; rfl
        have hbeg : (Instr.beginRound b).run P w1 = .ok () (setB w1 b (.loop { L1 with state := .busy })) := by
          have hset := run_setObj_of (P := P) (o' := .loop { L1 with state := .busy }) k1 (by intro c e f q; cases q)
          simp [Instr.beginRound, getLoop_of k1, hset, hst1]
        have hstep1 : step P (lone (fat b0 a1 [.beginRound, .code L.body]) (c :: cs) w1) = .next (lone (fat b0 a1 [.code L.body]) (c :: cs) (setB w1 b (.loop { L1 with state := .busy }))) :=
          step_lone_go (by simp [stepG, stepG.exec, stepG.apply, fat, hr0, hbeg, Frame.finish])
        have hS1 : SR w.heap.size J1 { s1 with h := s1.h.set l (.loop { lp1 with st := .busy }) } lp.nt a1 (setB w1 b (.loop { L1 with state := .busy })) :=
          ⟨h1.fr, t1, h1.ds.mono t2, Nat.le_trans h1.base t2.size⟩
        obtain ⟨J2, a2, w2, m1, m2, m3⟩ := exec_ok hc hE hdr hC.good hb hf0 lp.body (k := []) (hgd _ bg2) (hG.trans h2.le) hS1 ⟨b, hr0, hlb1⟩ hex2
        rw [← b7] at m3
        split at e
        · cases e
          have hlb2 := (m2.le.obj hlb1).1
          obtain ⟨ob2, k2, L2, rfl, d1, d2, d3, d4, d5, d6, d7, d8, d9, d10⟩ := m1.mem.live (H.loop?_eq.1 hlp2) hlb2
          have hfin : ∀ (jump : Option Code) (xx : Ex), exR xx jump → xx.isNormal = jump.isNone → x2 = xx → (Steps P (lone (fat b0 a2 []) (c :: cs) w2) (lone (c.finish (.bool jump.isNone)) cs (setB w2 b (.loop { L2 with state := if jump.isNone then .ready else .done, pending := jump }))) ∨ ∃ todo, Steps P (lone (fat b0 ⟨((L.params.zip args').foldl (fun tmps (t, a) => tmps.setIfInBounds t a) L.tmps), []⟩ [.code L.assign, .beginRound, .code L.body]) (c :: cs) w) (lone todo (c :: cs) w2) ∧ step P (lone todo (c :: cs) w2) = .next (lone (c.finish (.bool jump.isNone)) cs (setB w2 b (.loop { L2 with state := if jump.isNone then .ready else .done, pending := jump })))) → True := fun _ _ _ _ _ _ => trivial
          have hend : ∀ jump : Option Code, (Instr.endRound b jump).run P w2 = .ok (.bool jump.isNone) (setB w2 b (.loop { L2 with state := if jump.isNone then .ready else .done, pending := jump })) := fun jump => by
            have hset := run_setObj_of (P := P) (o' := .loop { L2 with state := if jump.isNone then .ready else .done, pending := jump }) k2 (by intro c e f q; cases q)
            simp only [Instr.endRound, Sem.run_bind, getLoop_of k2, Result.andThen_ok, hset, Sem.run_pure]
          have hpre : Steps P (lone (fat b0 ⟨(L.params.zip args').foldl (fun tmps (t, a) => tmps.setIfInBounds t a) L.tmps, []⟩ [.code L.assign, .beginRound, .code L.body]) (c :: cs) w) (lone (fat b0 a1 [.code L.body]) (c :: cs) (setB w1 b (.loop { L1 with state := .busy }))) := Steps.trans h3 (.one hstep1)
          have hdone : ∀ (jump : Option Code), exR x2 jump → x2.isNormal = jump.isNone → Steps P (lone (fat b0 a1 [.code L.body]) (c :: cs) (setB w1 b (.loop { L1 with state := .busy }))) (lone (c.finish (.bool jump.isNone)) cs (setB w2 b (.loop { L2 with state := if jump.isNone then .ready else .done, pending := jump }))) →
              ∃ out w'', (∃ J', OutR J' (CR.val (.bool x2.isNormal)) out ∧ W J' (s2.h.set l (.loop { lp2 with st := if x2.isNormal then .ready else .done, pending := x2 })) w'' ∧ Ext none J h w J' (s2.h.set l (.loop { lp2 with st := if x2.isNormal then .ready else .done, pending := x2 })) w'') ∧ Lands P (lone (fat b0 ⟨(L.params.zip args').foldl (fun tmps (t, a) => tmps.setIfInBounds t a) L.tmps, []⟩ [.code L.assign, .beginRound, .code L.body]) (c :: cs) w) c cs w'' out := by
            intro jump hj1 hj2 hst
            obtain ⟨u1, u2⟩ := turn_set (x := none) m1.mem (H.loop?_eq.1 hlp2) hlb2 k2 (o' := .loop { lp2 with st := if x2.isNormal then .ready else .done, pending := x2 }) (ob' := .loop { L2 with state := if jump.isNone then .ready else .done, pending := jump })
              ⟨_, rfl, by rw [hj2]; cases jump.isNone <;> rfl, hj1, d3, d4, d5, d6, d7, d8, d9, d10⟩ d9 d10
            exact ⟨.val (.bool jump.isNone), _, ⟨J2, by rw [hj2]; exact .bool _, u1, (h2.trans t2).trans (m2.trans u2)⟩, hpre.trans hst⟩
          cases ex2 with
          | panic v => cases hx2
          | normal =>
            cases hx2
            exact hdone none rfl rfl (Steps.trans m3 (.one (step_lone_go (by simp [stepG, stepG.exec, fat, hr0, hend, doReturn, hk0]))))
          | exit id =>
            cases hx2
            obtain ⟨todo, hs, hex'⟩ := m3
            have hex'' : exitTo id todo = none := hex'
            exact hdone (some (.exit id)) rfl rfl (hs.trans (.one (step_lone_go (by simp [stepG, stepG.exec, fat, hr0, hend, doReturn, hk0, hex'']))))
          | ret =>
            cases hx2
            obtain ⟨todo, hs⟩ := m3
            exact hdone (some .ret) rfl rfl (hs.trans (.one (step_lone_go (by simp [stepG, stepG.exec, fat, hr0, hend, doReturn, hk0]))))
        · cases e
      · cases e
    · cases e
  · cases e

theorem callV_step {R : Nat → Nat → Array Oper → Prop} (hC : CallEnv E P G R) (hE : EnvOK E P G) {N n : Nat} (ih : CvOK E P G (callV E N n)) (hdr : DrawOK E P G R (callV E N n)) {g : AV} {g' : Value} {args : List AV} {args' : Array Value} {r : CR × H} {kind : CallKind}
    (hG : G.le J) (hW : W J h w) (hg : VR J g g') (hl : LR J args args'.toList) (e : callV E N (n + 1) g args h = some r) (hk : kindOK E kind g) :
    CallsV P kind g' args' w (fun out w' => ∃ J', OutR J' r.1 out ∧ W J' r.2 w' ∧ Ext none J h w J' r.2 w') := by
    simp only [callV] at e
    split at e
    · rename_i f first captured
      cases hg with
      | fn hng ha hb hav hbv =>
        rename_i as' bs'
        have l1 : LR J first as'.toList := ⟨by simpa using ha, fun j p q => hav j p q⟩
        have l2 : LR J captured bs'.toList := ⟨by simpa using hb, fun j p q => hbv j p q⟩
        have hk' : kind = .normal ∨ (kind = .deferred ∧ E.intr f = none) := by
          rcases hk with q | ⟨q, f', a', b', q1, q2⟩
          · exact .inl q
          · cases q1; exact .inr ⟨q, q2⟩
        have := callF_ok hC ih hE hdr (N := N) hk' hG hW (args' := as' ++ args' ++ bs') (by simpa using (l1.append hl).append l2) e
        refine ⟨.func f, as', bs', rfl, ?_⟩
        unfold CallF at this
        have hinv : (invoke (.fn (.func f) bs') (as' ++ args')).run P w = (callFunc f (as' ++ args' ++ bs')).run P w := rfl
        rw [hinv]
        split at this
        · rename_i v w' hq
          rw [hq]; exact this
        · rename_i f2 all w' hq
          rw [hq]; exact this
        · exact this.elim
    · rename_i l
      rcases hk with rfl | ⟨_, f', a', b', q1, _⟩
      · cases hg with
        | fn hng ha hb hav hbv => exact absurd rfl (hng _)
        | yield hy => exact round_ok hC ih hE hdr hG hW hy hl e
      · cases q1
    · cases e

theorem callV_ok {R : Nat → Nat → Array Oper → Prop} (hC : CallEnv E P G R) (hE : EnvOK E P G) {N : Nat} (hdr : ∀ n, CvOK E P G (callV E N n) → DrawOK E P G R (callV E N n)) : ∀ n, CvOK E P G (callV E N n)
  | 0 => fun _ _ _ _ e _ => by simp [callV] at e
  | n + 1 => fun hG hW hg hl e hk => callV_step hC hE (callV_ok hC hE hdr n) (hdr n (callV_ok hC hE hdr n)) hG hW hg hl e hk
end
end Go.Kal
end

section
namespace Go.Kal
open Go

def actB : Builtin → Bool
  | .len | .max | .min | .unsafeSliceData => false
  | _ => true

/-- does it act on memory (or call)? -/
def actOp (o : Oper) : Bool :=
  match o.op with
  | .store .. | .mapUpdate .. | .insert .. | .next .. | .panic _ | .defer _ | .go _ => true
  | .call c => match c.callee with
    | .builtin b => actB b
    | _ => true
  | _ => false

def H.sub (h h2 : H) : Prop := ∀ i ob, h.get i = some ob → h2.get i = some ob

theorem H.sub.cells {h h2 : H} (hs : h.sub h2) {i : Nat} {c : TypeId × List AV} (hc : h.cells? i = some c) : h2.cells? i = some c := H.cells?_eq.2 (hs _ _ (H.cells?_eq.1 hc))
theorem H.sub.map {h h2 : H} (hs : h.sub h2) {i : Nat} {c : List (AV × AV)} (hc : h.map? i = some c) : h2.map? i = some c := H.map?_eq.2 (hs _ _ (H.map?_eq.1 hc))
theorem H.sub.entries {h h2 : H} (hs : h.sub h2) {m : AV} {es : List (AV × AV)} (e : entriesOf h m = some es) : entriesOf h2 m = some es := by
  unfold entriesOf at e ⊢
  split at e
  · exact e
  · exact e
  · exact hs.map e
  · cases e

section
variable {E : Env} {h h2 : H} {fr : T AV} {id : Nat}

theorem load_mono (hs : h.sub h2) {t : TypeId} {a v : AV} (e : Kal.loadVar E h t a = some v) : Kal.loadVar E h2 t a = some v := by
  unfold Kal.loadVar at e ⊢
  simp only [Option.bind_eq_some_iff] at e ⊢
  obtain ⟨i, hi, e⟩ := e
  refine ⟨i, hi, ?_⟩
  split at e
  · simp only [Option.bind_eq_some_iff] at e ⊢
    obtain ⟨c, hc, e⟩ := e
    exact ⟨c, hs.cells hc, e⟩
  · exact e
  · cases e

theorem slice_mono (hs : h.sub h2) {t : TypeId} {x v : AV} {l : Nat} {hi : Nat → Option Nat} (e : sliceOp E h t x l hi = some v) : sliceOp E h2 t x l hi = some v := by
  unfold sliceOp at e ⊢
  simp only [Option.bind_eq_some_iff] at e ⊢
  obtain ⟨i, hi', e⟩ := e
  refine ⟨i, hi', ?_⟩
  split at e
  · exact e
  · exact e
  · exact e
  · exact e
  · exact e
  · simp only [Option.bind_eq_some_iff] at e ⊢
    obtain ⟨u, hu, ei, hei, c, hc, e⟩ := e
    exact ⟨u, hu, ei, hei, c, hs.cells hc, e⟩
  · cases e

theorem lookup_mono (hs : h.sub h2) {t : TypeId} {m k v : AV} {ok : Bool} (e : Kal.lookup E h t m k ok = some v) : Kal.lookup E h2 t m k ok = some v := by
  unfold Kal.lookup at e ⊢
  simp only [Option.bind_eq_some_iff] at e ⊢
  obtain ⟨i, hi, e⟩ := e
  refine ⟨i, hi, ?_⟩
  split at e
  · simp only [Option.bind_eq_some_iff] at e ⊢
    obtain ⟨es, hes, e⟩ := e
    exact ⟨es, hs.entries hes, e⟩
  · cases e

theorem len_mono (hs : h.sub h2) {t : TypeId} {x : AV} {n : Nat} (e : lenOp E h t x = some n) : lenOp E h2 t x = some n := by
  unfold lenOp at e ⊢
  simp only [Option.bind_eq_some_iff] at e ⊢
  obtain ⟨i, hi, e⟩ := e
  refine ⟨i, hi, ?_⟩
  split at e
  all_goals first
    | exact e
    | (cases e; done)
    | (simp only [Option.bind_eq_some_iff] at e ⊢
       obtain ⟨es, hes, e⟩ := e
       exact ⟨es, hs.map hes, e⟩)

theorem convert_mono (hs : h.sub h2) {s d : TypeId} {x : AV} {r : AV × H} (e : Kal.convert E h s d x = some r) : Kal.convert E h2 s d x = some (r.1, h2) := by
  unfold Kal.convert at e ⊢
  simp only [Option.bind_eq_some_iff] at e ⊢
  obtain ⟨i, hi, j, hj, e⟩ := e
  refine ⟨i, hi, j, hj, ?_⟩
  split at e
  · cases e; rfl
  · cases e; rfl
  · cases e; rfl
  · simp only [Option.bind_eq_some_iff] at e ⊢
    obtain ⟨ti, hti, c, hc, e⟩ := e
    refine ⟨ti, hti, c, hs.cells hc, ?_⟩
    split at e
    · rename_i hq; cases e; rw [if_pos hq]
    · cases e
  · simp only [Option.bind_eq_some_iff] at e ⊢
    obtain ⟨ti, hti, c, hc, e⟩ := e
    refine ⟨ti, hti, c, hs.cells hc, ?_⟩
    split at e
    · rename_i hq; cases e; rw [if_pos hq]
    · cases e
  · simp only [Option.bind_eq_some_iff] at e ⊢
    obtain ⟨ei, hei, e⟩ := e
    refine ⟨ei, hei, ?_⟩
    split at e
    · cases e; rfl
    · cases e; rfl
    · cases e
  · simp only [Option.bind_eq_some_iff] at e ⊢
    obtain ⟨ei, hei, e⟩ := e
    refine ⟨ei, hei, ?_⟩
    split at e
    · simp only [Option.bind_eq_some_iff] at e ⊢
      obtain ⟨c, hc, bs, hbs, e⟩ := e
      refine ⟨c, hs.cells hc, bs, hbs, ?_⟩
      split at e
      · rename_i hq; cases e; rw [if_pos hq]
      · cases e
    · cases e
  · simp only [Option.bind_eq_some_iff] at e ⊢
    obtain ⟨ei, hei, e⟩ := e
    refine ⟨ei, hei, ?_⟩
    split at e
    · simp only [Option.bind_eq_some_iff, Option.some.injEq] at e ⊢
      obtain ⟨bs, hbs, rfl⟩ := e
      exact ⟨bs, hbs, rfl⟩
    · cases e
  · cases e
end
end Go.Kal
end

section
namespace Go.Kal
open Go

/-- does it look into memory, and lays nothing? -/
def readsOp (o : Oper) : Bool :=
  match o.op with
  | .load .. | .convert .. | .slice .. | .lookup .. | .entry .. => true
  | .call c => match c.callee with
    | .builtin .len => true
    | _ => false
  | _ => false
def isRange (o : Oper) : Bool := match o.op with | .range .. => true | _ => false

def madeIn (h2 : H) (id : Nat) : Option Obj → H
  | none => h2
  | some ob => (h2.new (some id) ob).2

section
variable {E : Env} {h h2 : H} {fr : T AV} {id : Nat}

/-- **A READER**: the same in every larger heap. -/
theorem reader_mono {wide : Bool} {x : Option Nat} {o : Oper} (hr : readsOp o = true) {r : AV × H} (e : plain E wide x fr h o = some r) :
    r.2 = h ∧ ∀ h2, h.sub h2 → ∀ wide' x', plain E wide' x' fr h2 o = some (r.1, h2) := by
  obtain ⟨dst, op, ty, pos, after, guard⟩ := o
  cases op <;> simp only [readsOp] at hr <;> try (cases hr; done)
  case load t a =>
    simp only [plain, Option.bind_eq_some_iff, Option.some.injEq] at e ⊢
    obtain ⟨u, hu, v, hv, rfl⟩ := e
    exact ⟨rfl, fun h2 hs _ _ => ⟨u, hu, v, load_mono hs hv, rfl⟩⟩
  case convert s d y =>
    simp only [plain, Option.bind_eq_some_iff] at e ⊢
    obtain ⟨u, hu, e⟩ := e
    have h1 := convert_mono (h := h) (h2 := h) (fun _ _ q => q) e
    rw [e] at h1
    refine ⟨by have := congrArg (·.map (·.2)) h1; simpa using this, fun h2 hs _ _ => ⟨u, hu, convert_mono hs e⟩⟩
  case slice t y lo hi mx =>
    cases mx with
    | some _ => simp [plain] at e
    | none =>
      simp only [plain, Option.bind_eq_some_iff, Option.some.injEq] at e ⊢
      obtain ⟨u, hu, l, hl, v, hv, rfl⟩ := e
      exact ⟨rfl, fun h2 hs _ _ => ⟨u, hu, l, hl, v, slice_mono hs hv, rfl⟩⟩
  case lookup t y i ok =>
    simp only [plain, Option.bind_eq_some_iff, Option.some.injEq] at e ⊢
    obtain ⟨u, hu, l, hl, v, hv, rfl⟩ := e
    exact ⟨rfl, fun h2 hs _ _ => ⟨u, hu, l, hl, v, lookup_mono hs hv, rfl⟩⟩
  case entry it =>
    simp only [plain, Option.bind_eq_some_iff] at e ⊢
    obtain ⟨u, hu, e⟩ := e
    split at e
    · simp only [Option.bind_eq_some_iff] at e
      obtain ⟨ob, hob, e⟩ := e
      split at e
      · simp only [Option.bind_eq_some_iff] at e
        obtain ⟨es, hes, e⟩ := e
        split at e
        · cases e
          exact ⟨rfl, fun h2 hs _ _ => ⟨_, hu, by simp only [Option.bind_eq_some_iff]; exact ⟨_, hs _ _ hob, by simp only [Option.bind_eq_some_iff]; exact ⟨_, hs.map hes, rfl⟩⟩⟩⟩
        · cases e
      · cases e
    · cases e
  case call c =>
    obtain ⟨callee, args, ats⟩ := c
    cases callee <;> simp only [] at hr <;> try (cases hr; done)
    rename_i b
    cases b <;> simp only [] at hr <;> try (cases hr; done)
    simp only [plain, Option.bind_eq_some_iff] at e ⊢
    obtain ⟨as, has, e⟩ := e
    generalize ats.toList = ts at e ⊢
    rcases ts with _ | ⟨t, ts⟩
    · simp [builtin] at e
    · rcases as with _ | ⟨y, _ | ⟨z, as⟩⟩
      · simp [builtin] at e
      · simp only [builtin, Option.bind_eq_some_iff, Option.some.injEq] at e ⊢
        obtain ⟨n, hn, rfl⟩ := e
        exact ⟨rfl, fun h2 hs _ _ => ⟨_, has, by simp only [builtin, len_mono hs hn, Option.bind_some]⟩⟩
      · simp [builtin] at e

theorem keep1 {r : AV × H} {f : H → Option (AV × H)} (hf : ∃ v, (∀ h', f h' = some (v, h'))) (e : f h = some r) {p : H → Prop} :
    ∃ mo, r.2 = madeIn h id mo ∧ (∀ h2, p h2 → f h2 = some (r.1, madeIn h2 id mo)) ∧ (mo = none → ∀ (_ : Option Nat) h2, f h2 = some (r.1, h2)) := by
  obtain ⟨v, hv⟩ := hf
  rw [hv] at e
  cases e
  exact ⟨none, rfl, fun h2 _ => hv h2, fun _ _ h2 => hv h2⟩

/-- **WHAT MAKES SOMETHING, OR ONLY RECKONS**: the same in every heap (a range: in every larger one). -/
theorem maker_mono {wide : Bool} {o : Oper} (hna : actOp o = false) (hnr : readsOp o = false) {r : AV × H} (e : plain E wide (some id) fr h o = some r) :
    ∃ mo, r.2 = madeIn h id mo ∧ (∀ h2, (isRange o = false ∨ h.sub h2) → plain E wide (some id) fr h2 o = some (r.1, madeIn h2 id mo)) ∧ (mo = none → ∀ x h2, plain E wide x fr h2 o = some (r.1, h2)) := by
  obtain ⟨dst, op, ty, pos, after, guard⟩ := o
  cases op <;> simp only [readsOp] at hnr <;> simp only [actOp] at hna <;> try (first | (cases hnr; done) | (cases hna; done) | (simp [plain] at e; done))
  case move y =>
    simp only [plain, Option.bind_eq_some_iff, Option.some.injEq] at e ⊢
    obtain ⟨v, hv, rfl⟩ := e
    exact ⟨none, rfl, fun h2 _ => ⟨v, hv, rfl⟩, fun _ x h2 => ⟨v, hv, rfl⟩⟩
  case assign y =>
    simp only [plain, Option.bind_eq_some_iff, Option.some.injEq] at e ⊢
    obtain ⟨v, hv, rfl⟩ := e
    exact ⟨none, rfl, fun h2 _ => ⟨v, hv, rfl⟩, fun _ x h2 => ⟨v, hv, rfl⟩⟩
  case pick c a b =>
    simp only [plain, Option.bind_eq_some_iff] at e ⊢
    obtain ⟨u, hu, e⟩ := e
    split at e
    · simp only [Option.bind_eq_some_iff, Option.some.injEq] at e
      obtain ⟨v, hv, rfl⟩ := e
      exact ⟨none, rfl, fun h2 _ => ⟨_, hu, by simp only [Option.bind_eq_some_iff, Option.some.injEq]; exact ⟨v, hv, rfl⟩⟩, fun _ x h2 => ⟨_, hu, by simp only [Option.bind_eq_some_iff, Option.some.injEq]; exact ⟨v, hv, rfl⟩⟩⟩
    · cases e
  case alloc t =>
    simp only [plain, Option.bind_eq_some_iff, Option.some.injEq] at e ⊢
    obtain ⟨i, hi, rfl⟩ := e
    exact ⟨some _, rfl, fun h2 _ => ⟨i, hi, rfl⟩, fun q => by cases q⟩
  case box t y =>
    simp only [plain, Option.bind_eq_some_iff, Option.some.injEq] at e ⊢
    obtain ⟨i, hi, rfl⟩ := e
    exact ⟨some _, rfl, fun h2 _ => ⟨i, hi, rfl⟩, fun q => by cases q⟩
  case build t ps =>
    simp only [plain, Option.bind_eq_some_iff, Option.some.injEq] at e ⊢
    obtain ⟨i, hi, v, hv, rfl⟩ := e
    exact ⟨none, rfl, fun h2 _ => ⟨i, hi, v, hv, rfl⟩, fun _ x h2 => ⟨i, hi, v, hv, rfl⟩⟩
  case buildSlice t len ps =>
    simp only [plain, Option.bind_eq_some_iff] at e ⊢
    obtain ⟨ti, hti, e⟩ := e
    split at e
    · rename_i el hd
      simp only [Option.bind_eq_some_iff] at e
      obtain ⟨ei, hei, ps', hps, e⟩ := e
      split at e
      · rename_i hq
        simp only [Option.bind_eq_some_iff] at e
        obtain ⟨es, hes, e⟩ := e
        cases wide
        · cases e
          exact ⟨some _, rfl, fun h2 _ => ⟨ti, hti, by rw [hd]; simp only [Option.bind_eq_some_iff]; exact ⟨ei, hei, ps', hps, by rw [if_pos hq]; simp only [Option.bind_eq_some_iff]; exact ⟨es, hes, rfl⟩⟩⟩, fun q => by cases q⟩
        · cases e
          exact ⟨some _, rfl, fun h2 _ => ⟨ti, hti, by rw [hd]; simp only [Option.bind_eq_some_iff]; exact ⟨ei, hei, ps', hps, by rw [if_pos hq]; simp only [Option.bind_eq_some_iff]; exact ⟨es, hes, rfl⟩⟩⟩, fun q => by cases q⟩
      · cases e
    · cases e
  case nilCheck y =>
    simp only [plain, Option.bind_eq_some_iff, Option.some.injEq] at e ⊢
    obtain ⟨i, hi, v, hv, rfl⟩ := e
    exact ⟨none, rfl, fun h2 _ => ⟨i, hi, v, hv, rfl⟩, fun _ x h2 => ⟨i, hi, v, hv, rfl⟩⟩
  case binOp =>
    simp only [plain, Option.bind_eq_some_iff, Option.some.injEq] at e ⊢
    obtain ⟨i, hi, j, hj, v, hv, rfl⟩ := e
    exact ⟨none, rfl, fun h2 _ => ⟨i, hi, j, hj, v, hv, rfl⟩, fun _ x h2 => ⟨i, hi, j, hj, v, hv, rfl⟩⟩
  case unOp =>
    simp only [plain, Option.bind_eq_some_iff, Option.some.injEq] at e ⊢
    obtain ⟨i, hi, v, hv, rfl⟩ := e
    exact ⟨none, rfl, fun h2 _ => ⟨i, hi, v, hv, rfl⟩, fun _ x h2 => ⟨i, hi, v, hv, rfl⟩⟩
  case makeInterface t y =>
    simp only [plain, Option.bind_eq_some_iff] at e ⊢
    obtain ⟨u, hu, i, hi, e⟩ := e
    split at e
    · cases e
    · rename_i hn
      cases e
      refine ⟨none, rfl, fun h2 _ => ⟨u, hu, i, hi, ?_⟩, fun _ x h2 => ⟨u, hu, i, hi, ?_⟩⟩ <;> skip
      all_goals cases hd : i.desc <;> first | rfl | exact absurd hd (hn _)
  case makeFunc f a b =>
    simp only [plain, Option.bind_eq_some_iff] at e ⊢
    obtain ⟨u, hu, v, hv, e⟩ := e
    split at e
    · cases e
    · rename_i hn
      cases e
      refine ⟨none, rfl, fun h2 _ => ⟨u, hu, v, hv, ?_⟩, fun _ x h2 => ⟨u, hu, v, hv, ?_⟩⟩ <;> skip
      all_goals cases f <;> first | rfl | exact absurd rfl (hn _)
  case makeMap t c =>
    simp only [plain] at e ⊢
    cases c with
    | none => cases e; exact ⟨some _, rfl, fun h2 _ => rfl, fun q => by cases q⟩
    | some _ => cases e
  case makeSlice t l c =>
    simp only [plain, Option.bind_eq_some_iff] at e ⊢
    obtain ⟨ti, hti, e⟩ := e
    split at e
    · rename_i el hd
      simp only [Option.bind_eq_some_iff] at e
      obtain ⟨ei, hei, l1, hl, c1, hc, l', hl', c', hc', e⟩ := e
      split at e
      · rename_i hq
        cases e
        exact ⟨some _, rfl, fun h2 _ => ⟨ti, hti, by rw [hd]; simp only [Option.bind_eq_some_iff]; exact ⟨ei, hei, l1, hl, c1, hc, l', hl', c', hc', by rw [if_pos hq]; rfl⟩⟩, fun q => by cases q⟩
      · cases e
    · cases e
  case fieldAddr =>
    simp only [plain, Option.bind_eq_some_iff, Option.some.injEq] at e ⊢
    obtain ⟨i, hi, v, hv, rfl⟩ := e
    exact ⟨none, rfl, fun h2 _ => ⟨i, hi, v, hv, rfl⟩, fun _ x h2 => ⟨i, hi, v, hv, rfl⟩⟩
  case field t y f =>
    simp only [plain, Option.bind_eq_some_iff] at e ⊢
    obtain ⟨u, hu, ti, hti, e⟩ := e
    split at e
    · rename_i fs cs hd
      simp only [Option.bind_eq_some_iff, Option.some.injEq] at e
      obtain ⟨fd, hfd, fi, hfi, v, hv, rfl⟩ := e
      exact ⟨none, rfl, fun h2 _ => ⟨_, hu, ti, hti, by rw [hd]; simp only [Option.bind_eq_some_iff, Option.some.injEq]; exact ⟨fd, hfd, fi, hfi, v, hv, rfl⟩⟩, fun _ x h2 => ⟨_, hu, ti, hti, by rw [hd]; simp only [Option.bind_eq_some_iff, Option.some.injEq]; exact ⟨fd, hfd, fi, hfi, v, hv, rfl⟩⟩⟩
    · cases e
  case indexAddr =>
    simp only [plain, Option.bind_eq_some_iff, Option.some.injEq] at e ⊢
    obtain ⟨i, hi, j, hj, v, hv, rfl⟩ := e
    exact ⟨none, rfl, fun h2 _ => ⟨i, hi, j, hj, v, hv, rfl⟩, fun _ x h2 => ⟨i, hi, j, hj, v, hv, rfl⟩⟩
  case index =>
    simp only [plain, Option.bind_eq_some_iff, Option.some.injEq] at e ⊢
    obtain ⟨i, hi, j, hj, v, hv, rfl⟩ := e
    exact ⟨none, rfl, fun h2 _ => ⟨i, hi, j, hj, v, hv, rfl⟩, fun _ x h2 => ⟨i, hi, j, hj, v, hv, rfl⟩⟩
  case range t y =>
    simp only [plain, Option.bind_eq_some_iff] at e ⊢
    obtain ⟨u, hu, ti, hti, e⟩ := e
    split at e
    · rename_i s hd
      cases e
      exact ⟨some _, rfl, fun h2 _ => ⟨_, hu, ti, hti, by rw [hd]; rfl⟩, fun q => by cases q⟩
    · rename_i kt el m hd
      simp only [Option.bind_eq_some_iff] at e
      obtain ⟨es, hes, e⟩ := e
      split at e
      · rename_i hle
        cases e
        exact ⟨some _, rfl, fun h2 hs => ⟨_, hu, ti, hti, by rw [hd]; simp only [Option.bind_eq_some_iff]; exact ⟨es, (hs.resolve_left (by simp [isRange])).map hes, by rw [if_pos hle]; rfl⟩⟩, fun q => by cases q⟩
      · cases e
    · cases e
  case typeAssert y s t ok =>
    have key : ∃ v, ∀ x h', plain E wide x fr h' ⟨dst, .typeAssert y s t ok, ty, pos, after, guard⟩ = some (v, h') := by
     simp only [plain] at e ⊢
     simp only [Option.bind_eq_some_iff] at e
     obtain ⟨u, hu, i, hi, e⟩ := e
     rw [hu, hi]
     simp only [Option.bind_some]
     by_cases hin : ∃ m, i.desc = .interface m
     · obtain ⟨m, hm⟩ := hin
       rw [hm] at e
       cases e
     · have hno : ∀ m, i.desc = .interface m → False := fun m hm => hin ⟨m, hm⟩
       cases u with
       | nili =>
         cases hd : i.desc <;> rw [hd] at e hno <;> first
           | exact (hno _ rfl).elim
           | (simp only at e ⊢
              split at e
              · rename_i hok
                exact ⟨_, fun x h' => by rw [if_pos hok]⟩
              · cases e)
       | ifc t1 v1 =>
         cases hd : i.desc <;> rw [hd] at e hno <;> first
           | exact (hno _ rfl).elim
           | (simp only at e ⊢
              split at e
              · rename_i hq
                exact ⟨_, fun x h' => by rw [if_pos hq]⟩
              · rename_i hq
                split at e
                · rename_i hok
                  exact ⟨_, fun x h' => by rw [if_neg hq, if_pos hok]⟩
                · cases e)
       | _ =>
         cases hd : i.desc <;> rw [hd] at e hno <;> first
           | exact (hno _ rfl).elim
           | (simp only at e; cases e)
    obtain ⟨v, hv⟩ := key
    rw [hv] at e
    cases e
    exact ⟨none, rfl, fun h2 _ => hv _ h2, fun _ x h2 => hv x h2⟩
  case extract t i =>
    simp only [plain, Option.bind_eq_some_iff] at e ⊢
    obtain ⟨u, hu, e⟩ := e
    split at e
    · simp only [Option.bind_eq_some_iff, Option.some.injEq] at e
      obtain ⟨v, hv, rfl⟩ := e
      exact ⟨none, rfl, fun h2 _ => ⟨_, hu, by simp only [Option.bind_eq_some_iff, Option.some.injEq]; exact ⟨v, hv, rfl⟩⟩, fun _ x h2 => ⟨_, hu, by simp only [Option.bind_eq_some_iff, Option.some.injEq]; exact ⟨v, hv, rfl⟩⟩⟩
    · cases e
  case call c =>
    obtain ⟨callee, args, ats⟩ := c
    cases callee <;> simp only [] at hna hnr <;> try (first | (cases hnr; done) | (cases hna; done))
    rename_i b
    simp only [plain, Option.bind_eq_some_iff] at e ⊢
    obtain ⟨as, has, e⟩ := e
    have : ∃ v, ∀ h', builtin E wide h' b ats.toList as = some (v, h') := by
      generalize ats.toList = ts at e ⊢
      cases b <;> simp only [actB] at hna <;> try (first | (cases hna; done) | (simp only [] at hnr; cases hnr; done))
      all_goals
        unfold builtin at e ⊢
        split at e <;> first
          | contradiction
          | (cases e; done)
          | (simp only [Option.bind_eq_some_iff, Option.some.injEq] at e ⊢
             obtain ⟨v, hv, rfl⟩ := e
             exact ⟨v, fun h' => ⟨v, hv, rfl⟩⟩)
          | (cases e; exact ⟨_, fun h' => rfl⟩)
          | (split at e
             · cases e
             · rename_i hq
               cases e
               exact ⟨_, fun h' => by rw [if_neg hq]⟩)
          | skip
    obtain ⟨v, hv⟩ := this
    rw [hv] at e
    cases e
    exact ⟨none, rfl, fun h2 _ => ⟨as, has, hv h2⟩, fun _ x h2 => ⟨as, has, hv h2⟩⟩
end

/-- frames that agree on an operation's operands -/
theorem optAll_congr {α β : Type} {f g : α → Option β} : ∀ {l : List α}, (∀ x ∈ l, f x = g x) → optAll f l = optAll g l
  | [], _ => rfl
  | a :: l, h => by
    simp only [optAll]
    rw [h a (by simp), optAll_congr fun x hx => h x (by simp [hx])]

theorem plain_congr {E : Env} {wide : Bool} {x : Option Nat} {fr fr' : T AV} {h : H} {o : Oper} (hc : ∀ y ∈ o.op.operands, ev E fr y = ev E fr' y) : plain E wide x fr h o = plain E wide x fr' h o := by
  obtain ⟨dst, op, ty, pos, after, guard⟩ := o
  cases op <;> simp only [Op.operands] at hc <;> simp only [plain]
  case build t ps =>
    rw [optAll_congr (g := fun p => (ev E fr' p.2).bind fun v => some (p.1, v)) fun p hp => by rw [hc p.2 (by simp; exact ⟨p.1, by simpa using hp⟩)]]
  case buildSlice t n ps =>
    rw [optAll_congr (g := fun p => (ev E fr' p.2).bind fun v => some (p.1, v)) fun p hp => by rw [hc p.2 (by simp; exact ⟨p.1, by simpa using hp⟩)]]
  case makeFunc f a b =>
    rw [optAll_congr (l := a.toList) (g := ev E fr') fun y hy => hc y (by simp; exact .inl (by simpa using hy)), optAll_congr (l := b.toList) (g := ev E fr') fun y hy => hc y (by simp; exact .inr (by simpa using hy))]
  case call c =>
    cases hcal : c.callee <;> simp only []
    rw [optAll_congr (g := ev E fr') fun y hy => hc y (by simp [Call.operands]; exact .inr (by simpa using hy))]
  case slice t y lo hi mx => cases lo <;> cases hi <;> cases mx <;> simp_all [bound]
  all_goals (first | rfl | (simp_all; done))

theorem oneOp_congr {E : Env} {cv : Cv} {wide : Bool} {rd x : Option Nat} {fr fr' : T AV} {h : H} {o : Oper} (hc : ∀ y ∈ o.op.operands, ev E fr y = ev E fr' y) : oneOp E cv wide rd x fr h o = oneOp E cv wide rd x fr' h o := by
  have hp := plain_congr (wide := wide) (x := x) (h := h) hc
  unfold oneOp
  rw [hp]
  split
  · rename_i c ho
    rw [ho] at hc
    simp only [Op.operands, Call.operands] at hc
    split
    · rename_i g hg
      rw [hg] at hc
      rw [hc g (by simp), optAll_congr (g := ev E fr') fun y hy => hc y (by simp; exact .inr (by simpa using hy))]
    · rfl
    · rfl
  · rename_i y ho
    rw [ho] at hc
    rw [hc y (by simp [Op.operands])]
  · rfl

/-- what acts has its place by itself -/
theorem plain_act {E : Env} {wide : Bool} {x y : Option Nat} {fr : T AV} {h : H} {o : Oper} (ha : actOp o = true) : plain E wide x fr h o = plain E wide y fr h o := by
  obtain ⟨dst, op, ty, pos, after, guard⟩ := o
  cases op <;> simp only [actOp] at ha <;> first | (cases ha; done) | rfl

theorem oneOp_act {E : Env} {cv : Cv} {wide : Bool} {rd x y : Option Nat} {fr : T AV} {h : H} {o : Oper} (ha : actOp o = true) : oneOp E cv wide rd x fr h o = oneOp E cv wide rd y fr h o := by
  unfold oneOp
  rw [plain_act (x := x) (y := y) ha]

/-- an operation that acts on nothing is one that calls nothing -/
theorem oneOp_still {E : Env} {cv : Cv} {wide : Bool} {rd x : Option Nat} {fr : T AV} {h : H} {o : Oper} (ha : actOp o = false) : oneOp E cv wide rd x fr h o = (plain E wide x fr h o).bind fun r => some (.val r.1, r.2) := by
  obtain ⟨dst, op, ty, pos, after, guard⟩ := o
  cases op <;> simp only [actOp] at ha <;> try (cases ha; done)
  case call c =>
    cases hc : c.callee with
    | value g => rw [hc] at ha; cases ha
    | invoke r m => rw [hc] at ha; cases ha
    | builtin b =>
      rw [hc] at ha
      cases b <;> simp only [actB] at ha <;> first | (cases ha; done) | (simp only [oneOp, hc])
  all_goals rfl
end Go.Kal
end
