/-
The tables are right; equations for walks.
-/
import Derived.Test.YtacoaajilnpeiaaGreatDoorKd
import Derived.Test.YtacoaajilnpeiaaGreatDoorSa
import Derived.KernelRfl
import Derived.Lib.Bytealg
import Derived.Laws.Externs
import Derived.Test.YtacoaajilnpeiaaGreatDoorKf

set_option linter.unusedVariables false
set_option linter.unusedSimpArgs false

section
namespace Go.Kal
open Go

section
variable {E : Env} {cv : Cv} {N f nt : Nat} {rd : Option Nat} {wide : Bool} {ops : Array Oper}

/- combinators without binders -/
def seqR (E : Env) (cv : Cv) (N f nt : Nat) (rd : Option Nat) (r : Option (Ex × St)) (b : Code) : Option (Ex × St) := r.bind fun r => match r.1 with
  | .normal => exec E cv N f nt rd b r.2
  | _ => some r
theorem exec_seq {a b : Code} {s : St} : exec E cv N f nt rd (.seq a b) s = seqR E cv N f nt rd (exec E cv N f nt rd a s) b := by rw [exec]; rfl
theorem seqR_normal {b : Code} {s : St} : seqR E cv N f nt rd (some (.normal, s)) b = exec E cv N f nt rd b s := rfl
theorem seqR_ret {b : Code} {s : St} : seqR E cv N f nt rd (some (.ret, s)) b = some (.ret, s) := rfl
theorem seqR_exit {b : Code} {i : Nat} {s : St} : seqR E cv N f nt rd (some (.exit i, s)) b = some (.exit i, s) := rfl
theorem seqR_panic {b : Code} {v : AV} {s : St} : seqR E cv N f nt rd (some (.panic v, s)) b = some (.panic v, s) := rfl
theorem seqR_none {b : Code} : seqR E cv N f nt rd none b = none := rfl
theorem seqR_ite {p : Prop} [Decidable p] {x y : Option (Ex × St)} {b : Code} : seqR E cv N f nt rd (if p then x else y) b = if p then seqR E cv N f nt rd x b else seqR E cv N f nt rd y b := by split <;> rfl

def blockR (id : Nat) (r : Option (Ex × St)) : Option (Ex × St) := r.bind fun r => some (blockEx id r.1, r.2)
theorem exec_block {id : Nat} {b : Code} {s : St} : exec E cv N f nt rd (.block id b) s = blockR id (exec E cv N f nt rd b s) := by rw [exec]; rfl
theorem blockR_normal {id : Nat} {s : St} : blockR id (some (.normal, s)) = some (.normal, s) := rfl
theorem blockR_ret {id : Nat} {s : St} : blockR id (some (.ret, s)) = some (.ret, s) := rfl
theorem blockR_exit {id j : Nat} {s : St} : blockR id (some (.exit j, s)) = if j = id then some (.normal, s) else some (.exit j, s) := by
  simp only [blockR, Option.bind_some, blockEx]; split <;> rfl
theorem blockR_panic {id : Nat} {v : AV} {s : St} : blockR id (some (.panic v, s)) = some (.panic v, s) := rfl
theorem blockR_none {id : Nat} : blockR id none = none := rfl
theorem blockR_ite {id : Nat} {p : Prop} [Decidable p] {x y : Option (Ex × St)} : blockR id (if p then x else y) = if p then blockR id x else blockR id y := by split <;> rfl

theorem exec_skip {s : St} : exec E cv N f nt rd .skip s = some (.normal, s) := by rw [exec]
theorem exec_exit {id : Nat} {s : St} : exec E cv N f nt rd (.exit id) s = some (.exit id, s) := by rw [exec]
theorem exec_ret {s : St} : exec E cv N f nt rd .ret s = some (.ret, s) := by rw [exec]
theorem exec_loop {b : Code} {s : St} : exec E cv N f nt rd (.loop b) s = loopN (exec E cv N f nt rd b) N s := by rw [exec]
theorem exec_region {id : Nat} {ops : Array Oper} {s : St} : exec E cv N f nt rd (.region id ops false) s = opList E cv (E.wide f) rd nt ops ops.toList s := by rw [exec]; rfl

def condR (E : Env) (cv : Cv) (N f nt : Nat) (rd : Option Nat) (v : Option AV) (a b : Code) (s : St) : Option (Ex × St) := v.bind fun v => match v with
  | .bool t => if t then exec E cv N f nt rd a s else exec E cv N f nt rd b s
  | _ => none
theorem exec_cond {c : Operand} {a b : Code} {s : St} : exec E cv N f nt rd (.cond c a b) s = condR E cv N f nt rd (ev E s.fr c) a b s := by rw [exec]; rfl
theorem condR_bool {t : Bool} {a b : Code} {s : St} : condR E cv N f nt rd (some (.bool t)) a b s = if t = true then exec E cv N f nt rd a s else exec E cv N f nt rd b s := rfl

def drawR (E : Env) (f id : Nat) (ops : Array Oper) (ds : List Df) (r : Option (T AV × H × List Tr)) : Option (Ex × St) := r.bind fun r =>
  if (E.inc f id).all (sameRead E ops r.2.2) then some (.normal, ⟨r.1, r.2.1, ds⟩) else none
theorem exec_draw {id : Nat} {ops : Array Oper} {fr : T AV} {h : H} {ds : List Df} : exec E cv N f nt rd (.region id ops true) ⟨fr, h, ds⟩ = drawR E f id ops ds (drawList E cv (E.wide f) rd nt ops h.next 0 ops.toList fr ⟨h.next + ops.size, h.objs⟩ []) := by rw [exec]; rfl
theorem drawR_some {id : Nat} {ds : List Df} {fr : T AV} {h : H} {tr : List Tr} : drawR E f id ops ds (some (fr, h, tr)) = if (E.inc f id).all (sameRead E ops tr) then some (.normal, ⟨fr, h, ds⟩) else none := rfl

/- operations -/
def stepR (E : Env) (cv : Cv) (wide : Bool) (rd : Option Nat) (nt : Nat) (ops : Array Oper) (r : Option (CR × H)) (d : Option Nat) (os : List Oper) (fr : T AV) (ds : List Df) : Option (Ex × St) := r.bind fun r => match r.1 with
  | .val v => (putDst nt fr d v).bind fun fr => opList E cv wide rd nt ops os ⟨fr, r.2, ds⟩
  | .pan v => some (.panic v, ⟨fr, r.2, ds⟩)
def isDef : Op → Bool
  | .defer _ => true
  | _ => false
theorem isDef_move : ∀ x, isDef (.move x) = false := fun _ => rfl
theorem isDef_assign : ∀ x, isDef (.assign x) = false := fun _ => rfl
theorem isDef_pick : ∀ a b c, isDef (.pick a b c) = false := fun _ _ _ => rfl
theorem isDef_alloc : ∀ a, isDef (.alloc a) = false := fun _ => rfl
theorem isDef_box : ∀ a b, isDef (.box a b) = false := fun _ _ => rfl
theorem isDef_build : ∀ a b, isDef (.build a b) = false := fun _ _ => rfl
theorem isDef_buildSlice : ∀ a b c, isDef (.buildSlice a b c) = false := fun _ _ _ => rfl
theorem isDef_load : ∀ a b, isDef (.load a b) = false := fun _ _ => rfl
theorem isDef_store : ∀ a b c, isDef (.store a b c) = false := fun _ _ _ => rfl
theorem isDef_nilCheck : ∀ a, isDef (.nilCheck a) = false := fun _ => rfl
theorem isDef_binOp : ∀ a b c d e, isDef (.binOp a b c d e) = false := fun _ _ _ _ _ => rfl
theorem isDef_unOp : ∀ a b c, isDef (.unOp a b c) = false := fun _ _ _ => rfl
theorem isDef_convert : ∀ a b c, isDef (.convert a b c) = false := fun _ _ _ => rfl
theorem isDef_makeInterface : ∀ a b, isDef (.makeInterface a b) = false := fun _ _ => rfl
theorem isDef_makeFunc : ∀ a b c, isDef (.makeFunc a b c) = false := fun _ _ _ => rfl
theorem isDef_makeMap : ∀ a b, isDef (.makeMap a b) = false := fun _ _ => rfl
theorem isDef_makeSlice : ∀ a b c, isDef (.makeSlice a b c) = false := fun _ _ _ => rfl
theorem isDef_slice : ∀ a b c d e, isDef (.slice a b c d e) = false := fun _ _ _ _ _ => rfl
theorem isDef_fieldAddr : ∀ a b c, isDef (.fieldAddr a b c) = false := fun _ _ _ => rfl
theorem isDef_field : ∀ a b c, isDef (.field a b c) = false := fun _ _ _ => rfl
theorem isDef_indexAddr : ∀ a b c, isDef (.indexAddr a b c) = false := fun _ _ _ => rfl
theorem isDef_index : ∀ a b c, isDef (.index a b c) = false := fun _ _ _ => rfl
theorem isDef_lookup : ∀ a b c d, isDef (.lookup a b c d) = false := fun _ _ _ _ => rfl
theorem isDef_mapUpdate : ∀ a b c d, isDef (.mapUpdate a b c d) = false := fun _ _ _ _ => rfl
theorem isDef_insert : ∀ a b c d, isDef (.insert a b c d) = false := fun _ _ _ _ => rfl
theorem isDef_range : ∀ a b, isDef (.range a b) = false := fun _ _ => rfl
theorem isDef_next : ∀ a b, isDef (.next a b) = false := fun _ _ => rfl
theorem isDef_entry : ∀ a, isDef (.entry a) = false := fun _ => rfl
theorem isDef_typeAssert : ∀ a b c d, isDef (.typeAssert a b c d) = false := fun _ _ _ _ => rfl
theorem isDef_extract : ∀ a b, isDef (.extract a b) = false := fun _ _ => rfl
theorem isDef_call : ∀ a, isDef (.call a) = false := fun _ => rfl
theorem isDef_panic : ∀ a, isDef (.panic a) = false := fun _ => rfl
theorem opList_nil {s : St} : opList E cv wide rd nt ops [] s = some (.normal, s) := rfl
theorem opList_cons {d : Option Nat} {o : Op} {ty : TypeId} {pos : String} {af : Array Edge} {os : List Oper} {fr : T AV} {h : H} {ds : List Df} (hd : isDef o = false) :
    opList E cv wide rd nt ops (⟨d, o, ty, pos, af, none⟩ :: os) ⟨fr, h, ds⟩ = stepR E cv wide rd nt ops (oneOp E cv wide rd none fr h ⟨d, o, ty, pos, af, none⟩) d os fr ds := by
  rw [opList]
  simp only [wantedA, if_true]
  cases o <;> first | rfl | (cases hd)
theorem stepR_val {v : AV} {h : H} {d : Nat} {os : List Oper} {fr : T AV} {ds : List Df} : stepR E cv wide rd nt ops (some (.val v, h)) (some d) os fr ds = if d < nt then opList E cv wide rd nt ops os ⟨fr.set d (some v), h, ds⟩ else none := by
  simp only [stepR, Option.bind_some, putDst]
  split <;> rfl
theorem stepR_val0 {v : AV} {h : H} {os : List Oper} {fr : T AV} {ds : List Df} : stepR E cv wide rd nt ops (some (.val v, h)) none os fr ds = opList E cv wide rd nt ops os ⟨fr, h, ds⟩ := rfl
theorem stepR_pan {v : AV} {h : H} {d : Option Nat} {os : List Oper} {fr : T AV} {ds : List Df} : stepR E cv wide rd nt ops (some (.pan v, h)) d os fr ds = some (.panic v, ⟨fr, h, ds⟩) := rfl
theorem stepR_none {d : Option Nat} {os : List Oper} {fr : T AV} {ds : List Df} : stepR E cv wide rd nt ops none d os fr ds = none := rfl
theorem stepR_ite {p : Prop} [Decidable p] {x y : Option (CR × H)} {d : Option Nat} {os : List Oper} {fr : T AV} {ds : List Df} : stepR E cv wide rd nt ops (if p then x else y) d os fr ds = if p then stepR E cv wide rd nt ops x d os fr ds else stepR E cv wide rd nt ops y d os fr ds := by split <;> rfl

/-- a guard's temporary, by what the text says -/
def dstOf (ops : Array Oper) (j : Nat) : Option Nat := (ops[j]?).bind (·.dst)
def boolIs (v : AV) (w : Bool) : Bool := match v with | .bool b => b == w | _ => false
def guardR (E : Env) (cv : Cv) (wide : Bool) (rd : Option Nat) (nt : Nat) (ops : Array Oper) (g : Bool) (d : Option Nat) (o : Op) (ty : TypeId) (os : List Oper) (fr : T AV) (h : H) (ds : List Df) : Option (Ex × St) :=
  if g = true then stepR E cv wide rd nt ops (oneOp E cv wide rd none fr h ⟨d, o, ty, "", #[], none⟩) d os fr ds else stepR E cv wide rd nt ops (some (.val undefA, h)) d os fr ds
theorem oneOp_bare {at_ : Option Nat} {fr : T AV} {h : H} {d : Option Nat} {o : Op} {ty : TypeId} {pos : String} {af : Array Edge} {g : Option (Nat × Bool)} : oneOp E cv wide rd at_ fr h ⟨d, o, ty, pos, af, g⟩ = oneOp E cv wide rd at_ fr h ⟨d, o, ty, "", #[], none⟩ := by
  cases o <;> rfl
theorem opList_guard {d : Option Nat} {o : Op} {ty : TypeId} {pos : String} {af : Array Edge} {os : List Oper} {fr : T AV} {h : H} {ds : List Df} {j : Nat} {w : Bool} {t : Nat} (hd : isDef o = false) (ht : dstOf ops j = some t) :
    opList E cv wide rd nt ops (⟨d, o, ty, pos, af, some (j, w)⟩ :: os) ⟨fr, h, ds⟩ = guardR E cv wide rd nt ops (boolIs (slot fr t) w) d o ty os fr h ds := by
  have ht' : (ops[j]?).bind (·.dst) = some t := ht
  have hwant : wantedA ops fr ⟨d, o, ty, pos, af, some (j, w)⟩ = boolIs (slot fr t) w := by
    simp only [wantedA, ht']
    rfl
  have e := oneOp_bare (E := E) (cv := cv) (wide := wide) (rd := rd) (at_ := none) (fr := fr) (h := h) (d := d) (o := o) (ty := ty) (pos := pos) (af := af) (g := some (j, w))
  rw [opList, hwant, guardR]
  by_cases hb : boolIs (slot fr t) w = true
  · rw [if_pos hb, if_pos hb, ← e]
    cases o <;> first | rfl | (cases hd)
  · rw [if_neg hb, if_neg hb]
    rfl
theorem guardR_true {d : Option Nat} {o : Op} {ty : TypeId} {os : List Oper} {fr : T AV} {h : H} {ds : List Df} : guardR E cv wide rd nt ops true d o ty os fr h ds = stepR E cv wide rd nt ops (oneOp E cv wide rd none fr h ⟨d, o, ty, "", #[], none⟩) d os fr ds := rfl
theorem guardR_false {d : Option Nat} {o : Op} {ty : TypeId} {os : List Oper} {fr : T AV} {h : H} {ds : List Df} : guardR E cv wide rd nt ops false d o ty os fr h ds = stepR E cv wide rd nt ops (some (.val undefA, h)) d os fr ds := rfl

/- values -/
def valR (v : Option AV) (h : H) : Option (CR × H) := v.bind fun v => some (.val v, h)
theorem valR_some {v : AV} {h : H} : valR (some v) h = some (.val v, h) := rfl
theorem valR_none {h : H} : valR none h = none := rfl
theorem valR_ite {p : Prop} [Decidable p] {x y : Option AV} {h : H} : valR (if p then x else y) h = if p then valR x h else valR y h := by split <;> rfl
def b1 (x : Option AV) (g : AV → Option AV) : Option AV := x.bind g
def b2 (x y : Option AV) (g : AV → AV → Option AV) : Option AV := x.bind fun a => y.bind fun b => g a b
theorem b1_some {v : AV} {g : AV → Option AV} : b1 (some v) g = g v := rfl
theorem b2_some {u v : AV} {g : AV → AV → Option AV} : b2 (some u) (some v) g = g u v := rfl
section
variable {at_ : Option Nat} {fr : T AV} {h : H} {d : Option Nat} {ty : TypeId} {pos : String} {af : Array Edge} {g : Option (Nat × Bool)}
theorem one_move {x : Operand} : oneOp E cv wide rd at_ fr h ⟨d, .move x, ty, pos, af, g⟩ = valR (ev E fr x) h := by
  simp only [oneOp, plain, valR, Option.bind_assoc, Option.bind_some]
theorem one_assign {x : Operand} : oneOp E cv wide rd at_ fr h ⟨d, .assign x, ty, pos, af, g⟩ = valR (ev E fr x) h := by
  simp only [oneOp, plain, valR, Option.bind_assoc, Option.bind_some]
theorem one_bin {op : BinOp} {t u : TypeId} {x y : Operand} : oneOp E cv wide rd at_ fr h ⟨d, .binOp op t x y u, ty, pos, af, g⟩ = valR (b2 (ev E fr x) (ev E fr y) (binOp E op t x y)) h := by
  simp only [oneOp, plain, valR, b2, Option.bind_assoc, Option.bind_some]
theorem one_un {op : UnOp} {t : TypeId} {x : Operand} : oneOp E cv wide rd at_ fr h ⟨d, .unOp op t x, ty, pos, af, g⟩ = valR (b1 (ev E fr x) (unOp op)) h := by
  simp only [oneOp, plain, valR, b1, Option.bind_assoc, Option.bind_some]
def pickR (E : Env) (fr : T AV) (c : Option AV) (a b : Operand) : Option AV := c.bind fun c => match c with
  | .bool t => if t then ev E fr a else ev E fr b
  | _ => none
theorem pickR_bool {t : Bool} {a b : Operand} : pickR E fr (some (.bool t)) a b = if t = true then ev E fr a else ev E fr b := rfl
theorem one_pick {c a b : Operand} : oneOp E cv wide rd at_ fr h ⟨d, .pick c a b, ty, pos, af, g⟩ = valR (pickR E fr (ev E fr c) a b) h := by
  simp only [oneOp, plain, valR, pickR, Option.bind_assoc]
  congr 1
  funext c
  cases c <;> try rfl
  simp only [Option.bind_assoc, Option.bind_some]
theorem one_load {t : TypeId} {x : Operand} : oneOp E cv wide rd at_ fr h ⟨d, .load t x, ty, pos, af, g⟩ = valR (b1 (ev E fr x) (loadVar E h t)) h := by
  simp only [oneOp, plain, valR, b1, Option.bind_assoc, Option.bind_some]
theorem one_fieldAddr {t : TypeId} {x : Operand} {i : Nat} : oneOp E cv wide rd at_ fr h ⟨d, .fieldAddr t x i, ty, pos, af, g⟩ = valR (b1 (ev E fr x) (fun a => fieldAddr E t a i)) h := by
  simp only [oneOp, plain, valR, b1, Option.bind_assoc, Option.bind_some]
theorem one_indexAddr {t : TypeId} {x i : Operand} : oneOp E cv wide rd at_ fr h ⟨d, .indexAddr t x i, ty, pos, af, g⟩ = valR (b2 (ev E fr x) (ev E fr i) (indexAddr E t)) h := by
  simp only [oneOp, plain, valR, b2, Option.bind_assoc, Option.bind_some]
theorem one_index {t : TypeId} {x i : Operand} : oneOp E cv wide rd at_ fr h ⟨d, .index t x i, ty, pos, af, g⟩ = valR (b2 (ev E fr x) (ev E fr i) (indexOp E t)) h := by
  simp only [oneOp, plain, valR, b2, Option.bind_assoc, Option.bind_some]
def callR3 (cv : Cv) (g : Option AV) (az : Option (List AV)) (h : H) : Option (CR × H) := g.bind fun g => az.bind fun az => cv g az h
theorem one_call {x : Operand} {az : Array Operand} {ts : Array TypeId} : oneOp E cv wide rd at_ fr h ⟨d, .call ⟨.value x, az, ts⟩, ty, pos, af, g⟩ = callR3 cv (ev E fr x) (optAll (ev E fr) az.toList) h := rfl
theorem callR3_some {g : AV} {az : List AV} : callR3 cv (some g) (some az) h = cv g az h := rfl
end

theorem ev_tmp {fr : T AV} {t : Nat} : ev E fr (.tmp t) = some (slot fr t) := rfl
theorem ev_func {fr : T AV} {t : Nat} : ev E fr (.func t) = some (.fn (.func t) [] []) := rfl
theorem ev_global {fr : T AV} {t : Nat} : ev E fr (.global t) = (E.glob t).map .pv := rfl
theorem ev_int {fr : T AV} {k : IntKind} {n : Int} : ev E fr (.const (.int k n)) = some (.int k n) := rfl
theorem ev_bool {fr : T AV} {b : Bool} : ev E fr (.const (.bool b)) = some (.bool b) := rfl
theorem ev_str {fr : T AV} {l : List UInt8} : ev E fr (.const (.string ⟨⟨l⟩⟩)) = some (.str l) := rfl
theorem slot_set2 (fr : T AV) (d t : Nat) (v : AV) : slot (fr.set d (some v)) t = if t = d then v else slot fr t := by
  unfold slot
  rw [T.get_set]
  split <;> rfl
theorem optAll_nil {α β : Type} {g : α → Option β} : optAll g [] = some [] := rfl
def consO {β : Type} (a : Option β) (l : Option (List β)) : Option (List β) := a.bind fun a => l.bind fun l => some (a :: l)
theorem optAll_step {α β : Type} {g : α → Option β} {a : α} {l : List α} : optAll g (a :: l) = consO (g a) (optAll g l) := rfl
theorem consO_some {β : Type} {a : β} {l : List β} : consO (some a) (some l) = some (a :: l) := rfl

theorem bin_int {op : BinOp} {t : TypeId} {x y : Operand} {k : IntKind} {a b : Int} (h1 : op ≠ .shl) (h2 : op ≠ .shr) : binOp E op t x y (.int k a) (.int k b) = intOp op k a b := by
  cases op <;> first | exact absurd rfl h1 | exact absurd rfl h2 | simp [binOp]
theorem bin_str {op : BinOp} {t : TypeId} {x y : Operand} {a b : List UInt8} : binOp E op t x y (.str a) (.str b) = strOp op a b := rfl
end
end Go.Kal
end

section
namespace Go.Kal
open Go Go.Proofs

def T.keys {α : Type} : T α → List Nat
  | .leaf => []
  | .node l v r => (match v with | some _ => [0] | none => []) ++ l.keys.map (fun n => 2 * n + 1) ++ r.keys.map (fun n => 2 * n + 2)
theorem T.get_keys {α : Type} {a : α} : ∀ {t : T α} {n : Nat}, t.get n = some a → n ∈ t.keys
  | .leaf, n, h => by cases n <;> cases h
  | .node l v r, n, h => by
    rw [T.get] at h
    unfold T.keys
    split at h
    · rename_i h0
      subst h0 h
      simp
    · split at h
      · have := T.get_keys h
        simp only [List.mem_append, List.mem_map]
        exact .inl (.inr ⟨n / 2, this, by omega⟩)
      · have := T.get_keys h
        simp only [List.mem_append, List.mem_map]
        exact .inr ⟨n / 2 - 1, this, by omega⟩

/-- a type's row, off the program -/
def tiOf (P : Program) (t : Nat) : Option TI := (P.info? t).bind fun ti => (P.underlying t).bind fun d => ti.zero.bind fun z => (ofValue z).bind fun zv => some ⟨d, ti.size, ti.bytes, zv⟩
theorem tiOf_some {P : Program} {t : Nat} {i : TI} (h : tiOf P t = some i) : ∃ ti, P.info? t = some ti ∧ P.underlying t = some i.desc ∧ ti.size = i.size ∧ ti.bytes = i.bytes ∧ ∃ z, ti.zero = some z ∧ ofValue z = some i.zero := by
  simp only [tiOf, Option.bind_eq_some_iff, Option.some.injEq] at h
  obtain ⟨ti, h1, d, h2, z, h3, zv, h4, rfl⟩ := h
  exact ⟨ti, h1, h2, rfl, rfl, z, h3, h4⟩

theorem ty_keys : (tyT.keys.all fun n => Nat.ble n 489) = true := by kernel_rfl
theorem ty_rows : (List.range 490).map (fun t => @Option.rec TI (fun _ => Option TI) none (fun _ => tiOf Tryz.prog t) (getF tyT t)) = (List.range 490).map (getF tyT) := by kernel_rfl

theorem ty_at {I : Nat → Option (List AV → Option AV)} {t : Nat} {i : TI} (h : (mkE I).ty t = some i) : tiOf Tryz.prog t = some i := by
  have h' : getF tyT t = some i := h
  have hlt : t < 490 := by
    have := T.get_keys (getF_eq tyT t ▸ h')
    have := List.all_eq_true.1 ty_keys t this
    have := Nat.le_of_ble_eq_true this
    omega
  have := List.map_inj_left.1 ty_rows t (List.mem_range.2 hlt)
  rw [h'] at this
  exact this

/-- what is asked of each type's row -/
def tyOK (P : Program) (t : Nat) (i : TI) : Bool :=
  match i.desc with
  | .struct fs => (!plainF fs.toList 0 || (!P.stoodInHeld t && !P.eqGuardType P.depth t)) && fs.toList.all (fun f => (P.info? f.type).isSome)
  | .slice e => (P.info? e).isSome
  | .int _ | .string | .bool => match P.info? t with | some ti => ti.comparable | none => true
  | _ => true
theorem tys_ok : ((List.range 490).all fun t => match getF tyT t with | some i => tyOK Tryz.prog t i | none => true) = true := by kernel_rfl
theorem ty_ok {I : Nat → Option (List AV → Option AV)} {t : Nat} {i : TI} (h : (mkE I).ty t = some i) : tyOK Tryz.prog t i = true := by
  have h' : getF tyT t = some i := h
  have hlt : t < 490 := by
    have := T.get_keys (getF_eq tyT t ▸ h')
    have := List.all_eq_true.1 ty_keys t this
    have := Nat.le_of_ble_eq_true this
    omega
  have := List.all_eq_true.1 tys_ok t (List.mem_range.2 hlt)
  rw [h'] at this
  exact this

theorem fn_keys : (fnT.keys.all fun n => Nat.ble n 429) = true := by kernel_rfl
theorem fn_rows : (List.range 430).map (fun t => @Option.rec Func (fun _ => Option Func) none (fun _ => Tryz.prog.funcs[t]?) (getF fnT t)) = (List.range 430).map (getF fnT) := by kernel_rfl
theorem fn_at {I : Nat → Option (List AV → Option AV)} {f : Nat} {fn : Func} (h : (mkE I).fn f = some fn) : Tryz.prog.funcs[f]? = some fn ∧ f < 430 := by
  have h' : getF fnT f = some fn := h
  have hlt : f < 430 := by
    have := T.get_keys (getF_eq fnT f ▸ h')
    have := List.all_eq_true.1 fn_keys f this
    have := Nat.le_of_ble_eq_true this
    omega
  have := List.map_inj_left.1 fn_rows f (List.mem_range.2 hlt)
  rw [h'] at this
  exact ⟨this, hlt⟩

/-- code whose regions that draw are fine -/
def goodB (inc : Nat → List (Nat × Nat)) : Code → Bool
  | .region id ops draw => !draw || drawB (inc id) ops
  | .seq a b => goodB inc a && goodB inc b
  | .cond _ a b => goodB inc a && goodB inc b
  | .block _ b => goodB inc b
  | .loop b => goodB inc b
  | .rangeFunc _ _ a b => goodB inc a && goodB inc b
  | _ => true
theorem goodB_ok {E : Env} {f : Nat} : ∀ {c : Code}, goodB (E.inc f) c = true → GoodC E (fun f id ops => drawB (E.inc f id) ops = true) f c
  | .region id ops draw, h => fun hd => by
    subst hd
    simpa [goodB] using h
  | .seq a b, h => by
    simp only [goodB, Bool.and_eq_true] at h
    exact ⟨goodB_ok h.1, goodB_ok h.2⟩
  | .cond _ a b, h => by
    simp only [goodB, Bool.and_eq_true] at h
    exact ⟨goodB_ok h.1, goodB_ok h.2⟩
  | .block _ b, h => goodB_ok (c := b) h
  | .loop b, h => goodB_ok (c := b) h
  | .rangeFunc _ _ a b, h => by
    simp only [goodB, Bool.and_eq_true] at h
    exact ⟨goodB_ok h.1, goodB_ok h.2⟩
  | .skip, _ | .exit _, _ | .ret, _ | .label _, _ | .goto _, _ | .scope _, _ | .refuse _, _ => trivial
noncomputable def fnOK (f : Nat) : Bool := @Option.rec Func (fun _ => Bool) true (fun fn => !(fn.name == "runtime.NumGoroutine") && @Option.rec Code (fun _ => Bool) (f == 140 || f == 153 || f == 206) (fun c => goodB ((mkE fun _ => none).inc f) c) fn.body) (getF fnT f)
end Go.Kal
end

section
namespace Go.Kal
open Go Go.Proofs
theorem good0 : ((List.range 430).all fnOK) = true := by kernel_rfl

theorem idxB_shift (c : UInt8) : ∀ (l : List UInt8) (i : Nat), idxB c l i = if Lib.indexByte l c = -1 then -1 else (i : Int) + Lib.indexByte l c
  | [], i => by simp [idxB, Lib.indexByte]
  | b :: l, i => by
    have hge := Lib.indexByte_ge l c
    rw [idxB, Lib.indexByte]
    by_cases hb : (b == c) = true
    · simp [hb]
    · have hb' : (b == c) = false := by simpa using hb
      simp only [hb', Bool.false_eq_true, if_false]
      rw [idxB_shift c l (i + 1)]
      by_cases h1 : Lib.indexByte l c = -1
      · simp [h1]
      · have h2 : (Lib.indexByte l c == -1) = false := by simpa using h1
        simp only [h2, h1, Bool.false_eq_true, if_false]
        rw [if_neg (by omega)]
        omega
theorem idxB_eq (c : UInt8) (l : List UInt8) : idxB c l 0 = Lib.indexByte l c := by
  rw [idxB_shift]
  split
  · rename_i h; exact h.symm
  · simp

theorem body_140 : Tryz.f140.body = none := by kernel_rfl
theorem body_153 : Tryz.f153.body = none := by kernel_rfl
theorem body_206 : Tryz.f206.body = none := by kernel_rfl
theorem name_140 : Tryz.f140.name = "internal/bytealg.CountString" := by kernel_rfl
theorem name_153 : Tryz.f153.name = "internal/bytealg.IndexByteString" := by kernel_rfl
theorem name_206 : Tryz.f206.name = "internal/abi.NoEscape" := by kernel_rfl

section
variable {I : Nat → Option (List AV → Option AV)} {G J : K} {h : H} {w : World}

theorem comp_of {P : Program} {t : Nat} {i : TI} {v : AV} {ti : TypeInfo} (hok : tyOK P t i = true) (hi : P.info? t = some ti) (hf : (match i.desc, v with
    | .int j, .int l _ => decide (j = l)
    | .string, .str _ => true
    | .bool, .bool _ => true
    | _, _ => false) = true) : ti.comparable = true := by
  unfold tyOK at hok
  cases hd : i.desc <;> rw [hd] at hf hok <;> first
    | (simp only [hi] at hok; exact hok)
    | (cases v <;> cases hf)

theorem env_ok (hg : ∀ {g cs}, (mkE I).glob g = some cs → VR G (.pv cs) (.pointer (some ⟨g, 0, none⟩))) : EnvOK (mkE I) Tryz.prog G where
  ty := fun h => tiOf_some (ty_at h)
  glob := hg
  st := fun {t i fs} h hd hp => by
    have := ty_ok h
    simp only [tyOK, hd, hp, Bool.not_true, Bool.false_or, Bool.and_eq_true, Bool.not_eq_true'] at this
    exact this.1
  flds := fun {t i fs} h hd f hf => by
    have := ty_ok h
    simp only [tyOK, hd, Bool.and_eq_true, List.all_eq_true] at this
    exact Option.isSome_iff_exists.1 (this.2 f hf)
  elem := fun {t i e} h hd => by
    have := ty_ok h
    simp only [tyOK, hd] at this
    exact Option.isSome_iff_exists.1 this
  comp := fun {t v ti} hf hi => by
    unfold fits1 at hf
    split at hf
    · cases hf
    · rename_i i hty
      exact comp_of (ty_ok hty) hi hf
  byteT := by kernel_rfl
  byte1 := by kernel_rfl
  mixed := by kernel_rfl

/-- what is asked of functions that go by their contracts -/
def IntrOK (G : K) (f : Nat) (g : List AV → Option AV) : Prop :=
  ∀ {args : List AV} {args' : Array Value} {v : AV} {J : K} {h : H} {w : World}, g args = some v → LR J args args'.toList → G.le J → W J h w →
    (callFunc f args').run Tryz.prog w = .ok (.enter f args') w ∧ CallK Tryz.prog f args' .normal w (fun out w' => ∃ J', OutR J' (.val v) out ∧ W J' h w' ∧ Ext none J h w J' h w')

theorem ext_ok {f : Nat} {fn : Func} {args : List AV} {args' : Array Value} {v : AV} (hf : (mkE I).fn f = some fn) (hb : fn.body = none) (e : extern fn.name args = some v) (hl : LR J args args'.toList) :
    ∃ v', (callFunc f args').run Tryz.prog w = .ok (.value v') w ∧ VR J v v' := by
  obtain ⟨hP, hlt⟩ := fn_at hf
  have hgood := List.all_eq_true.1 good0 f (List.mem_range.2 hlt)
  have hf' : getF fnT f = some fn := hf
  simp only [fnOK, hf', hb] at hgood
  have hc : f = 140 ∨ f = 153 ∨ f = 206 := by
    simp only [Bool.and_eq_true, Bool.or_eq_true, beq_iff_eq] at hgood
    rcases hgood.2 with (q | q) | q
    · exact .inl q
    · exact .inr (.inl q)
    · exact .inr (.inr q)
  rcases hc with rfl | rfl | rfl
  · have e0 : fn = Tryz.f140 := Option.some.inj (hf'.symm.trans (by kernel_rfl))
    subst e0
    rw [name_140] at e
    simp only [extern] at e
    rw [if_neg (by decide), if_neg (by decide), if_pos trivial] at e
    split at e
    · rename_i s c
      cases e
      obtain ⟨s', c', rfl, hs, hc⟩ := args2 hl
      cases hs; cases hc
      refine ⟨_, by rw [run_callFunc_extern hP (by kernel_rfl) (by kernel_rfl) (by kernel_rfl) (e := Extern.BytealgCount.count) (by kernel_rfl), Lib.run_countString]; rfl, .int _ _⟩
    · cases e
  · have e0 : fn = Tryz.f153 := Option.some.inj (hf'.symm.trans (by kernel_rfl))
    subst e0
    rw [name_153] at e
    simp only [extern] at e
    rw [if_neg (by decide), if_pos trivial] at e
    split at e
    · rename_i s c
      cases e
      obtain ⟨s', c', rfl, hs, hc⟩ := args2 hl
      cases hs; cases hc
      refine ⟨_, by rw [run_callFunc_extern hP (by kernel_rfl) (by kernel_rfl) (by kernel_rfl) (e := Extern.BytealgIndexByte.indexByte) (by kernel_rfl), Lib.run_indexByteString]; rfl, ?_⟩
      rw [idxB_eq]
      exact .int _ _
    · cases e
  · have e0 : fn = Tryz.f206 := Option.some.inj (hf'.symm.trans (by kernel_rfl))
    subst e0
    rw [name_206] at e
    simp only [extern] at e
    rw [if_pos trivial] at e
    split at e
    · rename_i x
      cases e
      obtain ⟨x', rfl, hx⟩ := args1 (l := []) hl
      exact ⟨x', by rw [run_callFunc_extern hP (by kernel_rfl) (by kernel_rfl) (by kernel_rfl) (e := Extern.AbiNoEscape.same) (by kernel_rfl)]; rfl, hx⟩
    · cases e

abbrev RD (I : Nat → Option (List AV → Option AV)) : Nat → Nat → Array Oper → Prop := fun f id ops => drawB ((mkE I).inc f id) ops = true

theorem callEnv_ok (hobj : ∀ i, G.obj i = none) (hgood : G.good = GoodC (mkE I) (RD I)) (hI : ∀ f g, I f = some g → IntrOK G f g) : CallEnv (mkE I) Tryz.prog G (RD I) where
  fn := fun {f fn} hf => by
    obtain ⟨hP, hlt⟩ := fn_at hf
    have hg := List.all_eq_true.1 good0 f (List.mem_range.2 hlt)
    have hf' : getF fnT f = some fn := hf
    simp only [fnOK, hf', Bool.and_eq_true, Bool.not_eq_true'] at hg
    refine ⟨hP, hg.1, fun c hc => ?_⟩
    have h2 := hg.2
    rw [hc] at h2
    exact goodB_ok (E := mkE I) h2
  ext := fun hf hb e hl => ext_ok hf hb e hl
  intr := fun hi hg hl hG hW => hI _ _ hi hg hl hG hW
  gobj := hobj
  good := fun f c => by rw [hgood]

/-- **A CALL THAT WAS RECKONED IS A CONTRACT.** -/
theorem intr_of (hC : CallEnv (mkE I) Tryz.prog G (RD I)) (hE : EnvOK (mkE I) Tryz.prog G) {f : Nat} {fn : Func} {c : Code} (hfn : (mkE I).fn f = some fn) (hbody : fn.body = some c) (hint : I f = none) {N n : Nat} {g : List AV → Option AV}
    (hg : ∀ args v, g args = some v → ∀ h, callF (mkE I) (callV (mkE I) N n) N f args h = some (.val v, h)) : IntrOK G f g :=
  fun hga hl hG hW => intr_gen hC hE hfn hbody hg hga hl hG hW

/-- the same of one closed call -/
theorem callF_closed {N n f : Nat} {args : List AV} {v : AV} (h : call (mkE I) N n f args = some (.val v)) (hint : I f = none) (hhold : (mkE I).hold f = false) {fn : Func} {c : Code} (hfn : (mkE I).fn f = some fn) (hbody : fn.body = some c) (hcl : AV.closeds args = true) (h0 : H) :
    callF (mkE I) (callV (mkE I) N n) N f args h0 = some (.val v, h0) := by
  unfold call at h
  have hi : (mkE I).intr f = none := hint
  simp only [callF, hi, hfn, hbody, hcl, hhold, Option.bind_some, Bool.not_false, Bool.and_self, if_true, Option.bind_eq_some_iff, Option.some.injEq] at h ⊢
  obtain ⟨r, ⟨r1, h1, h2⟩, h3⟩ := h
  refine ⟨r1, h1, ?_⟩
  obtain ⟨q1, q2⟩ := r1
  cases q1 with
  | val u =>
    simp only [Option.bind_eq_some_iff, Option.some.injEq] at h2 ⊢
    obtain ⟨u', h4, rfl⟩ := h2
    simp only [CR.val.injEq] at h3
    subst h3
    exact ⟨u', h4, rfl⟩
  | pan u =>
    simp only [Option.bind_eq_some_iff, Option.some.injEq] at h2
    obtain ⟨u', h4, rfl⟩ := h2
    cases h3
end
end Go.Kal
end
