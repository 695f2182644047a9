/-
An interpreter of code over abstract values, and how its values stand to memory.
-/
import GoSem.Core.Machine
import GoSem.Core.Utf8
import GoSem.Core.View
import Derived.Calls
import Derived.Laws.World
import Derived.RowKit3
import Derived.Laws.Sem

set_option linter.unusedVariables false
set_option linter.unusedSimpArgs false

section
namespace Go.Kal

/-- Abstract values. 'pv': a pointer to cells that nobody writes any more. 'vl': a slice over such cells (with a token it may be appended to). 'sl', 'ptr', 'mp': what lies in the abstract heap. -/
inductive AV where
  | bool (b : Bool)
  | int (k : IntKind) (n : Int)
  | str (s : List UInt8)
  | nilp
  | ptr (id off : Nat)
  | pv (cs : List AV)
  | pel (t : Nat) (cs : List AV)
  | nils
  | vl (t : Option Nat) (es : List AV)
  | sl (sz : Nat) (ag : Bool) (id off len : Nat)
  | nilm
  | mp (id : Nat)
  | mv (es : List (AV × AV))
  | fn (f : Fn) (first captured : List AV)
  | nilf
  | ifc (t : TypeId) (v : AV)
  | nili
  | agg (cs : List AV)
  | tup (vs : List AV)
  deriving Inhabited

mutual
def AV.beq : AV → AV → Bool
  | .bool a, .bool b => a == b
  | .int j a, .int k b => decide (j = k) && a == b
  | .str a, .str b => a == b
  | .nilp, .nilp => true
  | .ptr a b, .ptr c d => a == c && b == d
  | .pv a, .pv b => AV.beqs a b
  | .pel t a, .pel u b => t == u && AV.beqs a b
  | .nils, .nils => true
  | .vl t a, .vl u b => t == u && AV.beqs a b
  | .sl e g a b c, .sl e' g' a' b' c' => e == e' && g == g' && a == a' && b == b' && c == c'
  | .nilm, .nilm => true
  | .mp a, .mp b => a == b
  | .mv a, .mv b => AV.beqp a b
  | .fn f a b, .fn g c d => decide (f = g) && AV.beqs a c && AV.beqs b d
  | .nilf, .nilf => true
  | .ifc t v, .ifc u w => t == u && AV.beq v w
  | .nili, .nili => true
  | .agg a, .agg b => AV.beqs a b
  | .tup a, .tup b => AV.beqs a b
  | _, _ => false
def AV.beqs : List AV → List AV → Bool
  | [], [] => true
  | a :: x, b :: y => AV.beq a b && AV.beqs x y
  | _, _ => false
def AV.beqp : List (AV × AV) → List (AV × AV) → Bool
  | [], [] => true
  | (a, c) :: x, (b, d) :: y => AV.beq a b && AV.beq c d && AV.beqp x y
  | _, _ => false
end

def AV.cells : AV → List AV
  | .agg cs => cs
  | v => [v]

/-- Tries over numbers. -/
inductive T (α : Type) where
  | leaf
  | node (l : T α) (v : Option α) (r : T α)
  deriving Inhabited

def T.get {α : Type} : T α → Nat → Option α
  | .leaf, _ => none
  | .node l v r, n => if n = 0 then v else if n % 2 = 1 then l.get (n / 2) else r.get (n / 2 - 1)

def T.put {α : Type} : Nat → T α → Nat → Option α → T α
  | 0, t, _, _ => t
  | k + 1, .leaf, n, a => if n = 0 then .node .leaf a .leaf else if n % 2 = 1 then .node (T.put k .leaf (n / 2) a) none .leaf else .node .leaf none (T.put k .leaf (n / 2 - 1) a)
  | k + 1, .node l v r, n, a => if n = 0 then .node l a r else if n % 2 = 1 then .node (T.put k l (n / 2) a) v r else .node l v (T.put k r (n / 2 - 1) a)

def T.set {α : Type} (t : T α) (n : Nat) (a : Option α) : T α := T.put (n + 1) t n a

/-- A type's row, as far as the interpreter asks. -/
structure TI where
  desc : TypeDesc
  size : Nat
  bytes : Nat
  zero : AV

def TI.ag (i : TI) : Bool := match i.desc with | .struct _ | .array .. => true | _ => false

inductive LS where | ready | busy | done | exhausted
  deriving DecidableEq

inductive Ex where
  | normal
  | exit (id : Nat)
  | ret
  | panic (v : AV)
  deriving Inhabited

structure Lp where
  st : LS
  pending : Ex
  fr : T AV
  params : List Nat
  assign : Code
  body : Code
  fn : Nat
  nt : Nat

inductive Obj where
  | cells (el : TypeId) (c : List AV)
  | tok (el : TypeId)
  | map (es : List (AV × AV))
  | mapIter (m : Nat) (left : Nat)
  | strIter (s : List UInt8) (pos : Nat)
  | loop (l : Lp)

structure H where
  next : Nat
  objs : T Obj

def H.empty : H := ⟨0, .leaf⟩
def H.get (h : H) (i : Nat) : Option Obj := h.objs.get i
def H.set (h : H) (i : Nat) (o : Obj) : H := ⟨h.next, h.objs.set i (some o)⟩
def H.kill (h : H) (i : Nat) : H := ⟨h.next, h.objs.set i none⟩
def H.cells? (h : H) (i : Nat) : Option (TypeId × List AV) := match h.get i with | some (.cells e c) => some (e, c) | _ => none
def H.map? (h : H) (i : Nat) : Option (List (AV × AV)) := match h.get i with | some (.map c) => some c | _ => none
def H.tok? (h : H) (i : Nat) : Option TypeId := match h.get i with | some (.tok e) => some e | _ => none
def H.loop? (h : H) (i : Nat) : Option Lp := match h.get i with | some (.loop l) => some l | _ => none
/-- a new object: at the place that is told, or at the next one -/
def H.new (h : H) (at_ : Option Nat) (o : Obj) : Nat × H :=
  match at_ with
  | some i => (i, ⟨h.next, h.objs.set i (some o)⟩)
  | none => (h.next, ⟨h.next + 1, h.objs.set h.next (some o)⟩)

/-- What an evaluation is done over. 'hold': functions that run in their caller's heap; 'wide': functions whose appends make rows that may be written; 'inc': of a region that draws its order, the pairs of a reading operation and an acting one that no edge orders. -/
structure Env where
  fn : Nat → Option Func
  ty : Nat → Option TI
  glob : Nat → Option (List AV)
  intr : Nat → Option (List AV → Option AV)
  hold : Nat → Bool
  wide : Nat → Bool
  inc : Nat → Nat → List (Nat × Nat)
  byteT : TypeId

structure Df where
  fn : AV
  args : List AV

structure St where
  fr : T AV
  h : H
  ds : List Df

/-- What a call comes to. -/
inductive CR where
  | val (v : AV)
  | pan (v : AV)
  deriving Inhabited

mutual
def AV.closed : AV → Bool
  | .ptr .. | .sl .. | .mp _ | .pel .. => false
  | .vl (some _) _ => false
  | .vl none es | .pv es | .agg es | .tup es => AV.closeds es
  | .mv es => AV.closedp es
  | .fn f a b => (match f with | .yield _ => false | _ => true) && AV.closeds a && AV.closeds b
  | .ifc _ v => AV.closed v
  | _ => true
def AV.closeds : List AV → Bool
  | [] => true
  | a :: x => AV.closed a && AV.closeds x
def AV.closedp : List (AV × AV) → Bool
  | [] => true
  | (a, b) :: x => AV.closed a && AV.closed b && AV.closedp x
end

def optAll {α β : Type} (f : α → Option β) : List α → Option (List β)
  | [] => some []
  | a :: x => (f a).bind fun b => (optAll f x).bind fun y => some (b :: y)

def cellsOfAll (es : List AV) : List AV := es.flatMap AV.cells

/-- may it lie in one cell? -/
def oneC : AV → Bool
  | .agg _ | .tup _ => false
  | _ => true
def ones (l : List AV) : Bool := l.all oneC

def elemVal (ag : Bool) (cs : List AV) : Option AV := if ag then some (.agg cs) else match cs with | [v] => if oneC v then some v else none | _ => none
/-- cells as elements -/
def chunks (ag : Bool) (sz : Nat) : Nat → List AV → Option (List AV)
  | 0, cs => match cs with | [] => some [] | _ :: _ => none
  | n + 1, cs => (elemVal ag (cs.take sz)).bind fun v => (chunks ag sz n (cs.drop sz)).bind fun r => some (v :: r)

/-- At a pure call's end: what it made is read-only from then on. -/
def freeze (h : H) : Nat → AV → Option AV
  | 0, _ => none
  | n + 1, v =>
    match v with
    | .ptr id off => (h.cells? id).bind fun c => (optAll (freeze h n) (c.2.drop off)).bind fun c' => some (.pv c')
    | .sl sz ag id off len => (h.cells? id).bind fun c =>
      (optAll (freeze h n) ((c.2.drop off).take (len * sz))).bind fun c' => if c'.length = len * sz ∧ 0 < sz then (chunks ag sz len c').bind fun es => some (.vl none es) else none
    | .mp id => (h.map? id).bind fun es => (optAll (fun e => (freeze h n e.1).bind fun k => (freeze h n e.2).bind fun v => some (k, v)) es).bind fun es' => some (.mv es')
    | .vl _ es => (optAll (freeze h n) es).bind fun es => some (.vl none es)
    | .pv es => (optAll (freeze h n) es).bind fun es => some (.pv es)
    | .agg es => (optAll (freeze h n) es).bind fun es => some (.agg es)
    | .tup es => (optAll (freeze h n) es).bind fun es => some (.tup es)
    | .ifc t v => (freeze h n v).bind fun v => some (.ifc t v)
    | .fn f a b => match f with
      | .yield _ => none
      | _ => (optAll (freeze h n) a).bind fun a => (optAll (freeze h n) b).bind fun b => some (.fn f a b)
    | .mv es => if AV.closedp es then some (.mv es) else none
    | .pel .. => none
    | v => some v

/-- a one-cell constant -/
def ofCell : Value → Option AV
  | .bool b => some (.bool b)
  | .int k n => some (.int k n)
  | .string s => some (.str s.data.toList)
  | .pointer none => some .nilp
  | .slice none n c => if n = 0 then if c = 0 then some .nils else none else none
  | .map none => some .nilm
  | .nilFunc => some .nilf
  | .nilIface => some .nili
  | _ => none

def ofValue : Value → Option AV
  | .func f a b => match f with
    | .yield _ => none
    | _ => match a.toList, b.toList with | [], [] => some (.fn f [] []) | _, _ => none
  | .tuple vs => match vs.toList with | [] => some (.tup []) | _ => none
  | .agg cs => (optAll ofCell cs.toList).bind fun l => some (.agg l)
  | v => ofCell v

def undefA : AV := .tup []
def slot (fr : T AV) (t : Nat) : AV := (fr.get t).getD undefA

def ev (E : Env) (fr : T AV) : Operand → Option AV
  | .tmp t => some (slot fr t)
  | .const v => ofValue v
  | .global g => (E.glob g).map .pv
  | .func f => some (.fn (.func f) [] [])

/-- a variable's value out of the cells from its first one on -/
def part (i : TI) (cs : List AV) : Option AV :=
  if i.ag then if (cs.take i.size).length = i.size then some (.agg (cs.take i.size)) else none else cs.head?

def putCells : List AV → Nat → List AV → Option (List AV)
  | cs, _, [] => some cs
  | [], _, _ :: _ => none
  | _ :: cs, 0, v :: vs => (putCells cs 0 vs).bind fun r => some (v :: r)
  | c :: cs, n + 1, vs => (putCells cs n vs).bind fun r => some (c :: r)

def loadVar (E : Env) (h : H) (t : TypeId) (a : AV) : Option AV :=
  (E.ty t).bind fun i =>
  match a with
  | .ptr id off => (h.cells? id).bind fun c => part i (c.2.drop off)
  | .pv cs => part i cs
  | _ => none

def storeVar (E : Env) (h : H) (t : TypeId) (a v : AV) : Option H :=
  (E.ty t).bind fun i =>
  match a with
  | .ptr id off => (h.cells? id).bind fun c =>
    if v.cells.length = i.size ∧ ones v.cells = true then (putCells c.2 off v.cells).bind fun c' => some (h.set id (.cells c.1 c')) else none
  | _ => none

def wrap (k : IntKind) (n : Int) : Int :=
  match k with
  | .i64 => if -9223372036854775808 ≤ n then if n ≤ 9223372036854775807 then n else IntKind.wrap k n else IntKind.wrap k n
  | _ => IntKind.wrap k n

def bytesLess : List UInt8 → List UInt8 → Bool
  | _, [] => false
  | [], _ :: _ => true
  | a :: x, b :: y => a < b || (a == b && bytesLess x y)

def eqPlain : AV → AV → Option Bool
  | .bool a, .bool b => some (a == b)
  | .int j a, .int k b => if j = k then some (a == b) else none
  | .str a, .str b => some (a == b)
  | _, _ => none

def eqCells : List AV → List AV → Option Bool
  | [], [] => some true
  | a :: x, b :: y => (eqPlain a b).bind fun e => (eqCells x y).bind fun r => some (e && r)
  | _, _ => none

/-- does a value fit a plain type, by its form? -/
def fits1 (E : Env) (t : TypeId) (v : AV) : Bool :=
  match E.ty t with
  | none => false
  | some i => match i.desc, v with
    | .int j, .int l _ => decide (j = l)
    | .string, .str _ => true
    | .bool, .bool _ => true
    | _, _ => false
/-- fields of one cell each, none blank -/
def plainF : List Field → Nat → Bool
  | [], _ => true
  | f :: fs, n => f.name != "_" && f.offset == n && plainF fs (n + 1)
def fitsF (E : Env) : List Field → List AV → Bool
  | [], [] => true
  | f :: fs, v :: vs => fits1 E f.type v && fitsF E fs vs
  | _, _ => false

def sliceNil : AV → Option Bool
  | .nils => some true
  | .vl .. | .sl .. => some false
  | _ => none
def funcNil : AV → Option Bool
  | .nilf => some true
  | .fn .. => some false
  | _ => none
def ptrNil : AV → Option Bool
  | .nilp => some true
  | .ptr .. | .pv _ => some false
  | _ => none
/-- one of both is nil -/
def nilEq : Option Bool → Option Bool → Option Bool
  | some true, some b => some b
  | some false, some true => some false
  | _, _ => none
def eqPtr (sz : Nat) (a b : AV) : Option Bool :=
  match a, b with
  | .ptr i o, .ptr j p => if i = j ∧ sz ≠ 0 then some (o == p) else none
  | a, b => nilEq (ptrNil a) (ptrNil b)
def eqIfc (E : Env) (a b : AV) : Option Bool :=
  match a, b with
  | .nili, .ifc .. => some false
  | .ifc .., .nili => some false
  | .ifc t x, .ifc u y => if t = u then (if fits1 E t x && fits1 E t y then eqPlain x y else none) else some false
  | _, _ => none
def eqStruct (E : Env) (fs : List Field) (a b : AV) : Option Bool :=
  match a, b with
  | .agg x, .agg y => if plainF fs 0 && fitsF E fs x && fitsF E fs y then eqCells x y else none
  | _, _ => none

def eqAny (E : Env) (t : TypeId) (a b : AV) : Option Bool :=
  (E.ty t).bind fun i =>
  match i.desc with
  | .struct fs => eqStruct E fs.toList a b
  | .bool => if fits1 E t a && fits1 E t b then eqPlain a b else none
  | .pointer e => (E.ty e).bind fun ei => eqPtr ei.size a b
  | .interface _ => eqIfc E a b
  | .slice _ => nilEq (sliceNil a) (sliceNil b)
  | .func .. => nilEq (funcNil a) (funcNil b)
  | _ => none

/-- '== nil' of an interface value against the literal nil -/
def eqNil (E : Env) (t : TypeId) (x y : Operand) (a b : AV) : Option Bool :=
  match a, b with
  | .nili, .nili => match x, y with
    | .const _, _ | _, .const _ => (E.ty t).bind fun i => match i.desc with | .interface _ => some true | _ => none
    | _, _ => none
  | a, b => eqAny E t a b

def bits (k : IntKind) (f : BitVec k.bits → BitVec k.bits → BitVec k.bits) (a b : Int) : Int := wrap k (f (BitVec.ofInt k.bits a) (BitVec.ofInt k.bits b)).toNat

def intOp (op : BinOp) (k : IntKind) (a b : Int) : Option AV :=
  match op with
  | .add => some (.int k (wrap k (a + b)))
  | .sub => some (.int k (wrap k (a - b)))
  | .mul => some (.int k (wrap k (a * b)))
  | .quo => if b = 0 then none else some (.int k (wrap k (a.tdiv b)))
  | .rem => if b = 0 then none else some (.int k (a.tmod b))
  | .and => some (.int k (bits k (· &&& ·) a b))
  | .or => some (.int k (bits k (· ||| ·) a b))
  | .xor => some (.int k (bits k (· ^^^ ·) a b))
  | .andNot => some (.int k (bits k (fun a b => a &&& ~~~b) a b))
  | .eql => some (.bool (a == b))
  | .neq => some (.bool (a != b))
  | .lss => some (.bool (decide (a < b)))
  | .leq => some (.bool (decide (a ≤ b)))
  | .gtr => some (.bool (decide (a > b)))
  | .geq => some (.bool (decide (a ≥ b)))
  | .shl | .shr => none

def strOp (op : BinOp) (a b : List UInt8) : Option AV :=
  match op with
  | .add => if a.length + b.length ≤ 9223372036854775807 then some (.str (a ++ b)) else none
  | .eql => some (.bool (a == b))
  | .neq => some (.bool !(a == b))
  | .lss => some (.bool (bytesLess a b))
  | .leq => some (.bool (bytesLess a b || a == b))
  | .gtr => some (.bool !(bytesLess a b || a == b))
  | .geq => some (.bool !(bytesLess a b))
  | _ => none

def binOp (E : Env) (op : BinOp) (t : TypeId) (x y : Operand) (a b : AV) : Option AV :=
  match a, b with
  | .int k a, .int j b =>
    match op with
    | .shl => if b < 0 then none else some (.int k (wrap k (a * 2 ^ min b.toNat k.bits)))
    | .shr => if b < 0 then none else some (.int k (a.fdiv (2 ^ min b.toNat k.bits)))
    | op => if k = j then intOp op k a b else none
  | .str a, .str b => strOp op a b
  | a, b =>
    match op with
    | .eql => (eqNil E t x y a b).bind fun r => some (.bool r)
    | .neq => (eqNil E t x y a b).bind fun r => some (.bool !r)
    | _ => none

def unOp (op : UnOp) (x : AV) : Option AV :=
  match op, x with
  | .neg, .int k n => some (.int k (wrap k (0 - n)))
  | .not, .bool b => some (.bool !b)
  | _, _ => none

def runesFrom (s : ByteArray) : (bound i : Nat) → List AV
  | 0, _ => []
  | bound + 1, i =>
    if i < s.size then .int .i32 (Int.ofNat (Utf8.decode s i).1) :: runesFrom s bound (i + (Utf8.decode s i).2)
    else []

def byteOf : AV → Option UInt8
  | .int .u8 n => some (UInt8.ofNat n.toNat)
  | _ => none

def convert (E : Env) (h : H) (src dst : TypeId) (x : AV) : Option (AV × H) :=
  (E.ty src).bind fun s => (E.ty dst).bind fun d =>
  match s.desc, d.desc, x with
  | .int _, .int k, .int _ n => some (.int k (wrap k n), h)
  | .int _, .string, .int _ n => some (.str (Utf8.encode n).data.toList, h)
  | .string, .string, .str s => some (.str s, h)
  | .pointer t, .unsafePointer, .ptr i o => (E.ty t).bind fun ti => (h.cells? i).bind fun c => if ti.size ≠ 0 ∧ o < c.2.length then some (.ptr i o, h) else none
  | .unsafePointer, .pointer t, .ptr i o => (E.ty t).bind fun ti => (h.cells? i).bind fun c => if c.1 = t ∧ o = 0 ∧ ti.size ≠ 0 ∧ ti.size ≤ c.2.length then some (.ptr i o, h) else none
  | .string, .slice e, .str s =>
    (E.ty e).bind fun ei =>
    match ei.desc with
    | .int .i32 => some (.vl none (runesFrom ⟨⟨s⟩⟩ s.length 0), h)
    | .int .u8 => some (.vl none (s.map fun b => .int .u8 b.toNat), h)
    | _ => none
  | .slice e, .string, .sl _ _ id off len => (E.ty e).bind fun ei =>
    match ei.desc with
    | .int .u8 => (h.cells? id).bind fun c => (optAll byteOf ((c.2.drop off).take len)).bind fun bs => if bs.length = len then some (.str bs, h) else none
    | _ => none
  | .slice e, .string, .vl _ es => (E.ty e).bind fun ei =>
    match ei.desc with
    | .int .u8 => (optAll byteOf es).bind fun bs => some (.str bs, h)
    | _ => none
  | _, _, _ => none

def asNat : AV → Option Nat
  | .int _ n => if 0 ≤ n then some n.toNat else none
  | _ => none

def bound (e : Operand → Option AV) (dflt : Nat) : Option Operand → Option Nat
  | none => some dflt
  | some x => (e x).bind asNat

def lenA : AV → Nat
  | .str s => s.length
  | .vl _ es => es.length
  | .sl _ _ _ _ n => n
  | _ => 0

def sliceOp (E : Env) (h : H) (t : TypeId) (x : AV) (l : Nat) (hi : Nat → Option Nat) : Option AV :=
  (E.ty t).bind fun ti =>
  match ti.desc, x with
  | .string, .str s => (hi s.length).bind fun u => if l ≤ u ∧ u ≤ s.length then some (.str ((s.take u).drop l)) else none
  | .slice _, .nils => (hi 0).bind fun u => if l = 0 ∧ u = 0 then some .nils else none
  | .slice e, .vl tk es => (E.ty e).bind fun ei => (hi es.length).bind fun u =>
    if l ≤ u ∧ u ≤ es.length ∧ (l = 0 ∨ (es.head?.map (·.cells.length)) = some ei.size) then
      if u = es.length ∧ l < u then some (.vl tk (es.drop l)) else some (.vl none ((es.take u).drop l))
    else none
  | .slice e, .sl sz ag id off len => (E.ty e).bind fun ei => (hi len).bind fun u =>
    if l ≤ u ∧ u ≤ len ∧ sz = ei.size then some (.sl sz ag id (off + l * sz) (u - l)) else none
  | .array n e, .pv cs => (hi n).bind fun u => (E.ty e).bind fun ei => (chunks ei.ag ei.size n (cs.take (n * ei.size))).bind fun es =>
    if l ≤ u ∧ u ≤ n ∧ 0 < ei.size ∧ n * ei.size ≤ cs.length then some (.vl none ((es.take u).drop l)) else none
  | .array n e, .ptr id off => (hi n).bind fun u => (E.ty e).bind fun ei =>
    (h.cells? id).bind fun c => if l ≤ u ∧ u ≤ n ∧ 0 < ei.size ∧ off + n * ei.size ≤ c.2.length then some (.sl ei.size ei.ag id (off + l * ei.size) (u - l)) else none
  | _, _ => none

def fieldAddr (E : Env) (s : TypeId) (a : AV) (f : Nat) : Option AV :=
  (E.ty s).bind fun si =>
  match si.desc with
  | .struct fs => (fs.toList[f]?).bind fun fd => (E.ty fd.type).bind fun fi =>
    if fi.size = 0 then none else
    match a with
    | .ptr id off => some (.ptr id (off + fd.offset))
    | .pv cs => some (.pv (cs.drop fd.offset))
    | _ => none
  | _ => none

def indexAddr (E : Env) (t : TypeId) (x i : AV) : Option AV :=
  (asNat i).bind fun n => (E.ty t).bind fun ti =>
  match ti.desc, x with
  | .array len e, .ptr id off => (E.ty e).bind fun ei => if n < len then some (.ptr id (off + n * ei.size)) else none
  | .array len e, .pv cs => (E.ty e).bind fun ei => if n < len then some (.pv (cs.drop (n * ei.size))) else none
  | .slice e, .vl _ es => (E.ty e).bind fun ei => (es[n]?).bind fun v => if v.cells.length = ei.size ∧ 0 < ei.size then some (.pv v.cells) else none
  | .slice e, .sl sz _ id off len => (E.ty e).bind fun ei => if n < len ∧ sz = ei.size then some (.ptr id (off + n * sz)) else none
  | _, _ => none

def indexOp (E : Env) (t : TypeId) (x i : AV) : Option AV :=
  (asNat i).bind fun n => (E.ty t).bind fun ti =>
  match ti.desc, x with
  | .array len e, .agg cs => (E.ty e).bind fun ei => if n < len then part ei (cs.drop (n * ei.size)) else none
  | .string, .str s => (s[n]?).bind fun b => some (.int .u8 b.toNat)
  | _, _ => none

def findKey (k : AV) : List (AV × AV) → Option AV
  | [] => none
  | (a, v) :: es => if AV.beq k a then some v else findKey k es

def putKey (k v : AV) : List (AV × AV) → List (AV × AV)
  | [] => [(k, v)]
  | (a, u) :: es => if AV.beq k a then (k, v) :: es else (a, u) :: putKey k v es

def entriesOf (h : H) : AV → Option (List (AV × AV))
  | .nilm => some []
  | .mv es => some es
  | .mp id => h.map? id
  | _ => none

/-- may a value be a key of this type, by its form? -/
def keyFits (E : Env) (t : TypeId) (k : AV) : Bool :=
  match E.ty t with
  | none => false
  | some i => match i.desc, k with
    | .struct fs, .agg cs => plainF fs.toList 0 && fitsF E fs.toList cs
    | _, k => fits1 E t k

def allFit (E : Env) (t : TypeId) (es : List (AV × AV)) : Bool := es.all fun e => keyFits E t e.1

def lookup (E : Env) (h : H) (t : TypeId) (m k : AV) (ok : Bool) : Option AV :=
  (E.ty t).bind fun ti =>
  match ti.desc with
  | .map kt e => (entriesOf h m).bind fun es => (E.ty e).bind fun ei =>
    if keyFits E kt k && allFit E kt es then
      match findKey k es with
      | some v => some (if ok then .tup [v, .bool true] else v)
      | none => some (if ok then .tup [ei.zero, .bool false] else ei.zero)
    else none
  | _ => none

def mapUpdate (E : Env) (h : H) (t : TypeId) (m k v : AV) : Option H :=
  (E.ty t).bind fun ti =>
  match ti.desc, m with
  | .map kt _, .mp id => (h.map? id).bind fun es => if keyFits E kt k && allFit E kt es then some (h.set id (.map (putKey k v es))) else none
  | _, _ => none

def fillParts (places : Nat → Option (Nat × Nat)) : List AV → List (Nat × AV) → Option (List AV)
  | cs, [] => some cs
  | cs, (i, v) :: rest => (places i).bind fun p =>
    if v.cells.length = p.2 ∧ p.1 + p.2 ≤ cs.length then (putCells cs p.1 v.cells).bind fun cs => fillParts places cs rest else none

def build (E : Env) (t : TypeId) (parts : List (Nat × AV)) : Option AV :=
  (E.ty t).bind fun ti =>
  match ti.desc with
  | .struct fs => (fillParts (fun i => (fs.toList[i]?).bind fun f => (E.ty f.type).bind fun fi => some (f.offset, fi.size)) ti.zero.cells parts).bind fun cs => some (.agg cs)
  | .array _ e => (E.ty e).bind fun ei => (fillParts (fun i => some (i * ei.size, ei.size)) ti.zero.cells parts).bind fun cs => some (.agg cs)
  | _ => none

def setNth : List AV → Nat → AV → Option (List AV)
  | [], _, _ => none
  | _ :: l, 0, v => some (v :: l)
  | a :: l, n + 1, v => (setNth l n v).bind fun r => some (a :: r)

def buildEs (sz : Nat) : List AV → List (Nat × AV) → Option (List AV)
  | es, [] => some es
  | es, (i, v) :: rest => if v.cells.length = sz then (setNth es i v).bind fun es => buildEs sz es rest else none

/-- elements of a slice, or of a string -/
def elemsOf (E : Env) (h : H) (e : TypeId) : AV → Option (List AV)
  | .nils => some []
  | .vl _ es => some es
  | .sl sz ag id off len => (h.cells? id).bind fun c => (E.ty e).bind fun ei => if sz = ei.size ∧ ag = ei.ag then chunks ag sz len ((c.2.drop off).take (len * sz)) else none
  | .str s => some (s.map fun b => .int .u8 b.toNat)
  | _ => none

def uniform (sz : Nat) (es : List AV) : Bool := es.all fun e => e.cells.length == sz

def rowLike : TypeDesc → Bool
  | .slice _ | .string => true
  | _ => false

def appendOp (E : Env) (wide : Bool) (h : H) (t u : TypeId) (s x : AV) : Option (AV × H) :=
  (E.ty t).bind fun ti => (E.ty u).bind fun ui =>
  match ti.desc with
  | .slice e => (elemsOf E h e x).bind fun new => (E.ty e).bind fun ei =>
    if rowLike ui.desc && uniform ei.size new && decide (0 < ei.size ∧ ei.zero.cells.length = ei.size) && ones (cellsOfAll new) then
    match s with
    | .nils =>
      if new.isEmpty then some (.nils, h)
      else if new.length * (ei.bytes + 1) ≤ 35184372088832 then
        if wide then
          some (.sl ei.size ei.ag (h.new none (.cells e (cellsOfAll new))).1 0 new.length, (h.new none (.cells e (cellsOfAll new))).2)
        else
          some (.vl (some (h.new none (.tok e)).1) new, (h.new none (.tok e)).2)
      else none
    | .vl (some tk) es =>
      if new.isEmpty then some (s, h)
      else if (es.length + new.length) * (ei.bytes + 1) ≤ 35184372088832 then
        (h.tok? tk).bind fun e' => if e' = e ∧ uniform ei.size es then
          some (.vl (some ((h.kill tk).new none (.tok e)).1) (es ++ new), ((h.kill tk).new none (.tok e)).2)
        else none
      else none
    | .sl sz' ag id off len =>
      if new.isEmpty then some (s, h)
      else if (len + new.length) * (ei.bytes + 1) ≤ 35184372088832 then
        (h.cells? id).bind fun c =>
        if sz' = ei.size ∧ off = 0 ∧ c.2.length = len * ei.size ∧ c.1 = e then
          some (.sl ei.size ag ((h.kill id).new none (.cells e (c.2 ++ cellsOfAll new))).1 0 (len + new.length), ((h.kill id).new none (.cells e (c.2 ++ cellsOfAll new))).2)
        else none
      else none
    | _ => none
    else none
  | _ => none

def lenOp (E : Env) (h : H) (t : TypeId) (x : AV) : Option Nat :=
  (E.ty t).bind fun ti =>
  match ti.desc, x with
  | .string, .str s => some s.length
  | .array n _, _ => some n
  | .slice _, .nils => some 0
  | .slice _, .vl _ es => some es.length
  | .slice _, .sl _ _ _ _ n => some n
  | .map .., .nilm => some 0
  | .map .., .mv es => some es.length
  | .map .., .mp id => (h.map? id).bind fun es => some es.length
  | _, _ => none

def max2 : AV → AV → Option AV
  | .int k x, .int _ y => some (.int k (if y > x then y else x))
  | _, _ => none
def min2 : AV → AV → Option AV
  | .int k x, .int _ y => some (.int k (if y < x then y else x))
  | _, _ => none
def foldOpt (f : AV → AV → Option AV) : AV → List AV → Option AV
  | a, [] => some a
  | a, b :: l => (f a b).bind fun c => foldOpt f c l

def zeros (z : List AV) : Nat → List AV
  | 0 => []
  | n + 1 => z ++ zeros z n

def nilCheck : AV → Option AV
  | .ptr i o => some (.ptr i o)
  | .pv c => some (.pv c)
  | .fn f a b => match f with
    | .func _ => some (.fn f a b)
    | .yield _ => some (.fn f a b)
    | _ => none
  | _ => none

def builtin (E : Env) (wide : Bool) (h : H) (b : Builtin) (ts : List TypeId) (as : List AV) : Option (AV × H) :=
  match b, ts, as with
  | .append, t :: u :: _, [s, x] => appendOp E wide h t u s x
  | .len, t :: _, [x] => (lenOp E h t x).bind fun n => some (.int .i64 n, h)
  | .max, _, a :: l => (foldOpt max2 a l).bind fun v => some (v, h)
  | .min, _, a :: l => (foldOpt min2 a l).bind fun v => some (v, h)
  | .clear, t :: _, [.sl sz _ id off len] => (E.ty t).bind fun ti =>
    match ti.desc with
    | .slice e => (E.ty e).bind fun ei => if ei.size = sz ∧ ei.zero.cells.length = sz ∧ ones ei.zero.cells = true then (h.cells? id).bind fun c => (putCells c.2 off (zeros ei.zero.cells len)).bind fun c' => some (.tup [], h.set id (.cells c.1 c')) else none
    | _ => none
  | .clear, t :: _, [.nils] => (E.ty t).bind fun ti => match ti.desc with | .slice _ => some (.tup [], h) | _ => none
  | .unsafeSliceData, _, [.vl (some t) es] => if es.isEmpty then none else some (.pel t (cellsOfAll es), h)
  | .unsafeSliceData, _, [.nils] => some (.nilp, h)
  | .unsafeString, _ :: _, [.nilp, n] => (asNat n).bind fun n => if n = 0 then some (.str [], h) else none
  | .unsafeString, t :: _, [.pel tk cs, n] => (E.ty t).bind fun ti => (asNat n).bind fun n =>
    match ti.desc with
    | .pointer e => (h.tok? tk).bind fun e' =>
      if e' = e ∧ e = E.byteT ∧ 0 < n ∧ n ≤ cs.length ∧ n ≤ 9223372036854775807 then (optAll byteOf (cs.take n)).bind fun bs => some (.str bs, h) else none
    | _ => none
  | _, _, _ => none

/-- An operation that calls nothing. 'wide': appends make rows that may be written; 'at_': where a new object is laid. -/
def plain (E : Env) (wide : Bool) (at_ : Option Nat) (fr : T AV) (h : H) (o : Oper) : Option (AV × H) :=
  let e := ev E fr
  match o.op with
  | .move x => (e x).bind fun v => some (v, h)
  | .assign x => (e x).bind fun v => some (v, h)
  | .pick c a b => (e c).bind fun c => match c with
    | .bool t => (if t then e a else e b).bind fun v => some (v, h)
    | _ => none
  | .alloc t => (E.ty t).bind fun i => some (.ptr (h.new at_ (.cells t i.zero.cells)).1 0, (h.new at_ (.cells t i.zero.cells)).2)
  | .box t x => (e x).bind fun v => some (.ptr (h.new at_ (.cells t v.cells)).1 0, (h.new at_ (.cells t v.cells)).2)
  | .build t ps => (optAll (fun p => (e p.2).bind fun v => some (p.1, v)) ps.toList).bind fun ps => (build E t ps).bind fun v => some (v, h)
  | .buildSlice t len ps => (E.ty t).bind fun ti =>
    match ti.desc with
    | .slice el => (E.ty el).bind fun ei => (optAll (fun p => (e p.2).bind fun v => some (p.1, v)) ps.toList).bind fun ps =>
      if ei.zero.cells.length = ei.size ∧ 0 < ei.size ∧ len * ei.size ≤ 16777216 then
        (buildEs ei.size (List.replicate len ei.zero) ps).bind fun es =>
        if wide then some (.sl ei.size ei.ag (h.new at_ (.cells el (cellsOfAll es))).1 0 len, (h.new at_ (.cells el (cellsOfAll es))).2)
        else some (.vl (some (h.new at_ (.tok el)).1) es, (h.new at_ (.tok el)).2)
      else none
    | _ => none
  | .load t a => (e a).bind fun a => (loadVar E h t a).bind fun v => some (v, h)
  | .store t a x => (e a).bind fun a => (e x).bind fun x => (storeVar E h t a x).bind fun h => some (undefA, h)
  | .nilCheck x => (e x).bind fun v => (nilCheck v).bind fun v => some (v, h)
  | .binOp op t x y _ => (e x).bind fun a => (e y).bind fun b => (binOp E op t x y a b).bind fun v => some (v, h)
  | .unOp op _ x => (e x).bind fun a => (unOp op a).bind fun v => some (v, h)
  | .convert s d x => (e x).bind fun x => convert E h s d x
  | .makeInterface t x => (e x).bind fun v => (E.ty t).bind fun i => match i.desc with | .interface _ => none | _ => some (.ifc t v, h)
  | .makeFunc f a b => (optAll e a.toList).bind fun a => (optAll e b.toList).bind fun b => match f with | .yield _ => none | _ => some (.fn f a b, h)
  | .makeMap _ r => match r with | none => some (.mp (h.new at_ (.map [])).1, (h.new at_ (.map [])).2) | some _ => none
  | .makeSlice t l c => (E.ty t).bind fun ti =>
    match ti.desc with
    | .slice el => (E.ty el).bind fun ei => (e l).bind fun l => (e c).bind fun c => (asNat l).bind fun l => (asNat c).bind fun c =>
      if l ≤ c ∧ c * (ei.bytes + 1) ≤ 35184372088832 ∧ ei.zero.cells.length = ei.size ∧ 0 < ei.size then
        some (.sl ei.size ei.ag (h.new at_ (.cells el (zeros ei.zero.cells c))).1 0 l, (h.new at_ (.cells el (zeros ei.zero.cells c))).2)
      else none
    | _ => none
  | .slice t x lo hi mx => match mx with
    | some _ => none
    | none => (e x).bind fun x => (bound e 0 lo).bind fun l => (sliceOp E h t x l (fun d => bound e d hi)).bind fun v => some (v, h)
  | .fieldAddr s x f => (e x).bind fun x => (fieldAddr E s x f).bind fun v => some (v, h)
  | .field t x f => (e x).bind fun x => (E.ty t).bind fun ti =>
    match ti.desc, x with
    | .struct fs, .agg cs => (fs.toList[f]?).bind fun fd => (E.ty fd.type).bind fun fi => (part fi (cs.drop fd.offset)).bind fun v => some (v, h)
    | _, _ => none
  | .indexAddr t x i => (e x).bind fun x => (e i).bind fun i => (indexAddr E t x i).bind fun v => some (v, h)
  | .index t x i => (e x).bind fun x => (e i).bind fun i => (indexOp E t x i).bind fun v => some (v, h)
  | .lookup t x i ok => (e x).bind fun x => (e i).bind fun i => (lookup E h t x i ok).bind fun v => some (v, h)
  | .mapUpdate t m k x => (e m).bind fun m => (e k).bind fun k => (e x).bind fun x => (mapUpdate E h t m k x).bind fun h => some (undefA, h)
  | .insert t m k x => (e m).bind fun m => (e k).bind fun k => (e x).bind fun x => (mapUpdate E h t m k x).bind fun h => some (undefA, h)
  | .range t x => (e x).bind fun x => (E.ty t).bind fun ti =>
    match ti.desc, x with
    | .string, .str s => some (.ptr (h.new at_ (.strIter s 0)).1 0, (h.new at_ (.strIter s 0)).2)
    | .map _ _, .mp m => (h.map? m).bind fun es => if es.length ≤ 1 then some (.ptr (h.new at_ (.mapIter m es.length)).1 0, (h.new at_ (.mapIter m es.length)).2) else none
    | _, _ => none
  | .next it isStr => (e it).bind fun it =>
    match it with
    | .ptr r 0 => (h.get r).bind fun o =>
      match o, isStr with
      | .strIter s pos, true =>
        if pos < s.length then
          some (.tup [.bool true, .int .i64 pos, .int .i32 (Utf8.decode ⟨⟨s⟩⟩ pos).1], h.set r (.strIter s (pos + (Utf8.decode ⟨⟨s⟩⟩ pos).2)))
        else some (.tup [.bool false], h)
      | .mapIter m left, false => (h.map? m).bind fun es =>
        match left, es with
        | 0, [] => some (.tup [.bool false], h)
        | 2, [_] => some (.tup [.bool false], h)
        | 1, [(k, v)] => some (.tup [.bool true, k, v], h.set r (.mapIter m 2))
        | _, _ => none
      | _, _ => none
    | _ => none
  | .entry it => (e it).bind fun it =>
    match it with
    | .ptr r 0 => (h.get r).bind fun o =>
      match o with
      | .mapIter m 2 => (h.map? m).bind fun es => match es with | [(k, v)] => some (.tup [k, v], h) | _ => none
      | _ => none
    | _ => none
  | .typeAssert x _ asserted ok => (e x).bind fun x => (E.ty asserted).bind fun i =>
    match i.desc, x with
    | .interface _, _ => none
    | _, .nili => if ok then some (.tup [i.zero, .bool false], h) else none
    | _, .ifc t v => if t = asserted then some (if ok then .tup [v, .bool true] else v, h) else if ok then some (.tup [i.zero, .bool false], h) else none
    | _, _ => none
  | .extract t i => (e t).bind fun t => match t with
    | .tup vs => (vs[i]?).bind fun v => some (v, h)
    | _ => none
  | .call c => match c.callee with
    | .builtin b => (optAll e c.args.toList).bind fun as => builtin E wide h b c.argTypes.toList as
    | _ => none
  | _ => none

def blockEx (id : Nat) : Ex → Ex
  | .exit j => if j = id then .normal else .exit j
  | e => e

def bindArgs : Nat → List AV → T AV → T AV
  | _, [], t => t
  | i, a :: l, t => bindArgs (i + 1) l (t.set i (some a))

def setParams : List Nat → List AV → T AV → T AV
  | p :: ps, a :: l, t => setParams ps l (t.set p (some a))
  | _, _, t => t

/-- how a function value, called, goes on: the interpreter's own calls at a lower depth -/
abbrev Cv := AV → List AV → H → Option (CR × H)

def putDst (nt : Nat) (fr : T AV) (d : Option Nat) (v : AV) : Option (T AV) :=
  match d with
  | some d => if d < nt then some (fr.set d (some v)) else none
  | none => some fr

def wantedA (ops : Array Oper) (fr : T AV) (o : Oper) : Bool :=
  match o.guard with
  | none => true
  | some (j, want) => match (ops[j]?).bind (·.dst) with
    | some d => (match slot fr d with | .bool b => b == want | _ => false)
    | none => false

/-- one operation: its value (or a panic), and the heap -/
def oneOp (E : Env) (cv : Cv) (wide : Bool) (rd : Option Nat) (at_ : Option Nat) (fr : T AV) (h : H) (o : Oper) : Option (CR × H) :=
  match o.op with
  | .call c => match c.callee with
    | .value g => (ev E fr g).bind fun g => (optAll (ev E fr) c.args.toList).bind fun as => cv g as h
    | .invoke .. => none
    | .builtin b => match b with
      | .recover => if rd.isSome then none else some (.val .nili, h)
      | _ => (plain E wide at_ fr h o).bind fun r => some (.val r.1, r.2)
  | .panic x => (ev E fr x).bind fun v => match v with | .ifc .. => some (.pan v, h) | _ => none
  | _ => (plain E wide at_ fr h o).bind fun r => some (.val r.1, r.2)

/-- operations one behind the other -/
def opList (E : Env) (cv : Cv) (wide : Bool) (rd : Option Nat) (nt : Nat) (ops : Array Oper) : List Oper → St → Option (Ex × St)
  | [], s => some (.normal, s)
  | o :: os, s =>
    if wantedA ops s.fr o then
      match o.op with
      | .defer c => if rd.isSome then none else match c.callee with
        | .value g => (ev E s.fr g).bind fun g => (optAll (ev E s.fr) c.args.toList).bind fun as =>
          match g with
          | .fn .. => (putDst nt s.fr o.dst undefA).bind fun fr => opList E cv wide rd nt ops os { s with fr, ds := ⟨g, as⟩ :: s.ds }
          | _ => none
        | _ => none
      | _ => (oneOp E cv wide rd none s.fr s.h o).bind fun r =>
        match r.1 with
        | .val v => (putDst nt s.fr o.dst v).bind fun fr => opList E cv wide rd nt ops os { s with fr, h := r.2 }
        | .pan v => some (.panic v, { s with h := r.2 })
    else (putDst nt s.fr o.dst undefA).bind fun fr => opList E cv wide rd nt ops os { s with fr }

/-- what stood ahead of an operation in a region that draws its order, and behind it -/
structure Tr where
  fr : T AV
  h : H
  h' : H
  v : AV
  ran : Bool

def drawList (E : Env) (cv : Cv) (wide : Bool) (rd : Option Nat) (nt : Nat) (ops : Array Oper) (base : Nat) : Nat → List Oper → T AV → H → List Tr → Option (T AV × H × List Tr)
  | _, [], fr, h, tr => some (fr, h, tr)
  | i, o :: os, fr, h, tr =>
    if wantedA ops fr o then
      match o.op with
      | .defer _ => none
      | _ => (oneOp E cv wide rd (some (base + i)) fr h o).bind fun r =>
        match r.1 with
        | .val v => (putDst nt fr o.dst v).bind fun fr' => drawList E cv wide rd nt ops base (i + 1) os fr' r.2 (⟨fr, h, r.2, v, true⟩ :: tr)
        | .pan _ => none
    else (putDst nt fr o.dst undefA).bind fun fr' => drawList E cv wide rd nt ops base (i + 1) os fr' h (⟨fr, h, h, undefA, false⟩ :: tr)

/-- does a reading operation read the same ahead of an acting one and behind it? -/
def sameRead (E : Env) (ops : Array Oper) (tr : List Tr) (p : Nat × Nat) : Bool :=
  match ops[p.1]?, tr[tr.length - 1 - p.1]?, tr[tr.length - 1 - p.2]? with
  | some o, some r, some e => if r.ran && e.ran then
      (match plain E false none r.fr e.h o, plain E false none r.fr e.h' o with
        | some a, some b => AV.beq a.1 r.v && AV.beq b.1 r.v
        | _, _ => false)
    else true
  | _, _, _ => false

def loopN {S : Type} (f : S → Option (Ex × S)) : Nat → S → Option (Ex × S)
  | 0, _ => none
  | n + 1, s => (f s).bind fun r => match r.1 with
    | .normal => loopN f n r.2
    | _ => some r

def loopThere (h : H) : Option Nat → Bool
  | some l => (h.loop? l).isSome
  | none => true

/-- code; 'f': the function that it stands in; 'N': how many rounds a loop may take -/
def exec (E : Env) (cv : Cv) (N f nt : Nat) (rd : Option Nat) : Code → St → Option (Ex × St)
  | .skip, s => some (.normal, s)
  | .region id ops draw, s =>
    if draw then
      (drawList E cv (E.wide f) rd nt ops s.h.next 0 ops.toList s.fr ⟨s.h.next + ops.size, s.h.objs⟩ []).bind fun r =>
        if (E.inc f id).all (sameRead E ops r.2.2) then some (.normal, { s with fr := r.1, h := r.2.1 }) else none
    else opList E cv (E.wide f) rd nt ops ops.toList s
  | .seq a b, s => (exec E cv N f nt rd a s).bind fun r => match r.1 with
    | .normal => exec E cv N f nt rd b r.2
    | _ => some r
  | .cond c a b, s => (ev E s.fr c).bind fun v => match v with
    | .bool t => if t then exec E cv N f nt rd a s else exec E cv N f nt rd b s
    | _ => none
  | .block id b, s => (exec E cv N f nt rd b s).bind fun r => some (blockEx id r.1, r.2)
  | .loop b, s => loopN (exec E cv N f nt rd b) N s
  | .exit id, s => some (.exit id, s)
  | .ret, s => some (.ret, s)
  | .label _, _ => none
  | .goto _, _ => none
  | .scope _, _ => none
  | .refuse _, _ => none
  | .rangeFunc g ps assign body, s => if loopThere s.h rd then (ev E s.fr g).bind fun v =>
    (cv v [.fn (.yield s.h.next) [] []] (s.h.new none (.loop ⟨.ready, .normal, s.fr, ps.toList, assign, body, f, nt⟩)).2).bind fun r =>
    match r.1 with
    | .pan v => some (.panic v, { s with h := r.2 })
    | .val _ => (r.2.loop? s.h.next).bind fun lp => if lp.st = .busy then none else some (lp.pending, { s with h := r.2.set s.h.next (.loop { lp with st := .exhausted }) })
    else none

/-- the first place of a byte -/
def idxB (c : UInt8) : List UInt8 → Nat → Int
  | [], _ => -1
  | b :: l, i => if b == c then (i : Int) else idxB c l (i + 1)
/-- functions without a body that the model itself knows -/
def extern (name : String) (args : List AV) : Option AV :=
  if name = "internal/abi.NoEscape" then match args with | [x] => some x | _ => none
  else if name = "internal/bytealg.IndexByteString" then match args with
    | [.str s, .int .u8 c] => some (.int .i64 (idxB (UInt8.ofNat c.toNat) s 0))
    | _ => none
  else if name = "internal/bytealg.CountString" then match args with
    | [.str s, .int .u8 c] => some (.int .i64 (s.count (UInt8.ofNat c.toNat)))
    | _ => none
  else none

def resultsOf (E : Env) (s : St) (fn : Func) : Option AV :=
  (optAll (fun r => match r with
    | .tmp t => some (slot s.fr t)
    | .cell a t => loadVar E s.h t (slot s.fr a)) fn.results.toList).bind fun vs => some (match vs with | [v] => v | vs => .tup vs)

/-- deferred calls, in order -/
def deferred (E : Env) (cv : Cv) : List Df → H → Option H
  | [], h => some h
  | d :: ds, h => match d.fn with
    | .fn (.func f) _ _ => if (E.intr f).isSome then none else (cv d.fn d.args h).bind fun r => match r.1 with
      | .val _ => deferred E cv ds r.2
      | .pan _ => none
    | _ => none

/-- a frame whose places all lie there, each undefined -/
def full : Nat → T AV
  | 0 => .leaf
  | d + 1 => .node (full d) (some undefA) (full d)
def frame0 (nt : Nat) : T AV := full (Nat.log2 nt + 1)

/-- a function's body -/
def run (E : Env) (cv : Cv) (N f : Nat) (fn : Func) (c : Code) (args : List AV) (h : H) : Option (CR × H) :=
  (exec E cv N f (max args.length fn.ntmps) none c ⟨bindArgs 0 args (frame0 (max args.length fn.ntmps)), h, []⟩).bind fun r =>
  match r.1 with
  | .normal | .ret => (deferred E cv r.2.ds r.2.h).bind fun h => (resultsOf E { r.2 with h } fn).bind fun v => some (.val v, h)
  | .panic v => match r.2.ds with | [] => some (.pan v, r.2.h) | _ => none
  | _ => none

def callF (E : Env) (cv : Cv) (N f : Nat) (args : List AV) (h : H) : Option (CR × H) :=
  match E.intr f with
  | some g => (g args).bind fun v => some (.val v, h)
  | none => (E.fn f).bind fun fn =>
    match fn.body with
    | none => (extern fn.name args).bind fun v => some (.val v, h)
    | some c =>
      if AV.closeds args && !E.hold f then
        (run E cv N f fn c args H.empty).bind fun r =>
          match r.1 with
          | .val v => (freeze r.2 1000 v).bind fun v => some (.val v, h)
          | .pan v => (freeze r.2 1000 v).bind fun v => some (.pan v, h)
      else run E cv N f fn c args h

def exOf : Ex → Option Ex
  | .panic _ => none
  | e => some e

def Ex.isNormal : Ex → Bool
  | .normal => true
  | _ => false

/-- one round of a loop over a function -/
def round (E : Env) (cv : Cv) (N l : Nat) (args : List AV) (h : H) : Option (CR × H) :=
  (h.loop? l).bind fun lp =>
  if lp.st = .ready ∧ args.length = lp.params.length ∧ lp.params.all (fun p => decide (p < lp.nt)) = true then
    (exec E cv N lp.fn lp.nt (some l) lp.assign ⟨setParams lp.params args lp.fr, h, []⟩).bind fun r =>
    match r.1 with
    | .normal => (r.2.h.loop? l).bind fun lp1 =>
      if lp1.st = .ready ∧ r.2.ds.isEmpty then
      (exec E cv N lp.fn lp.nt (some l) lp.body { r.2 with h := r.2.h.set l (.loop { lp1 with st := .busy }) }).bind fun r =>
      (exOf r.1).bind fun x => (r.2.h.loop? l).bind fun lp2 =>
      if r.2.ds.isEmpty then
        some (.val (.bool x.isNormal), r.2.h.set l (.loop { lp2 with st := if x.isNormal then .ready else .done, pending := x }))
      else none
      else none
    | _ => none
  else none

/-- a call of a function value -/
def callV (E : Env) (N : Nat) : Nat → Cv
  | 0 => fun _ _ _ => none
  | n + 1 => fun g args h =>
    match g with
    | .fn (.func f) first captured => callF E (callV E N n) N f (first ++ args ++ captured) h
    | .fn (.yield l) [] [] => round E (callV E N n) N l args h
    | _ => none

/-- a call of function f with read-only arguments -/
def call (E : Env) (N n f : Nat) (args : List AV) : Option CR := (callF E (callV E N n) N f args H.empty).bind fun r => some r.1
end Go.Kal
end

section
namespace Go.Kal
open Go

/-- What is known of the model's memory: cells and maps that nobody writes any more; which block an abstract object is; a row's cells in all ('len' of what is told, 'ext': of a token: where the told part ends; of cells: the block's size). -/
structure K where
  imm : Nat → Nat → Option Value
  immM : Nat → Option (List (Value × Value))
  obj : Nat → Option Nat
  len : Nat → Nat
  ext : Nat → Nat
  good : Nat → Code → Prop
  pin : Nat → Option Go.Obj

structure K.le (J J' : K) : Prop where
  imm : ∀ {b o v}, J.imm b o = some v → J'.imm b o = some v
  immM : ∀ {r l}, J.immM r = some l → J'.immM r = some l
  obj : ∀ {i b}, J.obj i = some b → J'.obj i = some b ∧ J'.len i = J.len i ∧ J'.ext i = J.ext i
  good : J'.good = J.good
  pin : J'.pin = J.pin

theorem K.le.refl (J : K) : J.le J := ⟨id, id, fun h => ⟨h, rfl, rfl⟩, rfl, rfl⟩
theorem K.le.trans {A B C : K} (h : A.le B) (k : B.le C) : A.le C :=
  ⟨fun x => k.imm (h.imm x), fun x => k.immM (h.immM x), fun x => by
    obtain ⟨a, b, c⟩ := h.obj x
    obtain ⟨d, e, f⟩ := k.obj a
    exact ⟨d, e.trans b, f.trans c⟩, k.good.trans h.good, k.pin.trans h.pin⟩

inductive VR (J : K) : AV → Value → Prop
  | bool (b : Bool) : VR J (.bool b) (.bool b)
  | int (k : IntKind) (n : Int) : VR J (.int k n) (.int k n)
  | str (s : List UInt8) : VR J (.str s) (.string ⟨⟨s⟩⟩)
  | nilp : VR J .nilp (.pointer none)
  | ptr {id off b : Nat} (h : J.obj id = some b) : VR J (.ptr id off) (.pointer (some ⟨b, off, none⟩))
  | pv {cs : List AV} {b off : Nat} (f : Nat → Value) (hi : ∀ j, j < cs.length → J.imm b (off + j) = some (f j)) (hv : ∀ j (h : j < cs.length), VR J cs[j] (f j)) :
      VR J (.pv cs) (.pointer (some ⟨b, off, none⟩))
  | pel {t : Nat} {cs : List AV} {b off : Nat} (f : Nat → Value) (ht : J.obj t = some b) (hi : ∀ j, j < cs.length → J.imm b (off + j) = some (f j)) (hv : ∀ j (h : j < cs.length), VR J cs[j] (f j)) :
      VR J (.pel t cs) (.pointer (some ⟨b, off, none⟩))
  | nils : VR J .nils (.slice none 0 0)
  | vl {tk : Option Nat} {es : List AV} {b off cap sz : Nat} {a : Addr} (f : Nat → Value) (hpos : 0 < sz) (hsz : ∀ e ∈ es, e.cells.length = sz)
      (hi : ∀ j, j < (cellsOfAll es).length → J.imm b (off + j) = some (f j)) (hv : ∀ j (h : j < (cellsOfAll es).length), VR J (cellsOfAll es)[j] (f j)) (hcap : es.length ≤ cap)
      (htk : ∀ t, tk = some t → J.obj t = some b ∧ J.ext t = off + es.length * sz ∧ off + cap * sz ≤ J.len t)
      (ha : (es = [] ∧ tk = none) ∨ a = ⟨b, off, none⟩) (hemp : es = [] → tk = none ∨ cap = 0) : VR J (.vl tk es) (.slice (some a) es.length cap)
  | sl {sz : Nat} {ag : Bool} {id off len cap b : Nat} {a : Addr} (h : J.obj id = some b) (hpos : 0 < sz) (hl : off + len * sz ≤ J.len id) (hcap : len ≤ cap) (hext : off + cap * sz ≤ J.ext id)
      (ha : cap = 0 ∨ a = ⟨b, off, none⟩) : VR J (.sl sz ag id off len) (.slice (some a) len cap)
  | nilm : VR J .nilm (.map none)
  | mp {id b : Nat} (h : J.obj id = some b) : VR J (.mp id) (.map (some b))
  | mv {es : List (AV × AV)} {r : Nat} (l : List (Value × Value)) (h : J.immM r = some l) (hl : es.length = l.length)
      (hk : ∀ j (h : j < es.length) (h' : j < l.length), VR J es[j].1 l[j].1) (hv : ∀ j (h : j < es.length) (h' : j < l.length), VR J es[j].2 l[j].2) : VR J (.mv es) (.map (some r))
  | fn {g : Fn} {as bs : List AV} {as' bs' : Array Value} (hg : ∀ l, g ≠ .yield l) (ha : as.length = as'.size) (hb : bs.length = bs'.size)
      (hav : ∀ j (h : j < as.length) (h' : j < as'.size), VR J as[j] as'[j]) (hbv : ∀ j (h : j < bs.length) (h' : j < bs'.size), VR J bs[j] bs'[j]) : VR J (.fn g as bs) (.func g as' bs')
  | yield {l b : Nat} (h : J.obj l = some b) : VR J (.fn (.yield l) [] []) (.func (.yield b) #[] #[])
  | nilf : VR J .nilf .nilFunc
  | ifc {t : TypeId} {v : AV} {v' : Value} (h : VR J v v') : VR J (.ifc t v) (.iface t v')
  | nili : VR J .nili .nilIface
  | agg {cs : List AV} {cs' : Array Value} (hl : cs.length = cs'.size) (hv : ∀ j (h : j < cs.length) (h' : j < cs'.size), VR J cs[j] cs'[j]) : VR J (.agg cs) (.agg cs')
  | tup {cs : List AV} {cs' : Array Value} (hl : cs.length = cs'.size) (hv : ∀ j (h : j < cs.length) (h' : j < cs'.size), VR J cs[j] cs'[j]) : VR J (.tup cs) (.tuple cs')

theorem VR.mono {J J' : K} (hJ : J.le J') {v : AV} {v' : Value} (h : VR J v v') : VR J' v v' := by
  induction h with
  | bool b => exact .bool b
  | int k n => exact .int k n
  | str s => exact .str s
  | nilp => exact .nilp
  | ptr h => exact .ptr (hJ.obj h).1
  | pv f hi _ ih => exact .pv f (fun j hj => hJ.imm (hi j hj)) ih
  | pel f ht hi _ ih => exact .pel f (hJ.obj ht).1 (fun j hj => hJ.imm (hi j hj)) ih
  | nils => exact .nils
  | vl f hpos hsz hi _ hcap htk ha hemp ih =>
    refine .vl f hpos hsz (fun j hj => hJ.imm (hi j hj)) ih hcap (fun t ht => ?_) ha hemp
    obtain ⟨a, b, c⟩ := htk t ht
    obtain ⟨d, e, g⟩ := hJ.obj a
    exact ⟨d, by rw [g, b], by rw [e]; exact c⟩
  | sl h hpos hl hcap hext ha =>
    obtain ⟨d, e, g⟩ := hJ.obj h
    exact .sl d hpos (by rw [e]; exact hl) hcap (by rw [g]; exact hext) ha
  | nilm => exact .nilm
  | mp h => exact .mp (hJ.obj h).1
  | mv l h hl _ _ ihk ihv => exact .mv l (hJ.immM h) hl ihk ihv
  | fn hg ha hb _ _ iha ihb => exact .fn hg ha hb iha ihb
  | yield h => exact .yield (hJ.obj h).1
  | nilf => exact .nilf
  | ifc _ ih => exact .ifc ih
  | nili => exact .nili
  | agg hl _ ih => exact .agg hl ih
  | tup hl _ ih => exact .tup hl ih

/-- lists of values, one by one -/
def LR (J : K) (l : List AV) (l' : List Value) : Prop := l.length = l'.length ∧ ∀ j (h : j < l.length) (h' : j < l'.length), VR J l[j] l'[j]

theorem LR.nil (J : K) : LR J [] [] := ⟨rfl, fun j h => absurd h (by simp)⟩
theorem LR.cons {J : K} {a : AV} {a' : Value} {l : List AV} {l' : List Value} (h : VR J a a') (t : LR J l l') : LR J (a :: l) (a' :: l') :=
  ⟨by simp [t.1], fun j hj hj' => by
    cases j with
    | zero => exact h
    | succ j => exact t.2 j (by simpa using hj) (by simpa using hj')⟩
theorem LR.uncons {J : K} {a : AV} {l : List AV} {l' : List Value} (h : LR J (a :: l) l') : ∃ a' t', l' = a' :: t' ∧ VR J a a' ∧ LR J l t' := by
  obtain ⟨hl, hv⟩ := h
  cases l' with
  | nil => simp at hl
  | cons a' t' =>
    refine ⟨a', t', rfl, hv 0 (by simp) (by simp), by simpa using hl, fun j hj hj' => ?_⟩
    exact hv (j + 1) (by simpa using hj) (by simpa using hj')
theorem LR.nil_inv {J : K} {l' : List Value} (h : LR J [] l') : l' = [] := List.eq_nil_of_length_eq_zero h.1.symm
theorem LR.mono {J J' : K} (hJ : J.le J') {l : List AV} {l' : List Value} (h : LR J l l') : LR J' l l' := ⟨h.1, fun j a b => (h.2 j a b).mono hJ⟩
theorem LR.append {J : K} {a b : List AV} {a' b' : List Value} (h : LR J a a') (k : LR J b b') : LR J (a ++ b) (a' ++ b') := by
  refine ⟨by simp [h.1, k.1], fun j hj hj' => ?_⟩
  rw [List.getElem_append, List.getElem_append]
  have e := h.1
  split
  · rename_i h1
    rw [dif_pos (by omega)]
    exact h.2 j h1 (by omega)
  · rename_i h1
    rw [dif_neg (by omega)]
    simp only [← e]
    exact k.2 _ _ _
theorem LR.take {J : K} {l : List AV} {l' : List Value} (h : LR J l l') (n : Nat) : LR J (l.take n) (l'.take n) :=
  ⟨by simp [h.1], fun j a b => by simp only [List.getElem_take]; exact h.2 j _ _⟩
theorem LR.drop {J : K} {l : List AV} {l' : List Value} (h : LR J l l') (n : Nat) : LR J (l.drop n) (l'.drop n) :=
  ⟨by simp [h.1], fun j a b => by simp only [List.getElem_drop]; exact h.2 _ _ _⟩
theorem LR.get? {J : K} {l : List AV} {l' : List Value} (h : LR J l l') {n : Nat} {v : AV} (hv : l[n]? = some v) : ∃ v', l'[n]? = some v' ∧ VR J v v' := by
  obtain ⟨hn, rfl⟩ := List.getElem?_eq_some_iff.1 hv
  have hn' : n < l'.length := by rw [← h.1]; exact hn
  exact ⟨l'[n], List.getElem?_eq_getElem hn', h.2 n hn hn'⟩
theorem LR.set {J : K} {l : List AV} {l' : List Value} (h : LR J l l') (n : Nat) {v : AV} {v' : Value} (hv : VR J v v') : LR J (l.set n v) (l'.set n v') :=
  ⟨by simp [h.1], fun j a b => by
    rw [List.getElem_set, List.getElem_set]
    split
    · exact hv
    · exact h.2 _ _ _⟩
theorem LR.of_fn {J : K} {cs : List AV} (f : Nat → Value) (hv : ∀ j (h : j < cs.length), VR J cs[j] (f j)) : LR J cs ((List.range cs.length).map f) :=
  ⟨by simp, fun j a b => by simp; exact hv j a⟩

theorem VR.agg_iff {J : K} {cs : List AV} {v : Value} : VR J (.agg cs) v ↔ ∃ cs', v = .agg cs' ∧ LR J cs cs'.toList :=
  ⟨fun h => by cases h with | agg hl hv => exact ⟨_, rfl, hl, fun j a b => hv j a b⟩,
   fun ⟨cs', e, hl, hv⟩ => by subst e; exact .agg hl (fun j a b => hv j a b)⟩
theorem VR.tup_iff {J : K} {cs : List AV} {v : Value} : VR J (.tup cs) v ↔ ∃ cs', v = .tuple cs' ∧ LR J cs cs'.toList :=
  ⟨fun h => by cases h with | tup hl hv => exact ⟨_, rfl, hl, fun j a b => hv j a b⟩,
   fun ⟨cs', e, hl, hv⟩ => by subst e; exact .tup hl (fun j a b => hv j a b)⟩
theorem VR.cells {J : K} {v : AV} {v' : Value} (h : VR J v v') : LR J v.cells v'.cells.toList := by
  cases h with
  | agg hl hv => exact ⟨hl, fun j a b => hv j a b⟩
  | _ => exact LR.cons (by first | exact .bool _ | exact .int _ _ | exact .str _ | exact .nilp | (constructor <;> assumption)) (LR.nil J)

theorem undefR (J : K) : VR J undefA undef := .tup (by simp) (fun j h => absurd h (by simp))

/-- frames -/
structure FR (J : K) (fr : T AV) (nt : Nat) (tmps : Array Value) : Prop where
  size : tmps.size = nt
  val : ∀ t, VR J (slot fr t) (tmps.getD t undef)

theorem FR.mono {J J' : K} (hJ : J.le J') {fr : T AV} {nt : Nat} {tmps : Array Value} (h : FR J fr nt tmps) : FR J' fr nt tmps := ⟨h.size, fun t => (h.val t).mono hJ⟩

def exR : Ex → Option Code → Prop
  | .normal, c => c = none
  | .exit id, c => c = some (.exit id)
  | .ret, c => c = some .ret
  | .panic _, _ => False

def lsR : LS → LoopState
  | .ready => .ready
  | .busy => .busy
  | .done => .done
  | .exhausted => .exhausted

/-- an abstract object and the model's block b -/
def OR (J : K) (id b : Nat) : Obj → Go.Obj → Prop
  | .cells el c, ob => ∃ cs lo hi, ob = .cells cs el (lo, hi) ∧ c.length = J.len id ∧ c.length ≤ cs.size ∧ J.ext id = cs.size ∧ LR J c (cs.toList.take c.length) ∧ (∀ i, i < cs.size → ¬ (lo ≤ i ∧ i < hi)) ∧ (∀ o, J.imm b o = none) ∧ J.immM b = none
  | .tok el, ob => ∃ cs lo hi, ob = .cells cs el (lo, hi) ∧ J.len id = cs.size ∧ J.ext id ≤ cs.size ∧ (lo = hi ∨ hi ≤ J.ext id) ∧ (∀ o, J.ext id ≤ o → J.imm b o = none) ∧ J.immM b = none
  | .map es, ob => ∃ ents ck, ob = .map ents ck ∧ es.length = ents.size ∧ (∀ j (h : j < es.length) (h' : j < ents.size), VR J es[j].1 ents[j].key ∧ VR J es[j].2 ents[j].val ∧ ents[j].born = j) ∧ ck = ents.size ∧ J.immM b = none ∧ (∀ o, J.imm b o = none)
  | .mapIter m st, ob => ∃ mb, J.obj m = some mb ∧ ((st = 0 ∧ ob = .mapIter (some mb) 0 #[] 0) ∨ (st = 1 ∧ ob = .mapIter (some mb) 1 #[] 1) ∨ (st = 2 ∧ ob = .mapIter (some mb) 1 #[0] 1)) ∧ (∀ o, J.imm b o = none) ∧ J.immM b = none
  | .strIter s pos, ob => ob = .stringIter ⟨⟨s⟩⟩ pos ∧ (∀ o, J.imm b o = none) ∧ J.immM b = none
  | .loop l, ob => ∃ L : Loop, ob = .loop L ∧ L.state = lsR l.st ∧ exR l.pending L.pending ∧ L.fn = l.fn ∧ FR J l.fr l.nt L.tmps ∧ L.params.toList = l.params ∧ L.assign = l.assign ∧ L.body = l.body ∧ (J.good l.fn l.assign ∧ J.good l.fn l.body) ∧ (∀ o, J.imm b o = none) ∧ J.immM b = none

/-- blocks that stay as they are for good -/
structure Pin (J : K) (w : World) : Prop where
  blk : ∀ {b o}, J.pin b = some o → w.heap[b]? = some o
  obj : ∀ {id b}, J.obj id = some b → J.pin b = none
  cells : ∀ {b o}, J.pin b = some o → ∃ cs el fz, o = .cells cs el fz

theorem Pin.lt {J : K} {w : World} (hp : Pin J w) {b : Nat} (h : J.pin b ≠ none) : b < w.heap.size := by
  obtain ⟨o, ho⟩ := Option.ne_none_iff_exists'.1 h
  exact (Array.getElem?_eq_some_iff.1 (hp.blk ho)).1

theorem Pin.grow {J J' : K} {w w' : World} (hp : Pin J w) (he : J'.pin = J.pin) (hb : ∀ b, J.pin b ≠ none → w'.heap[b]? = w.heap[b]?) (ho : ∀ {id b}, J'.obj id = some b → J.obj id = some b ∨ w.heap.size ≤ b ∨ ∃ i, J.obj i = some b) : Pin J' w' where
  blk := fun {b o} h => by
    rw [he] at h
    rw [hb b (by rw [h]; simp)]
    exact hp.blk h
  obj := fun {id b} h => by
    rw [he]
    rcases ho h with q | q | ⟨i, q⟩
    · exact hp.obj q
    · cases hq : J.pin b with
      | none => rfl
      | some o => have := hp.lt (b := b) (by rw [hq]; simp); omega
    · exact hp.obj q
  cells := fun h => hp.cells (by rw [← he]; exact h)

structure W (J : K) (h : H) (w : World) : Prop where
  imm : ∀ {b o v}, J.imm b o = some v → ∃ cs el fz, w.heap[b]? = some (.cells cs el fz) ∧ cs[o]? = some v
  immM : ∀ {r l}, J.immM r = some l → ∃ es ck, w.heap[r]? = some (.map es ck) ∧ es.toList.map (fun e => (e.key, e.val)) = l
  live : ∀ {id o b}, h.get id = some o → J.obj id = some b → ∃ ob, w.heap[b]? = some ob ∧ OR J id b o ob
  apart : ∀ {id id' b}, (h.get id).isSome → (h.get id').isSome → J.obj id = some b → J.obj id' = some b → id = id'
  ids : ∀ {id}, (h.get id).isSome → id < h.next
  fresh : ∀ {id}, h.next ≤ id → J.obj id = none
  lt : ∀ {id b}, J.obj id = some b → b < w.heap.size
  pin : Pin J w

/-- how memory goes on; what is no object, below the next number, stays none and as it is, but for the place 'x' -/
structure Ext (x : Option Nat) (J : K) (h : H) (w : World) (J' : K) (h' : H) (w' : World) : Prop where
  le : J.le J'
  os : w'.os = w.os
  tape : w'.tape = w.tape
  output : w'.output = w.output
  size : w.heap.size ≤ w'.heap.size
  keep : ∀ {b}, b < w.heap.size → (∀ id, (h.get id).isSome → J.obj id ≠ some b) → w'.heap[b]? = w.heap[b]?
  own : ∀ {id b}, (h'.get id).isSome → J'.obj id = some b → w.heap.size ≤ b ∨ ∃ i, (h.get i).isSome ∧ J.obj i = some b
  next : h.next ≤ h'.next
  newImm : ∀ b o, J'.imm b o = J.imm b o ∨ w.heap.size ≤ b ∨ ∃ i, (h.get i).isSome ∧ J.obj i = some b
  newImmM : ∀ b, J'.immM b = J.immM b ∨ w.heap.size ≤ b ∨ ∃ i, (h.get i).isSome ∧ J.obj i = some b
  still : ∀ {id}, some id ≠ x → J.obj id = none → id < h.next → J'.obj id = none ∧ h'.get id = h.get id

theorem Ext.refl {x : Option Nat} (J : K) (h : H) (w : World) : Ext x J h w J h w :=
  ⟨.refl J, rfl, rfl, rfl, Nat.le_refl _, fun _ _ => rfl, fun a b => .inr ⟨_, a, b⟩, Nat.le_refl _, fun _ _ => .inl rfl, fun _ => .inl rfl, fun _ a _ => ⟨a, rfl⟩⟩

theorem Ext.weaken {x : Option Nat} {J : K} {h : H} {w : World} {J1 : K} {h1 : H} {w1 : World} (a : Ext none J h w J1 h1 w1) : Ext x J h w J1 h1 w1 :=
  ⟨a.le, a.os, a.tape, a.output, a.size, a.keep, a.own, a.next, a.newImm, a.newImmM, fun _ => a.still (by simp)⟩

theorem Ext.trans {x : Option Nat} {J : K} {h : H} {w : World} {J1 : K} {h1 : H} {w1 : World} {J2 : K} {h2 : H} {w2 : World} (a : Ext x J h w J1 h1 w1) (b : Ext x J1 h1 w1 J2 h2 w2) : Ext x J h w J2 h2 w2 where
  le := a.le.trans b.le
  os := b.os.trans a.os
  tape := b.tape.trans a.tape
  output := b.output.trans a.output
  size := Nat.le_trans a.size b.size
  keep := fun {x} hx hn => by
    rw [b.keep (Nat.lt_of_lt_of_le hx a.size) ?_, a.keep hx hn]
    intro id hid e
    rcases a.own hid e with h | ⟨i, h, k⟩
    · omega
    · exact hn i h k
  own := fun {id x} hid e => by
    rcases b.own hid e with h | ⟨i, h, k⟩
    · exact .inl (Nat.le_trans a.size h)
    · exact a.own h k
  next := Nat.le_trans a.next b.next
  newImm := fun x o => by
    rcases b.newImm x o with h | h | ⟨i, h, k⟩
    · rcases a.newImm x o with g | g | g
      · exact .inl (h.trans g)
      · exact .inr (.inl g)
      · exact .inr (.inr g)
    · exact .inr (.inl (Nat.le_trans a.size h))
    · exact .inr (a.own h k)
  newImmM := fun x => by
    rcases b.newImmM x with h | h | ⟨i, h, k⟩
    · rcases a.newImmM x with g | g | g
      · exact .inl (h.trans g)
      · exact .inr (.inl g)
      · exact .inr (.inr g)
    · exact .inr (.inl (Nat.le_trans a.size h))
    · exact .inr (a.own h k)
  still := fun hx hj hlt => by
    obtain ⟨j1, g1⟩ := a.still hx hj hlt
    obtain ⟨j2, g2⟩ := b.still hx j1 (Nat.lt_of_lt_of_le hlt a.next)
    exact ⟨j2, g2.trans g1⟩
end Go.Kal
end

section
namespace Go.Kal
open Go

theorem T.get_put {α : Type} (a : Option α) : ∀ (k : Nat) (t : T α) (n m : Nat), n < k → (T.put k t n a).get m = if m = n then a else t.get m
  | 0, _, _, _, h => absurd h (by omega)
  | k + 1, .leaf, n, m, h => by
    simp only [T.put]
    by_cases h0 : n = 0
    · subst h0
      simp only [if_true, T.get]
      by_cases hm : m = 0
      · simp [hm]
      · simp only [if_neg hm]
        split <;> simp
    · rw [if_neg h0]
      by_cases h1 : n % 2 = 1
      · rw [if_pos h1]
        simp only [T.get]
        by_cases hm : m = 0
        · rw [if_pos hm, if_neg (by omega)]
        · rw [if_neg hm]
          by_cases hm1 : m % 2 = 1
          · rw [if_pos hm1, T.get_put a k .leaf (n / 2) (m / 2) (by omega)]
            by_cases e : m = n
            · rw [if_pos e, if_pos (by omega)]
            · rw [if_neg e, if_neg (by omega)]; rfl
          · rw [if_neg hm1, if_neg (by omega)]
      · rw [if_neg h1]
        simp only [T.get]
        by_cases hm : m = 0
        · rw [if_pos hm, if_neg (by omega)]
        · rw [if_neg hm]
          by_cases hm1 : m % 2 = 1
          · rw [if_pos hm1, if_neg (by omega)]
          · rw [if_neg hm1, T.get_put a k .leaf (n / 2 - 1) (m / 2 - 1) (by omega)]
            by_cases e : m = n
            · rw [if_pos e, if_pos (by omega)]
            · rw [if_neg e, if_neg (by omega)]; rfl
  | k + 1, .node l v r, n, m, h => by
    simp only [T.put]
    by_cases h0 : n = 0
    · subst h0
      simp only [if_true, T.get]
      by_cases hm : m = 0
      · simp [hm]
      · simp [hm]
    · rw [if_neg h0]
      by_cases h1 : n % 2 = 1
      · rw [if_pos h1]
        simp only [T.get]
        by_cases hm : m = 0
        · rw [if_pos hm, if_neg (by omega), if_pos hm]
        · rw [if_neg hm, if_neg hm]
          by_cases hm1 : m % 2 = 1
          · rw [if_pos hm1, if_pos hm1, T.get_put a k l (n / 2) (m / 2) (by omega)]
            by_cases e : m = n
            · rw [if_pos e, if_pos (by omega)]
            · rw [if_neg e, if_neg (by omega)]
          · rw [if_neg hm1, if_neg hm1, if_neg (by omega)]
      · rw [if_neg h1]
        simp only [T.get]
        by_cases hm : m = 0
        · rw [if_pos hm, if_neg (by omega), if_pos hm]
        · rw [if_neg hm, if_neg hm]
          by_cases hm1 : m % 2 = 1
          · rw [if_pos hm1, if_pos hm1, if_neg (by omega)]
          · rw [if_neg hm1, if_neg hm1, T.get_put a k r (n / 2 - 1) (m / 2 - 1) (by omega)]
            by_cases e : m = n
            · rw [if_pos e, if_pos (by omega)]
            · rw [if_neg e, if_neg (by omega)]

theorem T.get_set {α : Type} (t : T α) (n m : Nat) (a : Option α) : (t.set n a).get m = if m = n then a else t.get m := T.get_put a (n + 1) t n m (by omega)

theorem H.get_set (h : H) (i j : Nat) (o : Obj) : (h.set i o).get j = if j = i then some o else h.get j := T.get_set _ _ _ _
theorem H.get_kill (h : H) (i j : Nat) : (h.kill i).get j = if j = i then none else h.get j := T.get_set _ _ _ _
theorem H.get_empty (j : Nat) : H.empty.get j = none := rfl
@[simp] theorem H.next_set (h : H) (i : Nat) (o : Obj) : (h.set i o).next = h.next := rfl
@[simp] theorem H.next_kill (h : H) (i : Nat) : (h.kill i).next = h.next := rfl

theorem H.cells?_eq {h : H} {i : Nat} {c : TypeId × List AV} : h.cells? i = some c ↔ h.get i = some (.cells c.1 c.2) := by
  unfold H.cells?
  split
  · rename_i e c' heq
    rw [heq]
    constructor
    · intro h; cases h; rfl
    · intro h; cases h; rfl
  · rename_i hn
    constructor
    · intro h; cases h
    · intro h; exact absurd h (hn _ _)
theorem H.map?_eq {h : H} {i : Nat} {es : List (AV × AV)} : h.map? i = some es ↔ h.get i = some (.map es) := by
  unfold H.map?
  split
  · rename_i c' heq
    rw [heq]
    constructor
    · intro h; cases h; rfl
    · intro h; cases h; rfl
  · rename_i hn
    constructor
    · intro h; cases h
    · intro h; exact absurd h (hn _)
theorem H.tok?_eq {h : H} {i : Nat} {e : TypeId} : h.tok? i = some e ↔ h.get i = some (.tok e) := by
  unfold H.tok?
  split
  · rename_i c' heq
    rw [heq]
    constructor
    · intro h; cases h; rfl
    · intro h; cases h; rfl
  · rename_i hn
    constructor
    · intro h; cases h
    · intro h; exact absurd h (hn _)
theorem H.loop?_eq {h : H} {i : Nat} {l : Lp} : h.loop? i = some l ↔ h.get i = some (.loop l) := by
  unfold H.loop?
  split
  · rename_i c' heq
    rw [heq]
    constructor
    · intro h; cases h; rfl
    · intro h; cases h; rfl
  · rename_i hn
    constructor
    · intro h; cases h
    · intro h; exact absurd h (hn _)

theorem OR.mono {J J' : K} (hJ : J.le J') {id b : Nat} {o : Obj} {ob : Go.Obj} (hid : J.obj id = some b) (himm : ∀ x, J'.imm b x = J.imm b x) (himmM : J'.immM b = J.immM b) (h : OR J id b o ob) : OR J' id b o ob := by
  obtain ⟨_, hl, he⟩ := hJ.obj hid
  cases o with
  | cells el c =>
    obtain ⟨cs, lo, hi, e, a1, a2, a3, a4, a5, a6, a7⟩ := h
    exact ⟨cs, lo, hi, e, by rw [hl]; exact a1, a2, by rw [he]; exact a3, a4.mono hJ, a5, fun x => by rw [himm]; exact a6 x, by rw [himmM]; exact a7⟩
  | tok el =>
    obtain ⟨cs, lo, hi, e, a1, a2, a3, a4, a5⟩ := h
    exact ⟨cs, lo, hi, e, by rw [hl]; exact a1, by rw [he]; exact a2, by rw [he]; exact a3, fun x hx => by rw [himm]; exact a4 x (by rw [← he]; exact hx), by rw [himmM]; exact a5⟩
  | map es =>
    obtain ⟨ents, ck, e, a1, a2, a3, a4, a5⟩ := h
    exact ⟨ents, ck, e, a1, fun j x y => ⟨(a2 j x y).1.mono hJ, (a2 j x y).2.1.mono hJ, (a2 j x y).2.2⟩, a3, by rw [himmM]; exact a4, fun x => by rw [himm]; exact a5 x⟩
  | mapIter m st =>
    obtain ⟨mb, a1, a2, a3, a4⟩ := h
    exact ⟨mb, (hJ.obj a1).1, a2, fun x => by rw [himm]; exact a3 x, by rw [himmM]; exact a4⟩
  | strIter s pos =>
    obtain ⟨a1, a2, a3⟩ := h
    exact ⟨a1, fun x => by rw [himm]; exact a2 x, by rw [himmM]; exact a3⟩
  | loop l =>
    obtain ⟨L, a1, a2, a3, a4, a5, a6, a7, a8, ag, a9, a10⟩ := h
    exact ⟨L, a1, a2, a3, a4, a5.mono hJ, a6, a7, a8, by rw [hJ.good]; exact ag, fun x => by rw [himm]; exact a9 x, by rw [himmM]; exact a10⟩

/-- a new object known by K, with what is known of its block for good -/
def K.put (J : K) (id b len ext : Nat) (f : Nat → Option Value) : K :=
  { J with imm := fun b' o => if b' = b then f o else J.imm b' o, obj := fun i => if i = id then some b else J.obj i, len := fun i => if i = id then len else J.len i, ext := fun i => if i = id then ext else J.ext i }

theorem K.le_put {J : K} {id b len ext : Nat} {f : Nat → Option Value} (h : J.obj id = none) (hi : ∀ o v, J.imm b o = some v → f o = some v) : J.le (J.put id b len ext f) :=
  ⟨fun {b' o v} h => by
    by_cases e : b' = b
    · subst e; simp only [K.put, if_true]; exact hi _ _ h
    · simp only [K.put, if_neg e]; exact h, fun h => h, fun {i b'} e => by
    have hne : i ≠ id := fun x => by rw [x, h] at e; cases e
    exact ⟨by simp [K.put, hne, e], by simp [K.put, hne], by simp [K.put, hne]⟩, rfl, rfl⟩
section
variable {J : K} {id b len ext : Nat} {f : Nat → Option Value}
theorem K.put_self : (J.put id b len ext f).obj id = some b := by simp [K.put]
theorem K.put_len : (J.put id b len ext f).len id = len := by simp [K.put]
theorem K.put_ext : (J.put id b len ext f).ext id = ext := by simp [K.put]
theorem K.put_other {i : Nat} (h : i ≠ id) : (J.put id b len ext f).obj i = J.obj i := by simp [K.put, h]
theorem K.put_imm {o : Nat} : (J.put id b len ext f).imm b o = f o := by simp [K.put]
theorem K.put_imm' {b' o : Nat} (h : b' ≠ b) : (J.put id b len ext f).imm b' o = J.imm b' o := by simp [K.put, h]
theorem K.put_immM {b' : Nat} : (J.put id b len ext f).immM b' = J.immM b' := rfl
end

/-- A place that is free for a new object. -/
structure Free (J : K) (h : H) (id : Nat) : Prop where
  obj : J.obj id = none
  get : h.get id = none

theorem W.imm_lt {J : K} {h : H} {w : World} (hW : W J h w) {b o : Nat} {v : Value} (e : J.imm b o = some v) : b < w.heap.size := by
  obtain ⟨cs, el, fz, h1, _⟩ := hW.imm e
  exact (Array.getElem?_eq_some_iff.1 h1).1
theorem W.immM_lt {J : K} {h : H} {w : World} (hW : W J h w) {b : Nat} {l} (e : J.immM b = some l) : b < w.heap.size := by
  obtain ⟨cs, el, h1, _⟩ := hW.immM e
  exact (Array.getElem?_eq_some_iff.1 h1).1
theorem W.imm_new {J : K} {h : H} {w : World} (hW : W J h w) (o : Nat) : J.imm w.heap.size o = none := by
  cases e : J.imm w.heap.size o with
  | none => rfl
  | some v => exact absurd (hW.imm_lt e) (by omega)
theorem W.immM_new {J : K} {h : H} {w : World} (hW : W J h w) : J.immM w.heap.size = none := by
  cases e : J.immM w.heap.size with
  | none => rfl
  | some v => exact absurd (hW.immM_lt e) (by omega)

/-- **A NEW OBJECT.** -/
theorem W.new {J : K} {h : H} {w : World} (hW : W J h w) {id : Nat} {at_ : Option Nat} (hat : (at_ = none ∧ id = h.next) ∨ (at_ = some id ∧ id < h.next)) (hf : Free J h id) (o : Obj) (ob : Go.Obj) (len ext : Nat) (f : Nat → Option Value)
    (hO : OR (J.put id w.heap.size len ext f) id w.heap.size o ob) (hI : ∀ x v, f x = some v → ∃ cs el fz, ob = .cells cs el fz ∧ cs[x]? = some v) :
    (h.new at_ o).1 = id ∧ W (J.put id w.heap.size len ext f) (h.new at_ o).2 (w.alloc ob) ∧ Ext at_ J h w (J.put id w.heap.size len ext f) (h.new at_ o).2 (w.alloc ob) := by
  have hget : ∀ i, (h.new at_ o).2.get i = if i = id then some o else h.get i := by
    intro i
    rcases hat with ⟨e, e2⟩ | ⟨e, e2⟩
    · subst e e2; exact T.get_set _ _ _ _
    · subst e; exact T.get_set _ _ _ _
  have hnext : h.next ≤ (h.new at_ o).2.next ∧ id < (h.new at_ o).2.next := by
    rcases hat with ⟨e, e2⟩ | ⟨e, e2⟩
    · subst e e2; exact ⟨Nat.le_succ _, Nat.lt_succ_self _⟩
    · subst e; exact ⟨Nat.le_refl _, e2⟩
  have hid : (h.new at_ o).1 = id := by
    rcases hat with ⟨e, e2⟩ | ⟨e, e2⟩
    · subst e e2; rfl
    · subst e; rfl
  have hle : J.le (J.put id w.heap.size len ext f) := K.le_put hf.obj (fun o v e => by rw [hW.imm_new] at e; cases e)
  have hold : ∀ {i b}, i ≠ id → (J.put id w.heap.size len ext f).obj i = some b → J.obj i = some b := fun hne e => by rwa [K.put_other hne] at e
  have hheap : ∀ k, k < w.heap.size → (w.alloc ob).heap[k]? = w.heap[k]? := fun k hk => by
    show (w.heap.push ob)[k]? = _
    rw [Array.getElem?_push, if_neg (by omega)]
  have hnew : (w.alloc ob).heap[w.heap.size]? = some ob := by
    show (w.heap.push ob)[w.heap.size]? = _
    simp
  refine ⟨hid, ?_, ?_⟩
  · refine ⟨?_, ?_, ?_, ?_, ?_, ?_, ?_, hW.pin.grow rfl (fun b hb => hheap b (hW.pin.lt hb)) (fun {i b} e => ?_)⟩
    rotate_right
    · by_cases n1 : i = id
      · subst n1; rw [K.put_self] at e; cases e; exact .inr (.inl (Nat.le_refl _))
      · exact .inl (hold n1 e)
    · intro b x v e
      by_cases hb : b = w.heap.size
      · subst hb
        rw [K.put_imm] at e
        obtain ⟨cs, el, fz, h1, h2⟩ := hI x v e
        exact ⟨cs, el, fz, by rw [hnew, h1], h2⟩
      · rw [K.put_imm' hb] at e
        obtain ⟨cs, el, fz, h1, h2⟩ := hW.imm e
        exact ⟨cs, el, fz, by rw [hheap _ (Array.getElem?_eq_some_iff.1 h1).1]; exact h1, h2⟩
    · intro r l e
      obtain ⟨cs, el, h1, h2⟩ := hW.immM (show J.immM r = some l from e)
      exact ⟨cs, el, by rw [hheap _ (Array.getElem?_eq_some_iff.1 h1).1]; exact h1, h2⟩
    · intro i o' b hg hb
      rw [hget] at hg
      by_cases hne : i = id
      · subst hne
        rw [if_pos rfl] at hg
        cases hg
        rw [K.put_self] at hb
        cases hb
        exact ⟨ob, hnew, hO⟩
      · rw [if_neg hne] at hg
        obtain ⟨ob', h1, h2⟩ := hW.live hg (hold hne hb)
        have hlt := hW.lt (hold hne hb)
        exact ⟨ob', by rw [hheap _ hlt]; exact h1, h2.mono hle (hold hne hb) (fun _ => K.put_imm' (by omega)) rfl⟩
    · intro i i' b h1 h2 e1 e2
      rw [hget] at h1 h2
      by_cases n1 : i = id <;> by_cases n2 : i' = id
      · rw [n1, n2]
      · subst n1
        rw [K.put_self] at e1
        cases e1
        have := hW.lt (hold n2 e2)
        omega
      · subst n2
        rw [K.put_self] at e2
        cases e2
        have := hW.lt (hold n1 e1)
        omega
      · rw [if_neg n1] at h1
        rw [if_neg n2] at h2
        exact hW.apart h1 h2 (hold n1 e1) (hold n2 e2)
    · intro i hi
      rw [hget] at hi
      by_cases n1 : i = id
      · subst n1; exact hnext.2
      · rw [if_neg n1] at hi
        exact Nat.lt_of_lt_of_le (hW.ids hi) hnext.1
    · intro i hi
      have n1 : i ≠ id := fun e => by subst e; exact absurd hnext.2 (by omega)
      rw [K.put_other n1]
      exact hW.fresh (Nat.le_trans hnext.1 hi)
    · intro i b e
      rw [World.size_alloc]
      by_cases n1 : i = id
      · subst n1; rw [K.put_self] at e; cases e; omega
      · have := hW.lt (hold n1 e); omega
  · refine ⟨hle, rfl, rfl, rfl, by rw [World.size_alloc]; omega, fun hb _ => hheap _ hb, ?_, hnext.1, fun b o => ?_, fun _ => .inl rfl, ?_⟩
    · intro i b hi e
      rw [hget] at hi
      by_cases n1 : i = id
      · subst n1; rw [K.put_self] at e; cases e; exact .inl (Nat.le_refl _)
      · rw [if_neg n1] at hi
        exact .inr ⟨i, hi, hold n1 e⟩
    · by_cases hb : b = w.heap.size
      · exact .inr (.inl (by omega))
      · exact .inl (K.put_imm' hb)
    · intro i hx hj hlt
      have n1 : i ≠ id := fun e => by
        subst e
        rcases hat with ⟨e, e2⟩ | ⟨e, e2⟩
        · omega
        · exact hx e.symm
      rw [hget, if_neg n1, K.put_other n1]
      exact ⟨hj, rfl⟩

/-- a block that nobody will write, and that no object is -/
def K.known (J : K) (b : Nat) (f : Nat → Option Value) : K := { J with imm := fun b' o => if b' = b then f o else J.imm b' o }
theorem W.known {x : Option Nat} {J : K} {h : H} {w : World} (hW : W J h w) (ob : Go.Obj) (f : Nat → Option Value) (hI : ∀ x v, f x = some v → ∃ cs el fz, ob = .cells cs el fz ∧ cs[x]? = some v) :
    W (J.known w.heap.size f) h (w.alloc ob) ∧ Ext x J h w (J.known w.heap.size f) h (w.alloc ob) := by
  have hheap : ∀ k, k < w.heap.size → (w.alloc ob).heap[k]? = w.heap[k]? := fun k hk => by
    show (w.heap.push ob)[k]? = _
    rw [Array.getElem?_push, if_neg (by omega)]
  have hnew : (w.alloc ob).heap[w.heap.size]? = some ob := by
    show (w.heap.push ob)[w.heap.size]? = _
    simp
  have himm' : ∀ b o, b ≠ w.heap.size → (J.known w.heap.size f).imm b o = J.imm b o := fun b o hb => by simp [K.known, hb]
  have hle : J.le (J.known w.heap.size f) := ⟨fun {b o v} e => by
    have : b ≠ w.heap.size := by have := hW.imm_lt e; omega
    rw [himm' _ _ this]; exact e, fun e => e, fun e => ⟨e, rfl, rfl⟩, rfl, rfl⟩
  refine ⟨⟨?_, ?_, ?_, hW.apart, hW.ids, hW.fresh, fun e => (by rw [World.size_alloc]; have := hW.lt e; omega), hW.pin.grow rfl (fun b hb => hheap b (hW.pin.lt hb)) (fun e => .inl e)⟩, ⟨hle, rfl, rfl, rfl, by rw [World.size_alloc]; omega, fun hb _ => hheap _ hb, fun a b => .inr ⟨_, a, b⟩, Nat.le_refl _, fun b o => ?_, fun _ => .inl rfl, fun _ a _ => ⟨a, rfl⟩⟩⟩
  · intro b x v e
    by_cases hb : b = w.heap.size
    · subst hb
      simp only [K.known, if_true] at e
      obtain ⟨cs, el, fz, h1, h2⟩ := hI x v e
      exact ⟨cs, el, fz, by rw [hnew, h1], h2⟩
    · rw [himm' _ _ hb] at e
      obtain ⟨cs, el, fz, h1, h2⟩ := hW.imm e
      exact ⟨cs, el, fz, by rw [hheap _ (Array.getElem?_eq_some_iff.1 h1).1]; exact h1, h2⟩
  · intro r l e
    obtain ⟨cs, el, h1, h2⟩ := hW.immM (show J.immM r = some l from e)
    exact ⟨cs, el, by rw [hheap _ (Array.getElem?_eq_some_iff.1 h1).1]; exact h1, h2⟩
  · intro i o' b hg hb
    obtain ⟨ob', h1, h2⟩ := hW.live hg hb
    have hlt := hW.lt (show J.obj i = some b from hb)
    exact ⟨ob', by rw [hheap _ hlt]; exact h1, h2.mono hle hb (fun _ => himm' _ _ (by omega)) rfl⟩
  · by_cases hb : b = w.heap.size
    · exact .inr (.inl (by omega))
    · exact .inl (himm' _ _ hb)

theorem W.free_next {J : K} {h : H} {w : World} (hW : W J h w) : Free J h h.next :=
  ⟨hW.fresh (Nat.le_refl _), by
    cases e : h.get h.next with
    | none => rfl
    | some o => exact absurd (hW.ids (by rw [e]; rfl)) (by omega)⟩

/-- a draw -/
theorem W.drew {J : K} {h : H} {w : World} (hW : W J h w) : W J h w.drew := ⟨hW.imm, hW.immM, hW.live, hW.apart, hW.ids, hW.fresh, hW.lt, hW.pin.grow rfl (fun _ _ => rfl) (fun e => .inl e)⟩
theorem Ext.drew {x : Option Nat} (J : K) (h : H) (w : World) : Ext x J h w J h w.drew :=
  ⟨.refl J, rfl, rfl, rfl, Nat.le_refl _, fun _ _ => rfl, fun a b => .inr ⟨_, a, b⟩, Nat.le_refl _, fun _ _ => .inl rfl, fun _ => .inl rfl, fun _ a _ => ⟨a, rfl⟩⟩

/-- **AN OBJECT TURNS.** Only its block turns. -/
theorem W.turn {x : Option Nat} {J : K} {h : H} {w w' : World} (hW : W J h w) {id b : Nat} {o o' : Obj} {ob : Go.Obj} (hid : h.get id = some o) (hb : J.obj id = some b)
    (hos : w'.os = w.os) (htape : w'.tape = w.tape) (hout : w'.output = w.output) (hsize : w'.heap.size = w.heap.size) (hsame : ∀ k, k ≠ b → w'.heap[k]? = w.heap[k]?)
    (hnew : w'.heap[b]? = some ob) (hO : OR J id b o' ob) (himm : ∀ x v, J.imm b x = some v → ∃ cs el fz, ob = .cells cs el fz ∧ cs[x]? = some v) (himmM : J.immM b = none) :
    W J (h.set id o') w' ∧ Ext x J h w J (h.set id o') w' := by
  refine ⟨⟨?_, ?_, ?_, ?_, ?_, hW.fresh, fun e => (by rw [hsize]; exact hW.lt e), hW.pin.grow rfl (fun k hk => hsame k (fun q => by subst q; exact hk (hW.pin.obj hb))) (fun e => .inl e)⟩, ⟨.refl J, hos, htape, hout, by omega, ?_, ?_, Nat.le_refl _, fun _ _ => .inl rfl, fun _ => .inl rfl, ?_⟩⟩
  · intro b' x v e
    by_cases hbb : b' = b
    · subst hbb
      obtain ⟨cs, el, fz, h1, h2⟩ := himm x v e
      exact ⟨cs, el, fz, by rw [hnew, h1], h2⟩
    · obtain ⟨cs, el, fz, h1, h2⟩ := hW.imm e
      exact ⟨cs, el, fz, by rw [hsame _ hbb]; exact h1, h2⟩
  · intro r l e
    have hbb : r ≠ b := fun x => by subst x; rw [himmM] at e; cases e
    obtain ⟨cs, el, h1, h2⟩ := hW.immM e
    exact ⟨cs, el, by rw [hsame _ hbb]; exact h1, h2⟩
  · intro i o1 b1 hg e
    rw [H.get_set] at hg
    by_cases n1 : i = id
    · subst n1
      rw [if_pos rfl] at hg
      cases hg
      rw [hb] at e; cases e
      exact ⟨ob, hnew, hO⟩
    · rw [if_neg n1] at hg
      have hbb : b1 ≠ b := fun x => by
        subst x
        exact n1 (hW.apart (by rw [hg]; rfl) (by rw [hid]; rfl) e hb)
      obtain ⟨ob1, h1, h2⟩ := hW.live hg e
      exact ⟨ob1, by rw [hsame _ hbb]; exact h1, h2⟩
  · intro i i' b1 h1 h2 e1 e2
    refine hW.apart ?_ ?_ e1 e2
    · rw [H.get_set] at h1
      by_cases n1 : i = id
      · subst n1; rw [hid]; rfl
      · rwa [if_neg n1] at h1
    · rw [H.get_set] at h2
      by_cases n1 : i' = id
      · subst n1; rw [hid]; rfl
      · rwa [if_neg n1] at h2
  · intro i h1
    rw [H.get_set] at h1
    by_cases n1 : i = id
    · subst n1; exact hW.ids (by rw [hid]; rfl)
    · rw [if_neg n1] at h1; exact hW.ids h1
  · intro b1 hb1 hn
    exact hsame b1 (fun e => by subst e; exact hn id (by rw [hid]; rfl) hb)
  · intro i b1 h1 e
    rw [H.get_set] at h1
    by_cases n1 : i = id
    · subst n1; exact .inr ⟨i, by rw [hid]; rfl, e⟩
    · rw [if_neg n1] at h1; exact .inr ⟨i, h1, e⟩
  · intro i _ hj _
    rw [H.get_set, if_neg (fun e => by subst e; rw [hb] at hj; cases hj)]
    exact ⟨hj, rfl⟩

/-- An object goes. -/
theorem W.killed {x : Option Nat} {J : K} {h : H} {w : World} (hW : W J h w) {id b : Nat} (hb : J.obj id = some b) : W J (h.kill id) w ∧ Ext x J h w J (h.kill id) w := by
  have hs : ∀ {i o}, (h.kill id).get i = some o → i ≠ id ∧ h.get i = some o := by
    intro i o e
    rw [H.get_kill] at e
    split at e
    · cases e
    · rename_i n; exact ⟨n, e⟩
  have hs' : ∀ {i}, ((h.kill id).get i).isSome → (h.get i).isSome := by
    intro i e
    obtain ⟨o, ho⟩ := Option.isSome_iff_exists.1 e
    rw [(hs ho).2]; rfl
  refine ⟨⟨hW.imm, hW.immM, fun hg e => hW.live (hs hg).2 e, fun a b => hW.apart (hs' a) (hs' b), fun a => hW.ids (hs' a), hW.fresh, hW.lt, hW.pin⟩,
    ⟨.refl J, rfl, rfl, rfl, Nat.le_refl _, fun _ _ => rfl, fun a b => .inr ⟨_, hs' a, b⟩, Nat.le_refl _, fun _ _ => .inl rfl, fun _ => .inl rfl, fun {i} _ a _ => ⟨a, ?_⟩⟩⟩
  rw [H.get_kill, if_neg (fun e => by subst e; rw [hb] at a; cases a)]

/-- **AN OBJECT TURNS, AND HAS A NEW NUMBER.** -/
theorem W.renew {x : Option Nat} {J : K} {h : H} {w w' : World} (hW : W J h w) {id b len ext : Nat} {f : Nat → Option Value} {o o' : Obj} {ob : Go.Obj} (hid : h.get id = some o) (hb : J.obj id = some b)
    (hos : w'.os = w.os) (htape : w'.tape = w.tape) (hout : w'.output = w.output) (hsize : w'.heap.size = w.heap.size) (hsame : ∀ k, k ≠ b → w'.heap[k]? = w.heap[k]?)
    (hnew : w'.heap[b]? = some ob) (hO : OR (J.put h.next b len ext f) h.next b o' ob) (hf : ∀ x v, J.imm b x = some v → f x = some v) (hI : ∀ x v, f x = some v → ∃ cs el fz, ob = .cells cs el fz ∧ cs[x]? = some v) (himmM : J.immM b = none) :
    ((h.kill id).new none o').1 = h.next ∧ W (J.put h.next b len ext f) ((h.kill id).new none o').2 w' ∧ Ext x J h w (J.put h.next b len ext f) ((h.kill id).new none o').2 w' := by
  have hlt : id < h.next := hW.ids (by rw [hid]; rfl)
  have hget : ∀ i, ((h.kill id).new none o').2.get i = if i = h.next then some o' else if i = id then none else h.get i := by
    intro i
    show ((h.kill id).objs.set h.next (some o')).get i = _
    rw [T.get_set]
    split
    · rfl
    · exact H.get_kill h id i
  have hle : J.le (J.put h.next b len ext f) := K.le_put (hW.fresh (Nat.le_refl _)) hf
  have hold : ∀ {i b'}, i ≠ h.next → (J.put h.next b len ext f).obj i = some b' → J.obj i = some b' := fun hne e => by rwa [K.put_other hne] at e
  have hsub : ∀ {i o1}, i ≠ h.next → ((h.kill id).new none o').2.get i = some o1 → i ≠ id ∧ h.get i = some o1 := by
    intro i o1 hne e
    rw [hget, if_neg hne] at e
    split at e
    · cases e
    · rename_i n; exact ⟨n, e⟩
  refine ⟨rfl, ⟨?_, ?_, ?_, ?_, ?_, ?_, ?_, hW.pin.grow rfl (fun k hk => hsame k (fun q => by subst q; exact hk (hW.pin.obj hb))) (fun {i b1} e => by
    by_cases n1 : i = h.next
    · subst n1; rw [K.put_self] at e; cases e; exact .inr (.inr ⟨id, hb⟩)
    · exact .inl (hold n1 e))⟩, ⟨hle, hos, htape, hout, by omega, ?_, ?_, Nat.le_succ _, ?_, fun _ => .inl rfl, ?_⟩⟩
  · intro b' y v e
    by_cases hbb : b' = b
    · subst hbb
      rw [K.put_imm] at e
      obtain ⟨cs, el, fz, h1, h2⟩ := hI y v e
      exact ⟨cs, el, fz, by rw [hnew, h1], h2⟩
    · rw [K.put_imm' hbb] at e
      obtain ⟨cs, el, fz, h1, h2⟩ := hW.imm e
      exact ⟨cs, el, fz, by rw [hsame _ hbb]; exact h1, h2⟩
  · intro r l e
    have e' : J.immM r = some l := e
    have hbb : r ≠ b := fun x => by subst x; rw [himmM] at e'; cases e'
    obtain ⟨cs, el, h1, h2⟩ := hW.immM e'
    exact ⟨cs, el, by rw [hsame _ hbb]; exact h1, h2⟩
  · intro i o1 b1 hg e
    by_cases n1 : i = h.next
    · subst n1
      rw [hget, if_pos rfl] at hg
      cases hg
      rw [K.put_self] at e; cases e
      exact ⟨ob, hnew, hO⟩
    · obtain ⟨n2, hg'⟩ := hsub n1 hg
      have e' := hold n1 e
      have hbb : b1 ≠ b := fun x => by
        subst x
        exact n2 (hW.apart (by rw [hg']; rfl) (by rw [hid]; rfl) e' hb)
      obtain ⟨ob1, h1, h2⟩ := hW.live hg' e'
      exact ⟨ob1, by rw [hsame _ hbb]; exact h1, h2.mono hle e' (fun _ => K.put_imm' hbb) rfl⟩
  · intro i i' b1 h1 h2 e1 e2
    obtain ⟨o1, h1⟩ := Option.isSome_iff_exists.1 h1
    obtain ⟨o2, h2⟩ := Option.isSome_iff_exists.1 h2
    by_cases n1 : i = h.next <;> by_cases n2 : i' = h.next
    · rw [n1, n2]
    · subst n1
      rw [K.put_self] at e1; cases e1
      obtain ⟨m2, hg2⟩ := hsub n2 h2
      exact absurd (hW.apart (by rw [hg2]; rfl) (by rw [hid]; rfl) (hold n2 e2) hb) m2
    · subst n2
      rw [K.put_self] at e2; cases e2
      obtain ⟨m1, hg1⟩ := hsub n1 h1
      exact absurd (hW.apart (by rw [hg1]; rfl) (by rw [hid]; rfl) (hold n1 e1) hb) m1
    · obtain ⟨_, hg1⟩ := hsub n1 h1
      obtain ⟨_, hg2⟩ := hsub n2 h2
      exact hW.apart (by rw [hg1]; rfl) (by rw [hg2]; rfl) (hold n1 e1) (hold n2 e2)
  · intro i h1
    obtain ⟨o1, h1⟩ := Option.isSome_iff_exists.1 h1
    show i < h.next + 1
    by_cases n1 : i = h.next
    · omega
    · have := hW.ids (show (h.get i).isSome by rw [(hsub n1 h1).2]; rfl)
      omega
  · intro i hi
    have hi' : h.next + 1 ≤ i := hi
    rw [K.put_other (by omega)]
    exact hW.fresh (by omega)
  · intro i b1 e
    rw [hsize]
    by_cases n1 : i = h.next
    · subst n1; rw [K.put_self] at e; cases e; exact hW.lt hb
    · exact hW.lt (hold n1 e)
  · intro b1 hb1 hn
    exact hsame b1 (fun e => by subst e; exact hn id (by rw [hid]; rfl) hb)
  · intro i b1 h1 e
    obtain ⟨o1, h1⟩ := Option.isSome_iff_exists.1 h1
    by_cases n1 : i = h.next
    · subst n1; rw [K.put_self] at e; cases e; exact .inr ⟨id, by rw [hid]; rfl, hb⟩
    · exact .inr ⟨i, by rw [(hsub n1 h1).2]; rfl, hold n1 e⟩
  · intro b1 y
    by_cases hbb : b1 = b
    · exact .inr (.inr ⟨id, by rw [hid]; rfl, by rw [hbb]; exact hb⟩)
    · exact .inl (K.put_imm' hbb)
  · intro i _ hj hlt'
    rw [hget, if_neg (by omega), if_neg (fun e => by subst e; rw [hb] at hj; cases hj), K.put_other (by omega)]
    exact ⟨hj, rfl⟩
end Go.Kal
end
