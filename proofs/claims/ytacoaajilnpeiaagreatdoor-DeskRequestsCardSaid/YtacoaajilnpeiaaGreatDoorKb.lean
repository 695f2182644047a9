/-
Operations that act on nothing.
-/
import Derived.Test.YtacoaajilnpeiaaGreatDoorKa
import Derived.Laws.Cells
import Derived.Laws.Entries
import Derived.ChangeKeysEq
import Derived.Laws.StructEq
import Derived.Laws.Strings
import Derived.Laws.Cover1
import Derived.IntWalk
import Derived.Laws.Tables
import Derived.Laws.Slices
import Derived.Laws.BytesString
import Derived.Laws.BytesArg

set_option linter.unusedVariables false
set_option linter.unusedSimpArgs false

section
namespace Go.Kal
open Go

structure EnvOK (E : Env) (P : Program) (G : K) : Prop where
  ty : ∀ {t i}, E.ty t = some i → ∃ ti, P.info? t = some ti ∧ P.underlying t = some i.desc ∧ ti.size = i.size ∧ ti.bytes = i.bytes ∧ ∃ z, ti.zero = some z ∧ ofValue z = some i.zero
  glob : ∀ {g cs}, E.glob g = some cs → VR G (.pv cs) (.pointer (some ⟨g, 0, none⟩))
  st : ∀ {t i fs}, E.ty t = some i → i.desc = .struct fs → plainF fs.toList 0 = true → P.stoodInHeld t = false ∧ P.eqGuardType P.depth t = false
  flds : ∀ {t i fs}, E.ty t = some i → i.desc = .struct fs → ∀ f ∈ fs.toList, ∃ ti, P.info? f.type = some ti
  elem : ∀ {t i e}, E.ty t = some i → i.desc = .slice e → ∃ ti, P.info? e = some ti
  comp : ∀ {t v i}, fits1 E t v = true → P.info? t = some i → i.comparable = true
  byteT : P.underlying E.byteT = some (.int .u8)
  byte1 : P.cellsOf E.byteT = 1
  mixed : P.follows .mixedOrders = true

section
variable {E : Env} {P : Program} {G J : K} {h : H} {w : World} {fr : T AV} {nt : Nat} {a : Act}

theorem ofCell_VR {v : Value} {x : AV} (e : ofCell v = some x) : VR J x v := by
  cases v with
  | bool b => cases e; exact .bool b
  | int k n => cases e; exact .int k n
  | string s => cases e; exact .str _
  | pointer p => cases p with
    | none => cases e; exact .nilp
    | some a => cases e
  | slice p n c => cases p with
    | none =>
      simp only [ofCell] at e
      split at e
      · split at e
        · rename_i h1 h2; subst h1 h2; cases e; exact .nils
        · cases e
      · cases e
    | some a => cases e
  | map r => cases r with
    | none => cases e; exact .nilm
    | some a => cases e
  | nilFunc => cases e; exact .nilf
  | nilIface => cases e; exact .nili
  | _ => cases e

theorem optAll_cons {α β : Type} {f : α → Option β} {a : α} {l : List α} {r : List β} : optAll f (a :: l) = some r ↔ ∃ b y, f a = some b ∧ optAll f l = some y ∧ r = b :: y := by
  simp only [optAll, Option.bind_eq_some_iff, Option.some.injEq]
  constructor
  · rintro ⟨b, h1, y, h2, rfl⟩; exact ⟨b, y, h1, h2, rfl⟩
  · rintro ⟨b, y, h1, h2, rfl⟩; exact ⟨b, h1, y, h2, rfl⟩

theorem optAll_LR {f : Value → Option AV} (hf : ∀ v x, f v = some x → VR J x v) : ∀ {l : List Value} {r : List AV}, optAll f l = some r → LR J r l
  | [], r, e => by cases e; exact LR.nil J
  | v :: l, r, e => by
    obtain ⟨b, y, h1, h2, rfl⟩ := optAll_cons.1 e
    exact LR.cons (hf _ _ h1) (optAll_LR hf h2)

theorem ofValue_VR {v : Value} {x : AV} (e : ofValue v = some x) : VR J x v := by
  unfold ofValue at e
  split at e
  · split at e
    · cases e
    · rename_i g fa fb hg
      split at e
      · rename_i h1 h2
        cases e
        refine .fn (fun l el => hg l el) ?_ ?_ (fun j x => absurd x (by simp)) (fun j x => absurd x (by simp))
        · simp [← Array.length_toList, h1]
        · simp [← Array.length_toList, h2]
      · cases e
  · rename_i vs
    split at e
    · rename_i h1
      cases e
      exact VR.tup_iff.2 ⟨vs, rfl, by rw [h1]; exact LR.nil J⟩
    · cases e
  · rename_i cs
    simp only [Option.bind_eq_some_iff, Option.some.injEq] at e
    obtain ⟨l, h1, rfl⟩ := e
    exact VR.agg_iff.2 ⟨cs, rfl, optAll_LR (fun v x => ofCell_VR) h1⟩
  · exact ofCell_VR e

theorem ev_VR (hE : EnvOK E P G) (hG : G.le J) (hF : FR J fr nt a.tmps) {x : Operand} {v : AV} (e : ev E fr x = some v) : VR J v (a.eval x) := by
  cases x with
  | tmp t => cases e; exact hF.val t
  | const c => exact ofValue_VR e
  | global g =>
    simp only [ev, Option.map_eq_some_iff] at e
    obtain ⟨cs, h1, rfl⟩ := e
    exact (hE.glob h1).mono hG
  | func f => cases e; exact .fn (fun l el => by cases el) rfl rfl (fun j x => absurd x (by simp)) (fun j x => absurd x (by simp))

theorem evs_LR (hE : EnvOK E P G) (hG : G.le J) (hF : FR J fr nt a.tmps) : ∀ {l : List Operand} {r : List AV}, optAll (ev E fr) l = some r → LR J r (l.map a.eval)
  | [], r, e => by cases e; exact LR.nil J
  | v :: l, r, e => by
    obtain ⟨b, y, h1, h2, rfl⟩ := optAll_cons.1 e
    exact LR.cons (ev_VR hE hG hF h1) (evs_LR hE hG hF h2)

theorem cell_of (hW : W J h w) {id off b : Nat} {c : TypeId × List AV} (hc : h.cells? id = some c) (hb : J.obj id = some b) {v : AV} (hv : c.2[off]? = some v) :
    ∃ v', w.cell? ⟨b, off, none⟩ = some v' ∧ VR J v v' := by
  obtain ⟨ob, h1, cs, lo, hi, e, a1, a2, a3, a4, _⟩ := hW.live (H.cells?_eq.1 hc) hb
  obtain ⟨v', h2, h3⟩ := a4.get? hv
  refine ⟨v', ?_, h3⟩
  subst e
  unfold World.cell?
  simp only [h1]
  simp only [Option.isSome_none, Bool.false_eq_true, if_false]
  rw [List.getElem?_take] at h2
  split at h2
  · rw [← h2]; simp
  · cases h2

theorem cell_imm (hW : W J h w) {b off : Nat} {v : Value} (hi : J.imm b off = some v) : w.cell? ⟨b, off, none⟩ = some v := by
  obtain ⟨cs, el, fz, h1, h2⟩ := hW.imm hi
  unfold World.cell?
  simp only [h1]
  simpa using h2

theorem add_none (b off n : Nat) : (⟨b, off, none⟩ : Addr).add n = ⟨b, off + n, none⟩ := by
  unfold Addr.add
  split
  · rename_i h; subst h; rfl
  · rfl

/-- cells that lie one behind the other -/
def Lies (w : World) (b off : Nat) (l : List Value) : Prop := ∀ j v, l[j]? = some v → w.cell? ⟨b, off + j, none⟩ = some v

theorem run_isAgg_of {t : TypeId} {i : TI} (hE : EnvOK E P G) (ht : E.ty t = some i) : (isAgg t).run P w = .ok i.ag w := by
  obtain ⟨ti, h1, h2, h3, _⟩ := hE.ty ht
  unfold isAgg
  simp only [Sem.run_bind, run_underlying h2, Result.andThen_ok]
  unfold TI.ag
  cases i.desc <;> rfl

theorem run_sizeOf_of {t : TypeId} {i : TI} (hE : EnvOK E P G) (ht : E.ty t = some i) : (sizeOf t).run P w = .ok i.size w := by
  obtain ⟨ti, h1, h2, h3, _⟩ := hE.ty ht
  unfold sizeOf
  simp [run_typeInfo _ h1, h3]

theorem run_zero_of {t : TypeId} {i : TI} (hE : EnvOK E P G) (ht : E.ty t = some i) : ∃ z, (zeroValue t).run P w = .ok z w ∧ VR J i.zero z := by
  obtain ⟨ti, h1, h2, h3, h4, z, h5, h6⟩ := hE.ty ht
  refine ⟨z, ?_, ofValue_VR h6⟩
  unfold zeroValue
  simp [Sem.run_bind, run_typeInfo _ h1, h5]

theorem run_loadVar_of (hE : EnvOK E P G) {t : TypeId} {i : TI} (ht : E.ty t = some i) {b off : Nat} {cs : List AV} {cs' : List Value} (hl : LR J cs cs') (hlie : Lies w b off cs') {v : AV} (hp : part i cs = some v) :
    ∃ v', (Go.loadVar t ⟨b, off, none⟩).run P w = .ok v' w ∧ VR J v v' := by
  unfold part at hp
  unfold Go.loadVar
  simp only [Sem.run_bind, run_isAgg_of hE ht, Result.andThen_ok]
  split at hp
  · rename_i hag
    simp only [hag]
    simp only [if_true, Sem.run_bind, run_sizeOf_of hE ht, Result.andThen_ok]
    split at hp
    · rename_i hlen
      cases hp
      have hsz : (cs'.take i.size).length = i.size := by
        have := hl.1
        simp only [List.length_take] at hlen ⊢
        omega
      have := run_loadCells_list (P := P) (w := w) ⟨b, off, none⟩ (cs'.take i.size) (fun j v hj => by
        rw [add_none]
        refine hlie j v ?_
        rw [List.getElem?_take] at hj
        split at hj
        · exact hj
        · cases hj)
      rw [hsz] at this
      rw [this]
      exact ⟨_, rfl, VR.agg_iff.2 ⟨_, rfl, hl.take _⟩⟩
    · cases hp
  · rename_i hag
    simp only [hag]
    cases cs with
    | nil => cases hp
    | cons c cs =>
      cases hp
      obtain ⟨a', t', e, h1, h2⟩ := hl.uncons
      subst e
      have := hlie 0 a' rfl
      simp only [Nat.add_zero] at this
      refine ⟨a', ?_, h1⟩
      simp [run_load, this]

theorem load_ok (hE : EnvOK E P G) (hW : W J h w) {t : TypeId} {p : AV} {p' : Value} (hp : VR J p p') {v : AV} (e : loadVar E h t p = some v) :
    ∃ v', (Instr.loadAt t p').run P w = .ok v' w ∧ VR J v v' := by
  unfold loadVar at e
  simp only [Option.bind_eq_some_iff] at e
  obtain ⟨i, ht, e⟩ := e
  split at e
  · rename_i id off
    simp only [Option.bind_eq_some_iff] at e
    obtain ⟨c, hc, e⟩ := e
    cases hp with
    | ptr hb =>
      rename_i b
      obtain ⟨ob, h1, cs, lo, hi, e1, a1, a2, a3, a4, _⟩ := hW.live (H.cells?_eq.1 hc) hb
      have := run_loadVar_of (w := w) (J := J) hE ht (b := b) (off := off) (a4.drop off) (fun j v hj => by
        obtain ⟨v', g1, g2⟩ : ∃ v', w.cell? ⟨b, off + j, none⟩ = some v' ∧ v' = v := by
          rw [List.getElem?_drop] at hj
          rw [List.getElem?_take] at hj
          split at hj
          · refine ⟨v, ?_, rfl⟩
            subst e1
            unfold World.cell?
            simp only [h1]
            simpa using hj
          · cases hj
        rw [g1, g2]) e
      simpa [Instr.loadAt, Instr.sureAddr] using this
  · rename_i cs
    cases hp with
    | pv f hi hv =>
      have := run_loadVar_of (w := w) (J := J) hE ht (LR.of_fn f hv) (fun j v hj => by
        obtain ⟨hj1, hj2⟩ := List.getElem?_eq_some_iff.1 hj
        simp only [List.length_map, List.length_range] at hj1
        simp only [List.getElem_map, List.getElem_range] at hj2
        subst hj2
        exact cell_imm hW (hi j hj1)) e
      simpa [Instr.loadAt, Instr.sureAddr] using this
  · cases e
end
end Go.Kal
end

section
namespace Go.Kal
open Go

theorem wrap_eq (k : IntKind) (n : Int) : Kal.wrap k n = k.wrap n := by
  unfold Kal.wrap
  split
  · split
    · split
      · exact (IntWalk.i64_in _ (by omega)).symm
      · rfl
    · rfl
  · rfl

theorem bytesLess_eq : ∀ (a b : List UInt8), Kal.bytesLess a b = Op.bytesLess a b
  | [], [] => rfl
  | [], _ :: _ => rfl
  | _ :: _, [] => rfl
  | a :: x, b :: y => by simp only [Kal.bytesLess, Op.bytesLess, bytesLess_eq x y]

theorem toList_mk' (s : List UInt8) : (ByteArray.mk ⟨s⟩).toList = s := by rw [ByteArray.toList_eq]
theorem append_mk (a b : List UInt8) : (ByteArray.mk ⟨a⟩ ++ ByteArray.mk ⟨b⟩) = ByteArray.mk ⟨a ++ b⟩ := by
  apply ByteArray.ext
  simp

section
variable {E : Env} {P : Program} {G J : K} {h : H} {w : World} {fr : T AV} {nt : Nat} {a : Act}

theorem intOp_ok {op : BinOp} {t : TypeId} {k : IntKind} {x y : Int} {v : AV} (e : intOp op k x y = some v) : ∃ v', (Go.binOp op t (.int k x) (.int k y)).run P w = .ok v' w ∧ VR J v v' := by
  cases op <;> simp only [intOp, Kal.bits, wrap_eq, Option.some.injEq] at e
  case quo =>
    split at e
    · cases e
    · rename_i hy; cases e
      refine ⟨_, ?_, .int _ _⟩
      simp [Go.binOp, Op.intDiv, hy]
  case rem =>
    split at e
    · cases e
    · rename_i hy; cases e
      refine ⟨_, ?_, .int _ _⟩
      simp [Go.binOp, Op.intDiv, hy]
  case shl => cases e
  case shr => cases e
  all_goals (subst e; first
    | exact ⟨_, by simp only [Go.binOp, Op.intArith, ne_eq, not_true_eq_false, if_false]; rfl, .int _ _⟩
    | exact ⟨_, by simp only [Go.binOp, ne_eq, not_true_eq_false, if_false]; rfl, .int _ _⟩
    | exact ⟨_, by simp only [Go.binOp, Op.intCmp, ne_eq, not_true_eq_false, if_false]; rfl, .bool _⟩)

theorem strOp_ok {op : BinOp} {t : TypeId} {x y : List UInt8} {v : AV} (e : strOp op x y = some v) : ∃ v', (Go.binOp op t (.string ⟨⟨x⟩⟩) (.string ⟨⟨y⟩⟩)).run P w = .ok v' w ∧ VR J v v' := by
  cases op <;> simp only [strOp, Option.some.injEq] at e
  case add =>
    split at e
    · rename_i hlen
      cases e
      refine ⟨_, ?_, .str _⟩
      have hs : ∀ s : List UInt8, (ByteArray.mk ⟨s⟩).size = s.length := fun s => rfl
      have hm : IntKind.i64.max = 9223372036854775807 := by decide
      simp only [Go.binOp, Op.stringOp, hs, hm]
      rw [if_neg (by omega), append_mk]
      rfl
    · cases e
  all_goals first
    | (cases e; done)
    | (subst e; exact ⟨_, by simp only [Go.binOp, Op.stringOp, toList_mk', bytesLess_eq]; rfl, .bool _⟩)

theorem fits1_iff {t : TypeId} {v : AV} (hk : fits1 E t v = true) : ∃ i, E.ty t = some i ∧ ((∃ k n, i.desc = .int k ∧ v = .int k n) ∨ (∃ s, i.desc = .string ∧ v = .str s) ∨ ∃ b, i.desc = .bool ∧ v = .bool b) := by
  unfold fits1 at hk
  split at hk
  · cases hk
  · rename_i i hi
    refine ⟨i, hi, ?_⟩
    split at hk
    · rename_i k l n hd
      have := of_decide_eq_true hk
      subst this
      exact .inl ⟨k, n, hd, rfl⟩
    · rename_i s hd; exact .inr (.inl ⟨s, hd, rfl⟩)
    · rename_i b hd; exact .inr (.inr ⟨b, hd, rfl⟩)
    · cases hk

/-- '==' of two plain values of one type -/
theorem eqPlain_ok (hE : EnvOK E P G) {t : TypeId} {x y : AV} {x' y' : Value} (hx : VR J x x') (hy : VR J y y') (fx : fits1 E t x = true) (fy : fits1 E t y = true) {r : Bool} (e : eqPlain x y = some r) (d : Nat) :
    (Op.equalIn (d + 1) t x' y').run P w = .ok r w := by
  obtain ⟨i, hi, cx⟩ := fits1_iff fx
  obtain ⟨i', hi', cy⟩ := fits1_iff fy
  rw [hi] at hi'; cases hi'
  obtain ⟨ti, _, h2, _⟩ := hE.ty hi
  rcases cx with ⟨k, n, hd, rfl⟩ | ⟨s, hd, rfl⟩ | ⟨b, hd, rfl⟩ <;> rcases cy with ⟨k', n', hd', rfl⟩ | ⟨s', hd', rfl⟩ | ⟨b', hd', rfl⟩ <;> (rw [hd] at hd'; cases hd') <;> cases hx <;> cases hy <;> simp [eqPlain] at e <;> subst e
  · rw [run_equalIn_int w d t _ _ _ _ (by rw [h2, hd])]
  · rw [run_equalIn_string w d t _ _ (by rw [h2, hd]), toList_mk', toList_mk']
  · rw [run_equalIn_bool' w d t _ _ (by rw [h2, hd])]

/-- a part of one cell -/
theorem run_part_one (hE : EnvOK E P G) {t : TypeId} {v : AV} (fv : fits1 E t v = true) {cs : Array Value} {off : Nat} {v' : Value} (hv : cs[off]? = some v') :
    (Go.part t cs off).run P w = .ok v' w := by
  obtain ⟨i, hi, c⟩ := fits1_iff fv
  obtain ⟨ti, _, h2, _⟩ := hE.ty hi
  unfold Go.part isAgg
  simp only [Sem.run_bind, run_underlying h2, Result.andThen_ok]
  rcases c with ⟨k, n, hd, rfl⟩ | ⟨s, hd, rfl⟩ | ⟨b, hd, rfl⟩ <;> rw [hd] <;> simp [hv]

theorem eqFields_ok (hE : EnvOK E P G) (d : Nat) {xs ys : Array Value} : ∀ {fs : List Field} {n : Nat} {x y : List AV} {r : Bool}, plainF fs n = true → fitsF E fs x = true → fitsF E fs y = true →
    LR J x (xs.toList.drop n) → LR J y (ys.toList.drop n) → eqCells x y = some r → (Op.eqFields (d + 1) xs ys fs).run P w = .ok r w
  | [], n, x, y, r, _, fx, fy, _, _, e => by
    cases x <;> cases y <;> simp [fitsF] at fx fy
    simp [eqCells] at e
    subst e
    simp [Op.eqFields]
  | f :: fs, n, x, y, r, hp, fx, fy, lx, ly, e => by
    cases x with
    | nil => simp [fitsF] at fx
    | cons a x =>
    cases y with
    | nil => simp [fitsF] at fy
    | cons b y =>
    simp only [plainF, Bool.and_eq_true, bne_iff_ne, ne_eq, beq_iff_eq] at hp
    simp only [fitsF, Bool.and_eq_true] at fx fy
    simp only [eqCells, Option.bind_eq_some_iff, Option.some.injEq] at e
    obtain ⟨q, e1, q2, e2, e3⟩ := e
    obtain ⟨a', tx, ex, va, lx'⟩ := lx.uncons
    obtain ⟨b', ty, ey, vb, ly'⟩ := ly.uncons
    have gx : xs[n]? = some a' := by rw [← Array.getElem?_toList]; have := congrArg (·[0]?) ex; simpa using this
    have gy : ys[n]? = some b' := by rw [← Array.getElem?_toList]; have := congrArg (·[0]?) ey; simpa using this
    have dx : xs.toList.drop (n + 1) = tx := by have := congrArg (·.drop 1) ex; simpa using this
    have dy : ys.toList.drop (n + 1) = ty := by have := congrArg (·.drop 1) ey; simpa using this
    have ih := eqFields_ok hE d (xs := xs) (ys := ys) hp.2 fx.2 fy.2 (by rw [dx]; exact lx') (by rw [dy]; exact ly') e2
    simp only [Op.eqFields]
    rw [if_pos hp.1.1, hp.1.2]
    simp only [Sem.run_bind, run_part_one hE fx.1 gx, run_part_one hE fy.1 gy, Result.andThen_ok, eqPlain_ok hE va vb fx.1 fy.1 e1 d]
    subst e3
    cases q
    · simp
    · simpa using ih

theorem eqStruct_ok (hE : EnvOK E P G) {t : TypeId} {i : TI} (hi : E.ty t = some i) {fs : Array Field} (hd : i.desc = .struct fs) {x y : AV} {x' y' : Value} (hx : VR J x x') (hy : VR J y y') {r : Bool} (e : eqStruct E fs.toList x y = some r) (d : Nat) :
    ∃ xs ys, x' = .agg xs ∧ y' = .agg ys ∧ P.eqGuardType P.depth t = false ∧ (Op.equalIn (d + 2) t x' y').run P w = .ok r w := by
  obtain ⟨ti, _, h2, _⟩ := hE.ty hi
  unfold eqStruct at e
  split at e
  · split at e
    · rename_i hc
      simp only [Bool.and_eq_true] at hc
      obtain ⟨xs, ex, lx⟩ := VR.agg_iff.1 hx
      obtain ⟨ys, ey, ly⟩ := VR.agg_iff.1 hy
      subst ex ey
      have hf : P.fieldsOf t = fs := by unfold Program.fieldsOf; rw [h2, hd]
      refine ⟨xs, ys, rfl, rfl, (hE.st hi hd hc.1.1).2, ?_⟩
      rw [run_equalIn_struct w (d + 1) t xs ys (by rw [hf, h2, hd]) (hE.st hi hd hc.1.1).1, hf]
      exact eqFields_ok hE d hc.1.1 hc.1.2 hc.2 (by simpa using lx) (by simpa using ly) e
    · cases e
  · cases e

theorem slice_eq_ok (hE : EnvOK E P G) {t : TypeId} {i : TI} (hi : E.ty t = some i) {el : TypeId} (hd : i.desc = .slice el) {x y : AV} {x' y' : Value} (hx : VR J x x') (hy : VR J y y') {r : Bool} (e : nilEq (sliceNil x) (sliceNil y) = some r) (d : Nat) :
    (Op.equalIn (d + 1) t x' y').run P w = .ok r w := by
  obtain ⟨ti, _, h2, _⟩ := hE.ty hi
  rw [hd] at h2
  cases hx <;> simp only [sliceNil, nilEq] at e <;> try (cases e; done)
  all_goals (cases hy <;> simp only [Option.some.injEq] at e <;> first | (cases e; done) | (subst e; simp [Op.equalIn, run_underlying h2]))
theorem func_eq_ok (hE : EnvOK E P G) {t : TypeId} {i : TI} (hi : E.ty t = some i) {as bs : Array TypeId} {vr : Bool} (hd : i.desc = .func as bs vr) {x y : AV} {x' y' : Value} (hx : VR J x x') (hy : VR J y y') {r : Bool} (e : nilEq (funcNil x) (funcNil y) = some r) (d : Nat) :
    (Op.equalIn (d + 1) t x' y').run P w = .ok r w := by
  obtain ⟨ti, _, h2, _⟩ := hE.ty hi
  rw [hd] at h2
  cases hx <;> simp only [funcNil, nilEq] at e <;> try (cases e; done)
  all_goals (cases hy <;> simp only [Option.some.injEq] at e <;> first | (cases e; done) | (subst e; simp [Op.equalIn, run_underlying h2]))
theorem ptr_eq_ok (hE : EnvOK E P G) {t el : TypeId} {i ei : TI} (hi : E.ty t = some i) (hd : i.desc = .pointer el) (hei : E.ty el = some ei) {x y : AV} {x' y' : Value} (hx : VR J x x') (hy : VR J y y') {r : Bool} (e : eqPtr ei.size x y = some r) (d : Nat) :
    (Op.equalIn (d + 1) t x' y').run P w = .ok r w := by
  obtain ⟨ti, _, h2, _⟩ := hE.ty hi
  rw [hd] at h2
  unfold eqPtr at e
  split at e
  · split at e
    · rename_i hc
      obtain ⟨rfl, hsz⟩ := hc
      cases e
      cases hx with
      | ptr h1 =>
        cases hy with
        | ptr h3 =>
          rw [h1] at h3; cases h3
          simp only [Op.equalIn, Sem.run_bind, run_underlying h2, Result.andThen_ok, run_sizeOf_of hE hei]
          rw [if_pos hsz]
          simp only [sameAddr, beq_self_eq_true, if_true]
          show Result.ok _ w = _
          congr 1
          rw [Bool.eq_iff_iff]
          simp
    · cases e
  · cases hx <;> simp only [ptrNil, nilEq] at e <;> try (cases e; done)
    all_goals (cases hy <;> simp only [Option.some.injEq] at e <;> first | (cases e; done) | (subst e; simp [Op.equalIn, run_underlying h2]))
theorem ifc_eq_ok (hE : EnvOK E P G) {t : TypeId} {i : TI} (hi : E.ty t = some i) {ms : Array (String × TypeId)} (hd : i.desc = .interface ms) {x y : AV} {x' y' : Value} (hx : VR J x x') (hy : VR J y y') {r : Bool} (e : eqIfc E x y = some r) (d : Nat) :
    (Op.equalIn (d + 2) t x' y').run P w = .ok r w := by
  obtain ⟨ti, _, h2, _⟩ := hE.ty hi
  rw [hd] at h2
  unfold eqIfc at e
  split at e
  · cases e; cases hx; cases hy; simp [Op.equalIn, run_underlying h2]
  · cases e; cases hx; cases hy; simp [Op.equalIn, run_underlying h2]
  · cases hx with
    | ifc hx =>
    cases hy with
    | ifc hy =>
    split at e
    · rename_i ht
      subst ht
      split at e
      · rename_i hc
        simp only [Bool.and_eq_true] at hc
        obtain ⟨j, hj, _⟩ := fits1_iff hc.1
        obtain ⟨tj, g1, g2, _⟩ := hE.ty hj
        have hcomp := hE.comp hc.1 g1
        have := eqPlain_ok (w := w) hE hx hy hc.1 hc.2 e d
        rw [Op.equalIn]
        simp [run_underlying h2, run_typeInfo _ g1, hcomp, this]
      · cases e
    · rename_i ht
      cases e
      rw [Op.equalIn]
      simp [run_underlying h2, ht]
  · cases e

def twoAlike : Value → Value → Bool
  | .int _ _, .int _ _ | .float _ _, .float _ _ | .complex _ _ _, .complex _ _ _ | .string _, .string _ => true
  | _, _ => false
theorem binOp_eql (t : TypeId) (x y : Value) (hl : twoAlike x y = false) : Go.binOp .eql t x y = (do pure (.bool (← Op.equal t x y))) := by
  unfold Go.binOp
  split <;> first | rfl | contradiction | (simp [twoAlike] at hl; done) | (exfalso; simp_all)
theorem binOp_neq (t : TypeId) (x y : Value) (hl : twoAlike x y = false) : Go.binOp .neq t x y = (do pure (.bool (!(← Op.equal t x y)))) := by
  unfold Go.binOp
  split <;> first | rfl | contradiction | (simp [twoAlike] at hl; done) | (exfalso; simp_all)

theorem guard_plain {op : BinOp} {t : TypeId} {px py : Operand} {x y : Value} (h : (x = .nilIface ∧ y = .nilIface → (∃ c, px = .const c) ∨ ∃ c, py = .const c)) (h2 : (∃ a b, x = .agg a ∧ y = .agg b) → P.eqGuardType P.depth t = false) :
    (eqGuard op t px py x y).run P w = .ok () w := by
  cases op <;> first
    | rfl
    | (simp only [eqGuard, Bool.not_true, Bool.false_eq_true, if_false]
       split
       · rcases h ⟨rfl, rfl⟩ with ⟨c, rfl⟩ | ⟨c, rfl⟩ <;> simp
       · simp [h2 ⟨_, _, rfl, rfl⟩]
       · rfl)

theorem eqAny_ok (hE : EnvOK E P G) {t : TypeId} {x y : AV} {x' y' : Value} (hx : VR J x x') (hy : VR J y y') {r : Bool} (e : eqAny E t x y = some r) :
    (Op.equal t x' y').run P w = .ok r w ∧ ((∃ a b, x' = .agg a ∧ y' = .agg b) → P.eqGuardType P.depth t = false) ∧ ¬ (x' = .nilIface ∧ y' = .nilIface) := by
  unfold eqAny at e
  simp only [Option.bind_eq_some_iff] at e
  obtain ⟨i, hi, e⟩ := e
  unfold Op.equal Op.maxDepth
  split at e
  · rename_i fs hd
    obtain ⟨xs, ys, e1, e2, e3, e4⟩ := eqStruct_ok (w := w) hE hi hd hx hy e 9998
    exact ⟨e4, fun _ => e3, by rw [e1]; rintro ⟨h, _⟩; cases h⟩
  · split at e
    · rename_i hc
      simp only [Bool.and_eq_true] at hc
      refine ⟨eqPlain_ok hE hx hy hc.1 hc.2 e 9999, ?_, ?_⟩
      · rintro ⟨a, b, e1, e2⟩; subst e1; obtain ⟨_, _, c⟩ := fits1_iff hc.1; rcases c with ⟨_, _, _, rfl⟩ | ⟨_, _, rfl⟩ | ⟨_, _, rfl⟩ <;> cases hx
      · rintro ⟨e1, e2⟩; subst e1; obtain ⟨_, _, c⟩ := fits1_iff hc.1; rcases c with ⟨_, _, _, rfl⟩ | ⟨_, _, rfl⟩ | ⟨_, _, rfl⟩ <;> cases hx
    · cases e
  · rename_i el hd
    simp only [Option.bind_eq_some_iff] at e
    obtain ⟨ei, hei, e⟩ := e
    refine ⟨ptr_eq_ok hE hi hd hei hx hy e 9999, ?_, ?_⟩
    · rintro ⟨a, b, e1, e2⟩; subst e1; cases hx; simp [eqPtr, ptrNil, nilEq] at e
    · rintro ⟨e1, e2⟩; subst e1; cases hx; simp [eqPtr, ptrNil, nilEq] at e
  · rename_i ms hd
    refine ⟨ifc_eq_ok hE hi hd hx hy e 9998, ?_, ?_⟩
    · rintro ⟨a, b, e1, e2⟩; subst e1; cases hx; simp [eqIfc] at e
    · rintro ⟨e1, e2⟩; subst e1 e2; cases hx; cases hy; simp [eqIfc] at e
  · rename_i el hd
    refine ⟨slice_eq_ok hE hi hd hx hy e 9999, ?_, ?_⟩
    · rintro ⟨a, b, e1, e2⟩; subst e1; cases hx; simp [sliceNil, nilEq] at e
    · rintro ⟨e1, e2⟩; subst e1; cases hx; simp [sliceNil, nilEq] at e
  · rename_i hd
    refine ⟨func_eq_ok hE hi hd hx hy e 9999, ?_, ?_⟩
    · rintro ⟨a, b, e1, e2⟩; subst e1; cases hx; simp [funcNil, nilEq] at e
    · rintro ⟨e1, e2⟩; subst e1; cases hx; simp [funcNil, nilEq] at e
  · cases e

theorem eqNil_ok (hE : EnvOK E P G) {t : TypeId} {px py : Operand} {x y : AV} {x' y' : Value} (hx : VR J x x') (hy : VR J y y') {r : Bool} (e : eqNil E t px py x y = some r) (op : BinOp) :
    (Op.equal t x' y').run P w = .ok r w ∧ (eqGuard op t px py x' y').run P w = .ok () w := by
  unfold eqNil at e
  split at e
  · cases hx; cases hy
    have key : ∀ {i : TI} {ms}, E.ty t = some i → i.desc = .interface ms → (Op.equal t .nilIface .nilIface).run P w = .ok true w := fun hi hd => by
      obtain ⟨ti, _, h2, _⟩ := hE.ty hi
      rw [hd] at h2
      show (Op.equalIn (9999 + 1) t .nilIface .nilIface).run P w = _
      rw [Op.equalIn]
      simp [run_underlying h2]
    split at e
    · simp only [Option.bind_eq_some_iff] at e
      obtain ⟨i, hi, e⟩ := e
      split at e
      · rename_i hd; cases e
        exact ⟨key hi hd, guard_plain (fun _ => .inl ⟨_, rfl⟩) (fun ⟨a, b, h, _⟩ => by cases h)⟩
      · cases e
    · simp only [Option.bind_eq_some_iff] at e
      obtain ⟨i, hi, e⟩ := e
      split at e
      · rename_i hd; cases e
        exact ⟨key hi hd, guard_plain (fun _ => .inr ⟨_, rfl⟩) (fun ⟨a, b, h, _⟩ => by cases h)⟩
      · cases e
    · cases e
  · obtain ⟨h1, h2, h3⟩ := eqAny_ok (w := w) hE hx hy e
    exact ⟨h1, guard_plain (fun h => absurd h h3) h2⟩

/-- **EVERY BINARY OPERATION.** -/
theorem binOp_ok (hE : EnvOK E P G) {op : BinOp} {t : TypeId} {px py : Operand} {x y : AV} {x' y' : Value} (hx : VR J x x') (hy : VR J y y') {v : AV} (e : Kal.binOp E op t px py x y = some v) :
    ∃ v', (do eqGuard op t px py x' y'; Go.binOp op t x' y' : Sem Value).run P w = .ok v' w ∧ VR J v v' := by
  have g0 : ∀ {a b : Value}, (¬ ∃ c d, a = .agg c ∧ b = .agg d) → ¬ (a = .nilIface ∧ b = .nilIface) → (eqGuard op t px py a b).run P w = .ok () w := fun h1 h2 => guard_plain (fun h => absurd h h2) (fun h => absurd h h1)
  unfold Kal.binOp at e
  split at e
  · rename_i k n j m
    cases hx; cases hy
    have g := g0 (a := .int k n) (b := .int j m) (by rintro ⟨c, d, h, _⟩; cases h) (by rintro ⟨h, _⟩; cases h)
    split at e
    · split at e
      · cases e
      · rename_i hm; cases e
        refine ⟨_, ?_, .int _ _⟩
        simp [g, Go.binOp, Op.shift, hm, wrap_eq]
    · split at e
      · cases e
      · rename_i hm; cases e
        refine ⟨_, ?_, .int _ _⟩
        simp [g, Go.binOp, Op.shift, hm]
    · split at e
      · rename_i hk; subst hk
        obtain ⟨v', h1, h2⟩ := intOp_ok (P := P) (w := w) (J := J) (t := t) e
        exact ⟨v', by simp [g, h1], h2⟩
      · cases e
  · rename_i a b
    cases hx; cases hy
    have g := g0 (a := .string ⟨⟨a⟩⟩) (b := .string ⟨⟨b⟩⟩) (by rintro ⟨c, d, h, _⟩; cases h) (by rintro ⟨h, _⟩; cases h)
    obtain ⟨v', h1, h2⟩ := strOp_ok (P := P) (w := w) (J := J) (t := t) e
    exact ⟨v', by simp [g, h1], h2⟩
  · rename_i hn hs
    have hl : twoAlike x' y' = false := by
      cases hx <;> cases hy <;> first | rfl | (exact absurd rfl (hn _ _ _ _ rfl)) | (exact absurd rfl (hs _ _ rfl)) | (exact (hn _ _ _ _ rfl rfl).elim) | (exact (hs _ _ rfl rfl).elim)
    split at e
    · simp only [Option.bind_eq_some_iff, Option.some.injEq] at e
      obtain ⟨r, e, rfl⟩ := e
      obtain ⟨h1, h2⟩ := eqNil_ok (w := w) hE hx hy e .eql
      exact ⟨_, by simp [h2, binOp_eql t x' y' hl, h1], .bool _⟩
    · simp only [Option.bind_eq_some_iff, Option.some.injEq] at e
      obtain ⟨r, e, rfl⟩ := e
      obtain ⟨h1, h2⟩ := eqNil_ok (w := w) hE hx hy e .neq
      exact ⟨_, by simp [h2, binOp_neq t x' y' hl, h1], .bool _⟩
    · cases e

theorem unOp_ok {op : UnOp} {x : AV} {x' : Value} (hx : VR J x x') {v : AV} (e : Kal.unOp op x = some v) : ∃ v', (Op.unary op x').run P w = .ok v' w ∧ VR J v v' := by
  unfold Kal.unOp at e
  split at e
  · cases e; cases hx
    exact ⟨_, rfl, by rw [wrap_eq]; exact .int _ _⟩
  · cases e; cases hx
    exact ⟨_, rfl, .bool _⟩
  · cases e
end
end Go.Kal
end

section
namespace Go.Kal
open Go

theorem putCells_spec : ∀ {cs : List AV} {off : Nat} {vs r : List AV}, putCells cs off vs = some r →
    r.length = cs.length ∧ (vs = [] ∨ off + vs.length ≤ cs.length) ∧ ∀ j, r[j]? = if off ≤ j ∧ j < off + vs.length then vs[j - off]? else cs[j]?
  | cs, off, [], r, e => by
    have : r = cs := by cases cs <;> simp [putCells] at e <;> first | exact e.symm | exact e
    subst this
    exact ⟨rfl, .inl rfl, fun j => by rw [if_neg (by simp)]⟩
  | [], _, _ :: _, _, e => by simp [putCells] at e
  | c :: cs, 0, v :: vs, r, e => by
    simp only [putCells, Option.bind_eq_some_iff, Option.some.injEq] at e
    obtain ⟨r', e1, rfl⟩ := e
    obtain ⟨h1, h2, h3⟩ := putCells_spec e1
    refine ⟨by simp [h1], .inr (by rcases h2 with h2 | h2 <;> simp [*] <;> omega), fun j => ?_⟩
    cases j with
    | zero => simp
    | succ j =>
      simp only [List.getElem?_cons_succ, h3 j, Nat.zero_add, List.length_cons, Nat.zero_le, true_and, Nat.sub_zero, Nat.add_lt_add_iff_right]
  | c :: cs, off + 1, v :: vs, r, e => by
    simp only [putCells, Option.bind_eq_some_iff, Option.some.injEq] at e
    obtain ⟨r', e1, rfl⟩ := e
    obtain ⟨h1, h2, h3⟩ := putCells_spec e1
    refine ⟨by simp [h1], .inr (by rcases h2 with h2 | h2 <;> simp at h2 ⊢ <;> omega), fun j => ?_⟩
    cases j with
    | zero => simp
    | succ j =>
      simp only [List.getElem?_cons_succ, h3 j]
      by_cases hc : off ≤ j ∧ j < off + (v :: vs).length
      · rw [if_pos hc, if_pos (by omega), show j + 1 - (off + 1) = j - off by omega]
      · rw [if_neg hc, if_neg (by omega)]

/-- the same on the model's side -/
def putList (cs : List Value) (off : Nat) : List Value → List Value
  | [] => cs
  | v :: vs => putList (cs.set off v) (off + 1) vs
theorem putList_length : ∀ (vs cs : List Value) (off : Nat), (putList cs off vs).length = cs.length
  | [], _, _ => rfl
  | v :: vs, cs, off => by rw [putList, putList_length vs]; simp
theorem putList_get : ∀ (vs cs : List Value) (off : Nat), off + vs.length ≤ cs.length → ∀ j, (putList cs off vs)[j]? = if off ≤ j ∧ j < off + vs.length then vs[j - off]? else cs[j]?
  | [], cs, off, _, j => by rw [putList, if_neg (by simp)]
  | v :: vs, cs, off, h, j => by
    simp only [List.length_cons] at h
    rw [putList, putList_get vs _ _ (by simp; omega) j]
    by_cases h1 : j = off
    · subst h1
      rw [if_neg (by omega), if_pos (by simp)]
      rw [List.getElem?_set_self (by omega)]
      simp
    · by_cases h2 : off + 1 ≤ j ∧ j < off + 1 + vs.length
      · rw [if_pos h2, if_pos (by simp; omega), show j - off = (j - (off + 1)) + 1 by omega, List.getElem?_cons_succ]
      · rw [if_neg h2, if_neg (by simp; omega), List.getElem?_set_ne (by omega)]

theorem putList_LR {J : K} {cs : List AV} {cs' : List Value} {off : Nat} {vs r : List AV} {vs' : List Value} (h : putCells cs off vs = some r) (hc : LR J cs cs') (hv : LR J vs vs') : LR J r (putList cs' off vs') := by
  obtain ⟨h1, h2, h3⟩ := putCells_spec h
  rcases h2 with rfl | h2
  · have := hv.nil_inv; subst this
    have : r = cs := by
      apply List.ext_getElem?
      intro j
      rw [h3 j, if_neg (by simp)]
    subst this
    exact hc
  · refine ⟨by rw [putList_length, h1, hc.1], fun j a b => ?_⟩
    have ea := List.getElem?_eq_getElem a
    have eb := List.getElem?_eq_getElem b
    rw [h3 j] at ea
    rw [putList_get vs' cs' off (by rw [← hv.1, ← hc.1]; exact h2) j] at eb
    rw [← hv.1] at eb
    by_cases hcond : off ≤ j ∧ j < off + vs.length
    · rw [if_pos hcond] at ea eb
      obtain ⟨v', g1, g2⟩ := hv.get? ea
      rw [g1] at eb; cases eb
      exact g2
    · rw [if_neg hcond] at ea eb
      obtain ⟨v', g1, g2⟩ := hc.get? ea
      rw [g1] at eb; cases eb
      exact g2

theorem foldl_put (off : Nat) : ∀ (vs : List Value) (k : Nat) (cs : Array Value), ((vs.zipIdx k).foldl (fun cs (p : Value × Nat) => cs.setIfInBounds (off + p.2) p.1) cs).toList = putList cs.toList (off + k) vs
  | [], _, _ => rfl
  | v :: vs, k, cs => by
    simp only [List.zipIdx_cons, List.foldl_cons, putList]
    rw [foldl_put off vs (k + 1)]
    rw [Array.toList_setIfInBounds]
    rfl

section
variable {E : Env} {P : Program} {G J : K} {h : H} {w : World} {fr : T AV} {nt : Nat} {a : Act}

theorem fill_ok {place : Nat → Option (Nat × Nat)} {place' : Nat → Option (Nat × Nat)} (hpl : ∀ i p, place i = some p → place' i = some p) : ∀ {ps : List (Nat × AV)} {ps' : List (Nat × Value)} {cs r : List AV} {cs' : Array Value},
    ps.length = ps'.length → (∀ j (h : j < ps.length) (h' : j < ps'.length), ps[j].1 = ps'[j].1 ∧ VR J ps[j].2 ps'[j].2) → LR J cs cs'.toList → fillParts place cs ps = some r →
    ∃ r', Instr.fill place' cs' ps' = some r' ∧ LR J r r'.toList
  | [], ps', cs, r, cs', hl, _, hc, e => by
    cases ps' with
    | nil => simp [fillParts] at e; subst e; exact ⟨cs', rfl, hc⟩
    | cons _ _ => simp at hl
  | (i, v) :: ps, ps', cs, r, cs', hl, hv, hc, e => by
    cases ps' with
    | nil => simp at hl
    | cons p' ps' =>
      obtain ⟨i', v'⟩ := p'
      have h0 := hv 0 (by simp) (by simp)
      simp only [List.getElem_cons_zero] at h0
      obtain ⟨rfl, hvv⟩ := h0
      simp only [fillParts, Option.bind_eq_some_iff] at e
      obtain ⟨p, hp, e⟩ := e
      split at e
      · rename_i hsz0
        obtain ⟨hsz, hbd0⟩ := hsz0
        simp only [Option.bind_eq_some_iff] at e
        obtain ⟨cs1, h1, e⟩ := e
        have hcl := hvv.cells
        have hsz' : v'.cells.size = p.2 := by rw [← hsz, hcl.1]; simp
        have hbd : p.1 + p.2 ≤ cs'.size := by have := hc.1; simp at this; omega
        have hnew : LR J cs1 (v'.cells.zipIdx.foldl (fun cs (c, j) => cs.setIfInBounds (p.1 + j) c) cs').toList := by
          have : (v'.cells.zipIdx.foldl (fun cs (c, j) => cs.setIfInBounds (p.1 + j) c) cs') = ((v'.cells.toList.zipIdx 0).foldl (fun cs (q : Value × Nat) => cs.setIfInBounds (p.1 + q.2) q.1) cs') := by
            rw [← Array.foldl_toList, Array.toList_zipIdx]
          rw [this, foldl_put]
          exact putList_LR h1 hc hcl
        obtain ⟨r', g1, g2⟩ := fill_ok hpl (by simpa using hl) (fun j a b => by have := hv (j + 1) (by simpa using a) (by simpa using b); simpa using this) hnew e
        refine ⟨r', ?_, g2⟩
        simp only [Instr.fill, hpl _ _ hp]
        rw [if_neg, g1]
        simp only [hsz', ne_eq, not_true_eq_false, decide_false, Bool.false_or, decide_eq_true_eq, gt_iff_lt, Nat.not_lt]
        exact hbd
      · cases e
end
end Go.Kal
end

section
namespace Go.Kal
open Go
section
variable {E : Env} {P : Program} {G J : K} {h : H} {w : World} {fr : T AV} {nt : Nat} {a : Act}

theorem nilCheck_ok {x : AV} {x' : Value} (hx : VR J x x') {v : AV} (e : nilCheck x = some v) {ρ : Operand → Value} {o : Oper} {p : Operand} (ho : o.op = .nilCheck p) (hp : ρ p = x') :
    (execOp ρ o).run P w = .ok (.value x') w ∧ v = x := by
  unfold nilCheck at e
  unfold execOp
  simp only [ho, hp]
  split at e
  · cases e; cases hx; exact ⟨rfl, rfl⟩
  · cases e; cases hx; exact ⟨rfl, rfl⟩
  · rename_i g fa fb
    split at e
    · cases e; cases hx; exact ⟨rfl, rfl⟩
    · cases e; cases hx
      · rename_i hg _ _ _ _; exact absurd rfl (hg _)
      · exact ⟨rfl, rfl⟩
    · cases e
  · cases e

theorem asNat_ok {x : AV} {x' : Value} (hx : VR J x x') {n : Nat} (e : asNat x = some n) : ∃ k : IntKind, x' = .int k n ∧ x = .int k n := by
  unfold asNat at e
  split at e
  · rename_i k m
    split at e
    · rename_i hm
      cases e; cases hx
      exact ⟨k, by rw [Int.toNat_of_nonneg hm], by rw [Int.toNat_of_nonneg hm]⟩
    · cases e
  · cases e

theorem part_ok (hE : EnvOK E P G) {t : TypeId} {i : TI} (ht : E.ty t = some i) {cs : List AV} {cs' : Array Value} {off : Nat} (hl : LR J cs cs'.toList) {v : AV} (e : Kal.part i (cs.drop off) = some v) :
    ∃ v', (Go.part t cs' off).run P w = .ok v' w ∧ VR J v v' := by
  unfold Kal.part at e
  unfold Go.part
  simp only [Sem.run_bind, run_isAgg_of hE ht, Result.andThen_ok]
  split at e
  · rename_i hag
    split at e
    · cases e
      refine ⟨.agg (cs'.extract off (off + i.size)), by simp [hag, run_sizeOf_of hE ht], VR.agg_iff.2 ⟨_, rfl, ?_⟩⟩
      rw [Array.toList_extract]
      have := (hl.drop off).take i.size
      simpa [List.extract] using this
    · cases e
  · rename_i hag
    obtain ⟨v', g1, g2⟩ := hl.get? (n := off) (v := v) (by simpa using e)
    refine ⟨v', ?_, g2⟩
    have : cs'[off]? = some v' := by simpa using g1
    simp [hag, this]

theorem fieldPlace_ok (hE : EnvOK E P G) {f : Field} {i : TI} (hi : E.ty f.type = some i) (hs : i.size ≠ 0) (b off : Nat) : (fieldPlace ⟨b, off, none⟩ f).run P w = .ok ⟨b, off + f.offset, none⟩ w := by
  unfold fieldPlace
  simp [run_sizeOf_of hE hi, hs, add_none]

theorem VR.pv_drop {cs : List AV} {b off : Nat} (hx : VR J (.pv cs) (.pointer (some ⟨b, off, none⟩))) (n : Nat) : VR J (.pv (cs.drop n)) (.pointer (some ⟨b, off + n, none⟩)) := by
  cases hx with
  | pv f hi hv =>
    refine .pv (fun j => f (n + j)) (fun j hj => ?_) (fun j hj => ?_)
    · simp only [List.length_drop] at hj
      rw [Nat.add_assoc]
      exact hi _ (by omega)
    · simp only [List.getElem_drop]
      exact hv _ _

theorem fieldAddr_ok (hE : EnvOK E P G) {t : TypeId} {x : AV} {x' : Value} (hx : VR J x x') {f : Nat} {v : AV} (e : fieldAddr E t x f = some v) :
    ∃ v', (Instr.fieldAt t x' f).run P w = .ok v' w ∧ VR J v v' := by
  unfold fieldAddr at e
  simp only [Option.bind_eq_some_iff] at e
  obtain ⟨si, hsi, e⟩ := e
  obtain ⟨ti, _, h2, _⟩ := hE.ty hsi
  split at e
  · rename_i fs hd
    simp only [Option.bind_eq_some_iff] at e
    obtain ⟨fd, hfd, fi, hfi, e⟩ := e
    have hfd' : fs[f]? = some fd := by simpa using hfd
    unfold Instr.fieldAt
    simp only [Sem.run_bind, run_underlying h2, Result.andThen_ok, hd, hfd']
    split at e
    · cases e
    · rename_i hsz
      split at e
      · cases e
        cases hx with
        | ptr hb => exact ⟨_, by simp [Instr.sureAddr, fieldPlace_ok hE hfi hsz], .ptr hb⟩
      · cases e
        cases hx with
        | pv g hi hv =>
          refine ⟨_, by simp [Instr.sureAddr, fieldPlace_ok hE hfi hsz], VR.pv_drop (.pv g hi hv) _⟩
      · cases e
  · cases e

theorem cellsOfAll_cons (e : AV) (es : List AV) : cellsOfAll (e :: es) = e.cells ++ cellsOfAll es := by simp [cellsOfAll]
theorem cellsOfAll_append (a b : List AV) : cellsOfAll (a ++ b) = cellsOfAll a ++ cellsOfAll b := by simp [cellsOfAll]
theorem cellsOfAll_length {sz : Nat} : ∀ {es : List AV}, (∀ e ∈ es, e.cells.length = sz) → (cellsOfAll es).length = es.length * sz
  | [], _ => by simp [cellsOfAll]
  | e :: es, h => by
    rw [cellsOfAll_cons, List.length_append, h e (by simp), cellsOfAll_length (fun x hx => h x (by simp [hx])), List.length_cons, Nat.succ_mul]; omega
theorem cellsOfAll_drop {sz : Nat} : ∀ {es : List AV} (n : Nat), (∀ e ∈ es, e.cells.length = sz) → cellsOfAll (es.drop n) = (cellsOfAll es).drop (n * sz)
  | [], n, _ => by simp [cellsOfAll]
  | e :: es, 0, _ => by simp
  | e :: es, n + 1, h => by
    rw [List.drop_succ_cons, cellsOfAll_drop n (fun x hx => h x (by simp [hx])), cellsOfAll_cons, Nat.succ_mul, Nat.add_comm (n * sz) sz, ← List.drop_drop, List.drop_left' (h e (by simp))]
theorem cellsOfAll_take {sz : Nat} : ∀ {es : List AV} (n : Nat), (∀ e ∈ es, e.cells.length = sz) → cellsOfAll (es.take n) = (cellsOfAll es).take (n * sz)
  | [], n, _ => by simp [cellsOfAll]
  | e :: es, 0, _ => by simp [cellsOfAll]
  | e :: es, n + 1, h => by
    have he : e.cells.length = sz := h e (by simp)
    have h1 : (e.cells).take ((n + 1) * sz) = e.cells := List.take_of_length_le (by rw [he, Nat.succ_mul]; omega)
    have h2 : (n + 1) * sz - e.cells.length = n * sz := by rw [he, Nat.succ_mul]; omega
    rw [List.take_succ_cons, cellsOfAll_cons, cellsOfAll_take n (fun x hx => h x (by simp [hx])), cellsOfAll_cons, List.take_append, h1, h2]
theorem cellsOfAll_at {sz : Nat} {es : List AV} (h : ∀ e ∈ es, e.cells.length = sz) {n : Nat} {e : AV} (hn : es[n]? = some e) : ((cellsOfAll es).drop (n * sz)).take sz = e.cells := by
  rw [← cellsOfAll_drop n h]
  obtain ⟨hlt, rfl⟩ := List.getElem?_eq_some_iff.1 hn
  rw [List.drop_eq_getElem_cons hlt, cellsOfAll_cons, List.take_append, h _ (List.getElem_mem hlt), List.take_of_length_le (by rw [h _ (List.getElem_mem hlt)]; omega)]
  simp

theorem indexAddr_ok (hE : EnvOK E P G) {t : TypeId} {x i : AV} {x' i' : Value} (hx : VR J x x') (hi : VR J i i') {v : AV} (e : indexAddr E t x i = some v) :
    ∃ v', (Instr.indexAt t x' i').run P w = .ok v' w ∧ VR J v v' := by
  unfold indexAddr at e
  simp only [Option.bind_eq_some_iff] at e
  obtain ⟨n, hn, ti, hti, e⟩ := e
  obtain ⟨k, rfl, _⟩ := asNat_ok hi hn
  obtain ⟨_, _, h2, _⟩ := hE.ty hti
  unfold Instr.indexAt
  split at e
  · rename_i len el id off hd
    simp only [Option.bind_eq_some_iff] at e
    obtain ⟨ei, hei, e⟩ := e
    split at e
    · rename_i hlt
      cases e
      cases hx with
      | ptr hb =>
        rename_i b
        refine ⟨.pointer (some ⟨b, off + n * ei.size, none⟩), ?_, .ptr hb⟩
        simp [asIntOf, run_underlying h2, hd, Instr.sureAddr, hlt, run_sizeOf_of hE hei, add_none]
    · cases e
  · rename_i len el cs hd
    simp only [Option.bind_eq_some_iff] at e
    obtain ⟨ei, hei, e⟩ := e
    split at e
    · rename_i hlt
      cases e
      cases hx with
      | pv g hi' hv =>
        rename_i b off
        refine ⟨.pointer (some ⟨b, off + n * ei.size, none⟩), ?_, VR.pv_drop (.pv g hi' hv) _⟩
        simp [asIntOf, run_underlying h2, hd, Instr.sureAddr, hlt, run_sizeOf_of hE hei, add_none]
    · cases e
  · rename_i el tk es hd
    simp only [Option.bind_eq_some_iff] at e
    obtain ⟨ei, hei, u, hu, e⟩ := e
    split at e
    · rename_i hc
      obtain ⟨hcl, hpos⟩ := hc
      cases e
      obtain ⟨hlt, hu'⟩ := List.getElem?_eq_some_iff.1 hu
      cases hx with
      | vl g hp hsz hi' hv hcap htk ha hemp =>
        rename_i b off cap sz ad
        have hsz' : sz = ei.size := by rw [← hsz u (by rw [← hu']; exact List.getElem_mem hlt), hcl]
        subst hsz'
        have hae : ad = ⟨b, off, none⟩ := by
          rcases ha with ⟨he, _⟩ | ha
          · subst he; simp at hlt
          · exact ha
        subst hae
        refine ⟨.pointer (some ⟨b, off + n * ei.size, none⟩), ?_, ?_⟩
        · simp [asIntOf, run_underlying h2, hd, hlt, run_sizeOf_of hE hei, add_none]
        · have hcell := cellsOfAll_at hsz hu
          have hlen : ∀ j, j < u.cells.length → n * ei.size + j < (cellsOfAll es).length := by
            intro j hj
            rw [cellsOfAll_length hsz]
            rw [hcl] at hj
            have : (n + 1) * ei.size ≤ es.length * ei.size := Nat.mul_le_mul_right _ hlt
            rw [Nat.succ_mul] at this
            omega
          refine .pv (fun j => g (n * ei.size + j)) (fun j hj => ?_) (fun j hj => ?_)
          · rw [Nat.add_assoc]; exact hi' _ (hlen j hj)
          · have := hv _ (hlen j hj)
            have e2 : u.cells[j] = (cellsOfAll es)[n * ei.size + j]'(hlen j hj) := by
              simp only [← hcell, List.getElem_take, List.getElem_drop]
            rw [e2]; exact this
    · cases e
  · rename_i el sz ag id off len hd
    simp only [Option.bind_eq_some_iff] at e
    obtain ⟨ei, hei, e⟩ := e
    split at e
    · rename_i hc
      obtain ⟨hlt, hsz⟩ := hc
      cases e
      cases hx with
      | sl hb hpos hl hcap hext ha =>
        rename_i cap b ad
        have hae : ad = ⟨b, off, none⟩ := ha.resolve_left (by omega)
        subst hae
        refine ⟨.pointer (some ⟨b, off + n * ei.size, none⟩), ?_, by rw [hsz]; exact .ptr hb⟩
        simp [asIntOf, run_underlying h2, hd, hlt, run_sizeOf_of hE hei, add_none]
    · cases e
  · cases e

theorem indexOp_ok (hE : EnvOK E P G) {t : TypeId} {x i : AV} {x' i' : Value} (hx : VR J x x') (hi : VR J i i') {v : AV} (e : indexOp E t x i = some v) :
    ∃ v', (Instr.index t x' i').run P w = .ok v' w ∧ VR J v v' := by
  unfold indexOp at e
  simp only [Option.bind_eq_some_iff] at e
  obtain ⟨n, hn, ti, hti, e⟩ := e
  obtain ⟨k, rfl, _⟩ := asNat_ok hi hn
  obtain ⟨_, _, h2, _⟩ := hE.ty hti
  unfold Instr.index
  split at e
  · rename_i len el cs hd
    simp only [Option.bind_eq_some_iff] at e
    obtain ⟨ei, hei, e⟩ := e
    split at e
    · rename_i hlt
      obtain ⟨cs', rfl, hl⟩ := VR.agg_iff.1 hx
      obtain ⟨v', g1, g2⟩ := part_ok (P := P) (w := w) hE hei hl e
      exact ⟨v', by simp [asIntOf, run_underlying h2, hd, hlt, run_sizeOf_of hE hei, g1], g2⟩
    · cases e
  · rename_i s hd
    simp only [Option.bind_eq_some_iff, Option.some.injEq] at e
    obtain ⟨c, hc, rfl⟩ := e
    cases hx
    obtain ⟨hlt, hc'⟩ := List.getElem?_eq_some_iff.1 hc
    have : (ByteArray.mk ⟨s⟩)[n]? = some c := by
      rw [← hc']
      exact getElem?_pos (ByteArray.mk ⟨s⟩) n hlt
    exact ⟨_, by simp [asIntOf, run_underlying h2, hd, this], .int _ _⟩
  · cases e
end
end Go.Kal
end

section
namespace Go.Kal
open Go

theorem elemVal_spec {ag : Bool} {sz : Nat} {cs : List AV} {v : AV} (hl : cs.length = sz) (e : elemVal ag cs = some v) : v.cells = cs ∧ v.cells.length = sz := by
  unfold elemVal at e
  split at e
  · cases e; exact ⟨rfl, hl⟩
  · split at e
    · split at e
      · rename_i h1
        cases e
        cases v <;> simp [oneC] at h1 <;> exact ⟨rfl, hl⟩
      · cases e
    · cases e

theorem chunks_spec {ag : Bool} {sz : Nat} : ∀ {n : Nat} {cs es : List AV}, cs.length = n * sz → chunks ag sz n cs = some es → cellsOfAll es = cs ∧ es.length = n ∧ ∀ e ∈ es, e.cells.length = sz
  | 0, cs, es, hl, e => by
    cases cs with
    | nil => simp [chunks] at e; subst e; simp [cellsOfAll]
    | cons _ _ => simp at hl
  | n + 1, cs, es, hl, e => by
    simp only [chunks, Option.bind_eq_some_iff, Option.some.injEq] at e
    obtain ⟨v, h1, r, h2, rfl⟩ := e
    rw [Nat.succ_mul] at hl
    obtain ⟨a1, a2⟩ := elemVal_spec (sz := sz) (by simp; omega) h1
    obtain ⟨b1, b2, b3⟩ := chunks_spec (by simp; omega) h2
    refine ⟨?_, by simp [b2], ?_⟩
    · rw [cellsOfAll_cons, a1, b1, List.take_append_drop]
    · intro x hx
      rcases List.mem_cons.1 hx with rfl | hx
      · exact a2
      · exact b3 x hx

section
variable {E : Env} {P : Program} {G J : K} {h : H} {w : World} {fr : T AV} {nt : Nat} {a : Act}

theorem mapM_some {α β : Type} (f : α → Option β) : ∀ (l : List α), (∀ x ∈ l, ∃ y, f x = some y) → ∃ r : List β, l.mapM f = some r ∧ r.length = l.length ∧ ∀ (i : Nat) (x : α), l[i]? = some x → r[i]? = f x
  | [], _ => ⟨[], rfl, rfl, fun i x h => by simp at h⟩
  | a :: l, h => by
    obtain ⟨y, hy⟩ := h a (by simp)
    obtain ⟨r, h1, h2, h3⟩ := mapM_some f l (fun x hx => h x (by simp [hx]))
    refine ⟨y :: r, by simp [List.mapM_cons, hy, h1], by simp [h2], fun i x hx => ?_⟩
    cases i with
    | zero => simp at hx ⊢; subst hx; rw [hy]
    | succ i => simpa using h3 i x (by simpa using hx)

theorem VR.of_cells {v' : Value} {x : AV} (h : VR J x v') : LR J x.cells v'.cells.toList := h.cells

theorem build_ok (hE : EnvOK E P G) {t : TypeId} {ps : List (Nat × AV)} {ps' : Array (Nat × Value)} (hl : ps.length = ps'.size)
    (hv : ∀ j (h : j < ps.length) (h' : j < ps'.toList.length), ps[j].1 = ps'.toList[j].1 ∧ VR J ps[j].2 ps'.toList[j].2) {v : AV} (e : Kal.build E t ps = some v) :
    ∃ v', (Instr.build t ps').run P w = .ok v' w ∧ VR J v v' := by
  unfold Kal.build at e
  simp only [Option.bind_eq_some_iff] at e
  obtain ⟨ti, hti, e⟩ := e
  obtain ⟨t', h1, h2, h3, h4, z, h5, h6⟩ := hE.ty hti
  have hz : LR J ti.zero.cells z.cells.toList := (ofValue_VR h6).cells
  split at e
  · rename_i fs hd
    simp only [Option.bind_eq_some_iff, Option.some.injEq] at e
    obtain ⟨cs, hf, rfl⟩ := e
    obtain ⟨places, p1, p2, p3⟩ := mapM_some (fun f : Field => (P.info? f.type).map fun i => (f.offset, i.size)) fs.toList (fun f hf => by
      obtain ⟨i, hi⟩ := hE.flds hti hd f hf
      exact ⟨_, by rw [hi]; rfl⟩)
    obtain ⟨r', g1, g2⟩ := fill_ok (J := J) (place' := (places.toArray[·]?)) (fun i p hp => by
      simp only [Option.bind_eq_some_iff, Option.some.injEq] at hp
      obtain ⟨f, hf, fi, hfi, rfl⟩ := hp
      obtain ⟨q, q1, _, q3, _⟩ := hE.ty hfi
      have := p3 i f hf
      simp only [List.getElem?_toArray]
      rw [this, q1, ← q3]; rfl) (by simpa using hl) hv hz hf
    refine ⟨.agg r', run_build w t ps' r' ?_, VR.agg_iff.2 ⟨_, rfl, g2⟩⟩
    unfold Program.built
    rw [h2, hd, h1]
    simp only [h5, p1]
    exact g1
  · rename_i n el hd
    simp only [Option.bind_eq_some_iff, Option.some.injEq] at e
    obtain ⟨ei, hei, cs, hf, rfl⟩ := e
    obtain ⟨q, q1, _, q3, _⟩ := hE.ty hei
    obtain ⟨r', g1, g2⟩ := fill_ok (J := J) (place' := fun i => some (i * q.size, q.size)) (fun i p hp => by rw [q3]; exact hp) (by simpa using hl) hv hz hf
    refine ⟨.agg r', run_build w t ps' r' ?_, VR.agg_iff.2 ⟨_, rfl, g2⟩⟩
    unfold Program.built
    rw [h2, hd, h1]
    simp only [h5, q1]
    exact g1
  · cases e

theorem field_ok (hE : EnvOK E P G) {t : TypeId} {ti fi : TI} (hti : E.ty t = some ti) {fs : Array Field} (hd : ti.desc = .struct fs) {f : Nat} {fd : Field} (hfd : fs.toList[f]? = some fd) (hfi : E.ty fd.type = some fi)
    {cs : List AV} {x' : Value} (hx : VR J (.agg cs) x') {v : AV} (e : Kal.part fi (cs.drop fd.offset) = some v) :
    ∃ v', (Instr.field t x' f).run P w = .ok v' w ∧ VR J v v' := by
  obtain ⟨_, _, h2, _⟩ := hE.ty hti
  obtain ⟨cs', rfl, hl⟩ := VR.agg_iff.1 hx
  obtain ⟨v', g1, g2⟩ := part_ok (P := P) (w := w) hE hfi hl e
  refine ⟨v', ?_, g2⟩
  unfold Instr.field
  have : fs[f]? = some fd := by simpa using hfd
  simp [run_underlying h2, hd, this, asAgg, g1]

theorem bounds_ok {e : Operand → Option AV} {ρ : Operand → Value} (hev : ∀ x v, e x = some v → VR J v (ρ x)) {lo hi : Option Operand} {l u len cap : Nat} (isS : Bool)
    (hl : bound e 0 lo = some l) (hu : bound e len hi = some u) (h1 : l ≤ u) (h2 : u ≤ cap) :
    (Instr.sliceBounds isS len cap (lo.map ρ) (hi.map ρ) none).run P w = .ok (l, u, cap) w := by
  have hL : (lo = none ∧ l = 0) ∨ ∃ x k, lo = some x ∧ ρ x = .int k l := by
    cases lo with
    | none => simp only [bound, Option.some.injEq] at hl; exact .inl ⟨rfl, hl.symm⟩
    | some x =>
      simp only [bound, Option.bind_eq_some_iff] at hl
      obtain ⟨v, g1, g2⟩ := hl
      obtain ⟨k, g3, _⟩ := asNat_ok (hev _ _ g1) g2
      exact .inr ⟨x, k, rfl, g3⟩
  have hU : (hi = none ∧ u = len) ∨ ∃ x k, hi = some x ∧ ρ x = .int k u := by
    cases hi with
    | none => simp only [bound, Option.some.injEq] at hu; exact .inl ⟨rfl, hu.symm⟩
    | some x =>
      simp only [bound, Option.bind_eq_some_iff] at hu
      obtain ⟨v, g1, g2⟩ := hu
      obtain ⟨k, g3, _⟩ := asNat_ok (hev _ _ g1) g2
      exact .inr ⟨x, k, rfl, g3⟩
  unfold Instr.sliceBounds
  rcases hL with ⟨rfl, rfl⟩ | ⟨x, k, rfl, hx⟩ <;> rcases hU with ⟨rfl, rfl⟩ | ⟨y, k', rfl, hy⟩
  · simp
  · simp [hy, run_sliceBound, h2]
  · simp [hx, run_sliceBound, h1]
  · simp [hx, hy, run_sliceBound, h1, h2]

theorem VR.vl_drop {tk : Option Nat} {es : List AV} {x' : Value} (hx : VR J (.vl tk es) x') {l u ez : Nat} (h1 : l ≤ u) (h2 : u ≤ es.length) (hz : l = 0 ∨ (es.head?.map (·.cells.length)) = some ez) :
    ∃ a cap, x' = .slice (some a) es.length cap ∧ es.length ≤ cap ∧
      VR J (if u = es.length ∧ l < u then .vl tk (es.drop l) else .vl none ((es.take u).drop l)) (.slice (some (if cap = l then a else a.add (l * ez))) (u - l) (cap - l)) := by
  cases hx with
  | vl f hp hsz hi hv hcap htk ha hemp =>
    rename_i b off cap sz ad
    refine ⟨ad, cap, rfl, hcap, ?_⟩
    have hlsz : l * ez = l * sz := by
      rcases hz with rfl | hz
      · simp
      · cases es with
        | nil => simp at hz
        | cons y ys =>
          simp at hz
          rw [← hz, hsz y (by simp)]
    have hdrop : ∀ {fs : List AV}, (∀ e ∈ fs, e ∈ es) → ∀ e ∈ fs, e.cells.length = sz := fun h e he => hsz e (h e he)
    have hmem1 : ∀ e ∈ (es.take u).drop l, e ∈ es := fun e he => List.mem_of_mem_take (List.mem_of_mem_drop he)
    have hcells : cellsOfAll ((es.take u).drop l) = ((cellsOfAll es).take (u * sz)).drop (l * sz) := by
      rw [cellsOfAll_drop l (fun e he => hsz e (List.mem_of_mem_take he)), cellsOfAll_take u hsz]
    have htot := cellsOfAll_length hsz
    have hul : u * sz ≤ es.length * sz := Nat.mul_le_mul_right _ h2
    have hll : l * sz ≤ u * sz := Nat.mul_le_mul_right _ h1
    have hlen : (cellsOfAll ((es.take u).drop l)).length = u * sz - l * sz := by
      rw [hcells, List.length_drop, List.length_take, htot, Nat.min_eq_left hul]
    have hI : ∀ j, j < (cellsOfAll ((es.take u).drop l)).length → J.imm b (off + l * sz + j) = some (f (l * sz + j)) := by
      intro j hj
      rw [Nat.add_assoc]
      exact hi _ (by omega)
    have hV : ∀ j (h : j < (cellsOfAll ((es.take u).drop l)).length), VR J (cellsOfAll ((es.take u).drop l))[j] (f (l * sz + j)) := by
      intro j hj
      have hj' : l * sz + j < (cellsOfAll es).length := by omega
      have : (cellsOfAll ((es.take u).drop l))[j] = (cellsOfAll es)[l * sz + j] := by
        simp only [hcells, List.getElem_drop, List.getElem_take]
      rw [this]; exact hv _ hj'
    have hA : ((es.take u).drop l = [] ∨ (if cap = l then ad else ad.add (l * ez)) = ⟨b, off + l * sz, none⟩) := by
      by_cases hc : cap = l
      · left; apply List.eq_nil_of_length_eq_zero; simp; omega
      · rw [if_neg hc, hlsz]
        rcases ha with ⟨he, _⟩ | ha
        · left; subst he; simp
        · right; rw [ha, add_none]
    by_cases hc : u = es.length ∧ l < u
    · rw [if_pos hc]
      obtain ⟨rfl, hlt⟩ := hc
      have hEq : (es.take es.length).drop l = es.drop l := by rw [List.take_length]
      rw [hEq] at hlen hI hV hA hmem1
      have hL : (es.drop l).length = es.length - l := by simp
      have := VR.vl (J := J) (tk := tk) (es := es.drop l) (b := b) (off := off + l * sz) (cap := cap - l) (sz := sz) (a := if cap = l then ad else ad.add (l * ez)) (fun j => f (l * sz + j)) hp (hdrop hmem1) hI hV (by rw [hL]; omega)
        (fun t ht => by
          obtain ⟨q1, q2, q3⟩ := htk t ht
          refine ⟨q1, ?_, ?_⟩
          · rw [q2, hL, Nat.sub_mul]; omega
          · rw [Nat.sub_mul]
            have : l * sz ≤ cap * sz := Nat.mul_le_mul_right _ (by omega)
            omega)
        (by
          rcases hA with hA | hA
          · exact absurd (congrArg List.length hA) (by simp; omega)
          · exact .inr hA) (fun he => absurd (congrArg List.length he) (by simp; omega))
      rw [hL] at this
      exact this
    · rw [if_neg hc]
      have hL : ((es.take u).drop l).length = u - l := by simp; omega
      have := VR.vl (J := J) (tk := none) (es := (es.take u).drop l) (b := b) (off := off + l * sz) (cap := cap - l) (sz := sz) (a := if cap = l then ad else ad.add (l * ez)) (fun j => f (l * sz + j)) hp (hdrop hmem1) hI hV (by rw [hL]; omega)
        (fun t ht => by cases ht) (by
          rcases hA with hA | hA
          · exact .inl ⟨hA, rfl⟩
          · exact .inr hA) (fun _ => .inl rfl)
      rw [hL] at this
      exact this

theorem sliceOp_ok (hE : EnvOK E P G) (hW : W J h w) {t : TypeId} {x : AV} {x' : Value} (hx : VR J x x') {e : Operand → Option AV} {ρ : Operand → Value} (hev : ∀ x v, e x = some v → VR J v (ρ x)) {lo hi : Option Operand} {l : Nat}
    (hl : bound e 0 lo = some l) {v : AV} (eq : sliceOp E h t x l (fun d => bound e d hi) = some v) :
    ∃ v', (Instr.sliceAt t x' (lo.map ρ) (hi.map ρ) none).run P w = .ok v' w ∧ VR J v v' := by
  unfold sliceOp at eq
  simp only [Option.bind_eq_some_iff] at eq
  obtain ⟨ti, hti, eq⟩ := eq
  obtain ⟨_, _, h2, _⟩ := hE.ty hti
  split at eq
  · rename_i s hd
    simp only [Option.bind_eq_some_iff] at eq
    obtain ⟨u, hu, eq⟩ := eq
    split at eq
    · rename_i hc
      cases eq; cases hx
      refine ⟨.string ⟨⟨(s.take u).drop l⟩⟩, ?_, .str _⟩
      have hb := bounds_ok (P := P) (w := w) hev false hl hu hc.1 hc.2
      have hs : (ByteArray.mk ⟨s⟩).size = s.length := rfl
      have hx : (ByteArray.mk ⟨s⟩).extract l u = ByteArray.mk ⟨(s.take u).drop l⟩ := by
        apply ByteArray.ext
        rw [ByteArray.data_extract]
        apply Array.ext'
        simp [List.extract_eq_take_drop, List.drop_take]
      simp [Instr.sliceAt, Instr.slice, run_underlying h2, hd, hs, hb, hx]
    · cases eq
  · rename_i el hd
    simp only [Option.bind_eq_some_iff] at eq
    obtain ⟨u, hu, eq⟩ := eq
    split at eq
    · rename_i hc
      obtain ⟨rfl, rfl⟩ := hc
      cases eq; cases hx
      refine ⟨.slice none 0 0, ?_, .nils⟩
      obtain ⟨ei, hei⟩ := hE.elem hti hd
      have hb := bounds_ok (P := P) (w := w) (cap := 0) hev true hl hu (Nat.le_refl _) (Nat.le_refl _)
      simp [Instr.sliceAt, Instr.slice, run_underlying h2, hd, hb, sizeOf, typeInfo, hei]
    · cases eq
  · rename_i el tk es hd
    simp only [Option.bind_eq_some_iff] at eq
    obtain ⟨ei, hei, u, hu, eq⟩ := eq
    split at eq
    · rename_i hc
      obtain ⟨ad, cap, rfl, hcap, hV⟩ := VR.vl_drop hx hc.1 hc.2.1 hc.2.2
      have hb := bounds_ok (P := P) (w := w) (cap := cap) hev true hl hu hc.1 (by omega)
      refine ⟨_, ?_, by
        have : v = (if u = es.length ∧ l < u then .vl tk (es.drop l) else .vl none ((es.take u).drop l)) := by
          split at eq <;> rename_i hq
          · rw [if_pos hq]; cases eq; rfl
          · rw [if_neg hq]; cases eq; rfl
        rw [this]; exact hV⟩
      simp [Instr.sliceAt, Instr.slice, run_underlying h2, hd, hb, run_sizeOf_of hE hei]
      split <;> rfl
    · cases eq
  · rename_i el sz ag id off len hd
    simp only [Option.bind_eq_some_iff] at eq
    obtain ⟨ei, hei, u, hu, eq⟩ := eq
    split at eq
    · rename_i hc
      obtain ⟨hlu, hul, rfl⟩ := hc
      cases eq
      cases hx with
      | sl hb hpos hlen hcap hext ha =>
        rename_i cap b ad
        have hbd := bounds_ok (P := P) (w := w) (cap := cap) hev true hl hu hlu (by omega)
        have e1 : l * ei.size ≤ u * ei.size := Nat.mul_le_mul_right _ hlu
        have e2 : u * ei.size ≤ len * ei.size := Nat.mul_le_mul_right _ hul
        have e3 : l * ei.size ≤ cap * ei.size := Nat.mul_le_mul_right _ (by omega)
        refine ⟨.slice (some (if cap = l then ad else ad.add (l * ei.size))) (u - l) (cap - l), ?_, .sl hb hpos (by rw [Nat.sub_mul]; omega) (by omega) (by rw [Nat.sub_mul]; omega) ?_⟩
        · simp [Instr.sliceAt, Instr.slice, run_underlying h2, hd, hbd, run_sizeOf_of hE hei]
          split <;> rfl
        · by_cases hq : cap = l
          · left; omega
          · right
            rw [if_neg hq, ha.resolve_left (by omega), add_none]
    · cases eq
  · rename_i n el cs hd
    simp only [Option.bind_eq_some_iff] at eq
    obtain ⟨u, hu, ei, hei, es, hes, eq⟩ := eq
    split at eq
    · rename_i hc
      obtain ⟨hlu, hun, hpos, hnl⟩ := hc
      cases eq
      obtain ⟨c1, c2, c3⟩ := chunks_spec (by simp; omega) hes
      cases hx with
      | pv f hi' hv =>
        rename_i b off
        have hbd := bounds_ok (P := P) (w := w) (cap := n) hev false hl hu hlu hun
        have hfull : VR J (.vl none es) (.slice (some ⟨b, off, none⟩) es.length n) := by
          refine .vl f hpos c3 (fun j hj => hi' j ?_) (fun j hj => ?_) (by omega) (fun t ht => by cases ht) (.inr rfl) (fun _ => .inl rfl)
          · rw [c1] at hj; simp at hj; omega
          · have hj' : j < cs.length := by rw [c1] at hj; simp at hj; omega
            have : (cellsOfAll es)[j] = cs[j] := by simp only [c1, List.getElem_take]
            rw [this]; exact hv j hj'
        obtain ⟨ad, cap, he, hcap, hV⟩ := VR.vl_drop (ez := ei.size) hfull hlu (by omega) (by
          by_cases h0 : l = 0
          · exact .inl h0
          · right
            cases es with
            | nil => simp at c2; omega
            | cons y ys => simp [c3 y (by simp)])
        cases he
        refine ⟨.slice (some (if n = l then (⟨b, off, none⟩ : Addr) else (⟨b, off, none⟩ : Addr).add (l * ei.size))) (u - l) (n - l), ?_, ?_⟩
        · simp [Instr.sliceAt, run_underlying h2, hd, hbd, run_sizeOf_of hE hei, Instr.sureAddr]
        · have : VR J (.vl none ((es.take u).drop l)) (.slice (some (if n = l then (⟨b, off, none⟩ : Addr) else (⟨b, off, none⟩ : Addr).add (l * ei.size))) (u - l) (n - l)) := by
            by_cases hq : u = es.length ∧ l < u
            · rw [if_pos hq] at hV
              rw [show (es.take u).drop l = es.drop l by rw [hq.1, List.take_length]]
              exact hV
            · rw [if_neg hq] at hV; exact hV
          exact this
    · cases eq
  · rename_i n el id off hd
    simp only [Option.bind_eq_some_iff] at eq
    obtain ⟨u, hu, ei, hei, c, hc, eq⟩ := eq
    split at eq
    · rename_i hq
      obtain ⟨hlu, hun, hpos, hnl⟩ := hq
      cases eq
      cases hx with
      | ptr hb =>
        rename_i b
        obtain ⟨ob, _, cs', lo', hi', e1, a1, a2, a3, _⟩ := hW.live (H.cells?_eq.1 hc) hb
        have hbd := bounds_ok (P := P) (w := w) (cap := n) hev false hl hu hlu hun
        have e1 : l * ei.size ≤ u * ei.size := Nat.mul_le_mul_right _ hlu
        have e2 : u * ei.size ≤ n * ei.size := Nat.mul_le_mul_right _ hun
        refine ⟨.slice (some (if n = l then (⟨b, off, none⟩ : Addr) else (⟨b, off, none⟩ : Addr).add (l * ei.size))) (u - l) (n - l), ?_, .sl hb hpos (by rw [Nat.sub_mul]; omega) (by omega) (by rw [Nat.sub_mul]; omega) ?_⟩
        · simp [Instr.sliceAt, run_underlying h2, hd, hbd, run_sizeOf_of hE hei, Instr.sureAddr]
        · by_cases hq : n = l
          · left; omega
          · right
            rw [if_neg hq, add_none]
    · cases eq
  · cases eq
end
end Go.Kal
end

section
namespace Go.Kal
open Go

mutual
theorem AV.beq_eq : ∀ {a b : AV}, AV.beq a b = true → a = b
  | .bool a, b, h => by cases b <;> simp [AV.beq] at h; rw [h]
  | .int j a, b, h => by cases b <;> simp [AV.beq] at h; rw [h.1, h.2]
  | .str a, b, h => by cases b <;> simp [AV.beq] at h; rw [h]
  | .nilp, b, h => by cases b <;> simp [AV.beq] at h; rfl
  | .ptr i o, b, h => by cases b <;> simp [AV.beq] at h; rw [h.1, h.2]
  | .pv a, b, h => by cases b <;> simp [AV.beq] at h; rw [AV.beqs_eq h]
  | .pel t a, b, h => by cases b <;> simp [AV.beq] at h; rw [h.1, AV.beqs_eq h.2]
  | .nils, b, h => by cases b <;> simp [AV.beq] at h; rfl
  | .vl t a, b, h => by cases b <;> simp [AV.beq] at h; rw [h.1, AV.beqs_eq h.2]
  | .sl _ _ _ _ _, b, h => by cases b <;> simp [AV.beq] at h; obtain ⟨⟨⟨⟨rfl, rfl⟩, rfl⟩, rfl⟩, rfl⟩ := h; rfl
  | .nilm, b, h => by cases b <;> simp [AV.beq] at h; rfl
  | .mp i, b, h => by cases b <;> simp [AV.beq] at h; rw [h]
  | .mv a, b, h => by cases b <;> simp [AV.beq] at h; rw [AV.beqp_eq h]
  | .fn f a c, b, h => by cases b <;> simp [AV.beq] at h; rw [h.1.1, AV.beqs_eq h.1.2, AV.beqs_eq h.2]
  | .nilf, b, h => by cases b <;> simp [AV.beq] at h; rfl
  | .ifc t v, b, h => by cases b <;> simp [AV.beq] at h; rw [h.1, AV.beq_eq h.2]
  | .nili, b, h => by cases b <;> simp [AV.beq] at h; rfl
  | .agg a, b, h => by cases b <;> simp [AV.beq] at h; rw [AV.beqs_eq h]
  | .tup a, b, h => by cases b <;> simp [AV.beq] at h; rw [AV.beqs_eq h]
theorem AV.beqs_eq : ∀ {a b : List AV}, AV.beqs a b = true → a = b
  | [], b, h => by cases b <;> simp [AV.beqs] at h; rfl
  | x :: a, b, h => by
    cases b with
    | nil => simp [AV.beqs] at h
    | cons y b => simp [AV.beqs] at h; rw [AV.beq_eq h.1, AV.beqs_eq h.2]
theorem AV.beqp_eq : ∀ {a b : List (AV × AV)}, AV.beqp a b = true → a = b
  | [], b, h => by cases b <;> simp [AV.beqp] at h; rfl
  | (x, u) :: a, b, h => by
    cases b with
    | nil => simp [AV.beqp] at h
    | cons y b => obtain ⟨y, v⟩ := y; simp [AV.beqp] at h; rw [AV.beq_eq h.1.1, AV.beq_eq h.1.2, AV.beqp_eq h.2]
end

section
variable {E : Env} {P : Program} {G J : K} {h : H} {w : World} {fr : T AV} {nt : Nat} {a : Act}

/-- entries, one by one -/
def NR (J : K) (es : List (AV × AV)) (ents : List MapEntry) : Prop := es.length = ents.length ∧ ∀ j (h : j < es.length) (h' : j < ents.length), VR J es[j].1 ents[j].key ∧ VR J es[j].2 ents[j].val
theorem NR.uncons {x : AV × AV} {es : List (AV × AV)} {l : List MapEntry} (hN : NR J (x :: es) l) : ∃ e t, l = e :: t ∧ VR J x.1 e.key ∧ VR J x.2 e.val ∧ NR J es t := by
  obtain ⟨hl, hv⟩ := hN
  cases l with
  | nil => simp at hl
  | cons e t =>
    refine ⟨e, t, rfl, (hv 0 (by simp) (by simp)).1, (hv 0 (by simp) (by simp)).2, by simpa using hl, fun j a b => ?_⟩
    exact hv (j + 1) (by simpa using a) (by simpa using b)

/-- equality of keys, plain ones -/
theorem eqPlain_beq {t : TypeId} {x y : AV} (fx : fits1 E t x = true) (fy : fits1 E t y = true) : eqPlain x y = some (AV.beq x y) := by
  obtain ⟨i, hi, cx⟩ := fits1_iff fx
  obtain ⟨i', hi', cy⟩ := fits1_iff fy
  rw [hi] at hi'; cases hi'
  rcases cx with ⟨k, n, hd, rfl⟩ | ⟨s, hd, rfl⟩ | ⟨b, hd, rfl⟩ <;> rcases cy with ⟨k', n', hd', rfl⟩ | ⟨s', hd', rfl⟩ | ⟨b', hd', rfl⟩ <;> (rw [hd] at hd'; cases hd') <;> simp [eqPlain, AV.beq]

theorem eqCells_beqs : ∀ {fs : List Field} {x y : List AV}, fitsF E fs x = true → fitsF E fs y = true → eqCells x y = some (AV.beqs x y)
  | [], x, y, fx, fy => by
    cases x <;> cases y <;> simp [fitsF] at fx fy
    rfl
  | f :: fs, x, y, fx, fy => by
    cases x with
    | nil => simp [fitsF] at fx
    | cons a x =>
    cases y with
    | nil => simp [fitsF] at fy
    | cons b y =>
    simp only [fitsF, Bool.and_eq_true] at fx fy
    simp only [eqCells, eqPlain_beq fx.1 fy.1, eqCells_beqs fx.2 fy.2, Option.bind_some, AV.beqs]

theorem toList_beq (a b : List UInt8) : ((ByteArray.mk ⟨a⟩ : ByteArray) == ByteArray.mk ⟨b⟩) = (a == b) := by
  rw [beq_toListBytes, toList_mk', toList_mk']

theorem sameNow_ok (hE : EnvOK E P G) {t : TypeId} {i : TI} (hi : E.ty t = some i) {x y : AV} {x' y' : Value} (hx : VR J x x') (hy : VR J y y') (fx : fits1 E t x = true) (fy : fits1 E t y = true) :
    Instr.sameNow i.desc x' y' = some (AV.beq x y) := by
  obtain ⟨i, hi', cx⟩ := fits1_iff fx
  rw [hi] at hi'; cases hi'
  obtain ⟨i', hi', cy⟩ := fits1_iff fy
  rw [hi] at hi'; cases hi'
  rcases cx with ⟨k, n, hd, rfl⟩ | ⟨s, hd, rfl⟩ | ⟨b, hd, rfl⟩ <;> rcases cy with ⟨k', n', hd', rfl⟩ | ⟨s', hd', rfl⟩ | ⟨b', hd', rfl⟩ <;> (rw [hd] at hd'; cases hd') <;> cases hx <;> cases hy <;> rw [hd] <;> simp [Instr.sameNow, AV.beq]
  by_cases e : s = s'
  · subst e; simp [toList_beq]
  · simp [e, toList_beq]

theorem keyFits_plain {t : TypeId} {i : TI} (hi : E.ty t = some i) (hn : ∀ fs, i.desc ≠ .struct fs) {x : AV} (hk : keyFits E t x = true) : fits1 E t x = true := by
  unfold keyFits at hk
  rw [hi] at hk
  simp only at hk
  split at hk
  · rename_i fs cs hd; exact absurd hd (hn fs)
  · exact hk

theorem keyFits_struct {t : TypeId} {i : TI} (hi : E.ty t = some i) {fs : Array Field} (hd : i.desc = .struct fs) {x : AV} (hk : keyFits E t x = true) : ∃ cs, x = .agg cs ∧ plainF fs.toList 0 = true ∧ fitsF E fs.toList cs = true := by
  unfold keyFits at hk
  rw [hi] at hk
  simp only at hk
  split at hk
  · rename_i fs' cs hd'
    rw [hd] at hd'; cases hd'
    simp only [Bool.and_eq_true] at hk
    exact ⟨cs, rfl, hk⟩
  · rename_i hq
    obtain ⟨i', hi', cx⟩ := fits1_iff hk
    rw [hi] at hi'; cases hi'
    rcases cx with ⟨k, n, hd', _⟩ | ⟨s, hd', _⟩ | ⟨b, hd', _⟩ <;> rw [hd] at hd' <;> cases hd'

/-- what is found: the place and the value -/
def findAt (k : AV) : List (AV × AV) → Nat → Option (Nat × AV)
  | [], _ => none
  | (a, v) :: es, i => if AV.beq k a then some (i, v) else findAt k es (i + 1)
theorem findAt_key (k : AV) : ∀ (es : List (AV × AV)) (i : Nat), (findAt k es i).map (·.2) = findKey k es
  | [], _ => rfl
  | (a, v) :: es, i => by
    simp only [findAt, findKey]
    split
    · rfl
    · exact findAt_key k es (i + 1)

def FRel (J : K) : Option (Nat × AV) → Option (Nat × Value) → Prop
  | none, none => True
  | some (i, v), some (j, v') => i = j ∧ VR J v v'
  | _, _ => False

theorem findNow_ok (hE : EnvOK E P G) {t : TypeId} {i : TI} (hi : E.ty t = some i) {k : AV} {k' : Value} (hk : VR J k k') (fk : fits1 E t k = true) : ∀ {es : List (AV × AV)} {l : List MapEntry} (n : Nat), NR J es l →
    (∀ e ∈ es, fits1 E t e.1 = true) → ∃ r, Instr.findNow i.desc k' l n = some r ∧ FRel J (findAt k es n) r
  | [], l, n, hN, _ => by
    have : l = [] := List.eq_nil_of_length_eq_zero hN.1.symm
    subst this
    exact ⟨none, rfl, trivial⟩
  | (a, v) :: es, l, n, hN, hf => by
    obtain ⟨e, t, rfl, h1, h2, h3⟩ := hN.uncons
    simp only [Instr.findNow, sameNow_ok hE hi hk h1 fk (hf _ (by simp)), findAt]
    cases hb : AV.beq k a
    · simpa using findNow_ok hE hi hk fk (n + 1) h3 (fun e he => hf e (by simp [he]))
    · exact ⟨_, rfl, rfl, h2⟩

theorem findNow_struct {fs : Array Field} {k : Value} : ∀ (l : List MapEntry) (n : Nat), Instr.findNow (.struct fs) k l n = if l = [] then some none else none
  | [], _ => rfl
  | e :: l, n => by simp [Instr.findNow, Instr.sameNow]

theorem findAsking_ok (hE : EnvOK E P G) {t : TypeId} {i : TI} (hi : E.ty t = some i) {fs : Array Field} (hd : i.desc = .struct fs) {k : AV} {k' : Value} (hk : VR J k k') (fk : keyFits E t k = true) : ∀ {es : List (AV × AV)} {l : List MapEntry} (n : Nat), NR J es l →
    (∀ e ∈ es, keyFits E t e.1 = true) → ∃ r, (Instr.findAsking t k' l n).run P w = .ok r w ∧ FRel J (findAt k es n) r
  | [], l, n, hN, _ => by
    have : l = [] := List.eq_nil_of_length_eq_zero hN.1.symm
    subst this
    exact ⟨none, rfl, trivial⟩
  | (a, v) :: es, l, n, hN, hf => by
    obtain ⟨e, tl, rfl, h1, h2, h3⟩ := hN.uncons
    obtain ⟨cs, rfl, hp, fc⟩ := keyFits_struct hi hd fk
    obtain ⟨as, ha, _, fa⟩ := keyFits_struct hi hd (hf _ (List.mem_cons_self ..))
    simp only at ha
    subst ha
    have hq : eqStruct E fs.toList (.agg cs) (.agg as) = some (AV.beq (.agg cs) (.agg as)) := by
      simp [eqStruct, hp, fc, fa, eqCells_beqs fc fa, AV.beq]
    obtain ⟨xs, ys, ex, ey, _, hr⟩ := eqStruct_ok (P := P) (w := w) hE hi hd hk h1 hq 9998
    have hr' : (Op.equal t k' e.key).run P w = .ok (AV.beq (.agg cs) (.agg as)) w := hr
    simp only [Instr.findAsking, Sem.run_bind, hr', Result.andThen_ok, findAt]
    cases hb : AV.beq (.agg cs) (.agg as)
    · simpa using findAsking_ok hE hi hd hk fk (n + 1) h3 (fun e he => hf e (by simp [he]))
    · exact ⟨_, rfl, rfl, h2⟩

theorem findKey_ok (hE : EnvOK E P G) {t : TypeId} {k : AV} {k' : Value} (hk : VR J k k') (fk : keyFits E t k = true) {es : List (AV × AV)} {l : List MapEntry} (hN : NR J es l) (hf : allFit E t es = true) :
    ∃ r, (Instr.findKey t k' l).run P w = .ok r w ∧ FRel J (findAt k es 0) r := by
  have hf' : ∀ e ∈ es, keyFits E t e.1 = true := by simpa [allFit] using hf
  cases hi : E.ty t with
  | none => unfold keyFits at fk; rw [hi] at fk; cases fk
  | some i =>
    obtain ⟨_, _, h2, _⟩ := hE.ty hi
    unfold Instr.findKey
    simp only [Sem.run_bind, run_underlying h2, Result.andThen_ok]
    by_cases hs : ∃ fs, i.desc = .struct fs
    · obtain ⟨fs, hd⟩ := hs
      rw [hd, findNow_struct]
      by_cases hl : l = []
      · subst hl
        have : es = [] := List.eq_nil_of_length_eq_zero hN.1
        subst this
        exact ⟨none, by simp, trivial⟩
      · rw [if_neg hl]
        exact findAsking_ok hE hi hd hk fk 0 hN hf'
    · have hn : ∀ fs, i.desc ≠ .struct fs := fun fs e => hs ⟨fs, e⟩
      obtain ⟨r, h1, h2⟩ := findNow_ok hE hi hk (keyFits_plain hi hn fk) 0 hN (fun e he => keyFits_plain hi hn (hf' e he))
      exact ⟨r, by simp [h1], h2⟩

theorem checkKey_plain (hE : EnvOK E P G) {t : TypeId} {k : AV} {k' : Value} (hk : VR J k k') (fk : fits1 E t k = true) (b : Bool) (n : Nat) : (Instr.checkKey b (n + 1) t k').run P w = .ok () w := by
  obtain ⟨i, hi, cx⟩ := fits1_iff fk
  obtain ⟨_, _, h2, _⟩ := hE.ty hi
  unfold Instr.checkKey
  simp only [Sem.run_bind, run_underlying h2, Result.andThen_ok]
  rcases cx with ⟨j, m, hd, rfl⟩ | ⟨s, hd, rfl⟩ | ⟨c, hd, rfl⟩ <;> cases hk <;> rw [hd] <;> simp

theorem checkKey_fields (hE : EnvOK E P G) (b : Bool) (d : Nat) {xs : Array Value} : ∀ {fs : List Field} {n : Nat} {x : List AV}, plainF fs n = true → fitsF E fs x = true → LR J x (xs.toList.drop n) →
    (forIn fs PUnit.unit (fun f _ => do
      if f.name ≠ "_" then Instr.checkKey b (d + 1) f.type (← Go.part f.type xs f.offset)
      pure (ForInStep.yield PUnit.unit) : Field → PUnit → Sem (ForInStep PUnit))).run P w = .ok PUnit.unit w
  | [], n, x, _, _, _ => by simp
  | f :: fs, n, x, hp, fx, lx => by
    cases x with
    | nil => simp [fitsF] at fx
    | cons a x =>
    simp only [plainF, Bool.and_eq_true, bne_iff_ne, ne_eq, beq_iff_eq] at hp
    simp only [fitsF, Bool.and_eq_true] at fx
    obtain ⟨a', tx, ex, va, lx'⟩ := lx.uncons
    have gx : xs[n]? = some a' := by rw [← Array.getElem?_toList]; have := congrArg (·[0]?) ex; simpa using this
    have dx : xs.toList.drop (n + 1) = tx := by have := congrArg (·.drop 1) ex; simpa using this
    have ih := checkKey_fields hE b d (xs := xs) hp.2 fx.2 (by rw [dx]; exact lx')
    simp only [List.forIn_cons, Sem.run_bind]
    rw [if_pos hp.1.1, hp.1.2]
    simp only [Sem.run_bind, run_part_one hE fx.1 gx, Result.andThen_ok, checkKey_plain hE va fx.1, Sem.run_pure]
    exact ih

theorem checkKey_ok (hE : EnvOK E P G) {t : TypeId} {k : AV} {k' : Value} (hk : VR J k k') (fk : keyFits E t k = true) (b : Bool) : (Instr.checkKey b 10000 t k').run P w = .ok () w := by
  cases hi : E.ty t with
  | none => unfold keyFits at fk; rw [hi] at fk; cases fk
  | some i =>
    obtain ⟨_, _, h2, _⟩ := hE.ty hi
    by_cases hs : ∃ fs, i.desc = .struct fs
    · obtain ⟨fs, hd⟩ := hs
      obtain ⟨cs, rfl, hp, fc⟩ := keyFits_struct hi hd fk
      obtain ⟨xs, ex, lx⟩ := VR.agg_iff.1 hk
      subst ex
      show (Instr.checkKey b (9999 + 1) t _).run P w = _
      unfold Instr.checkKey
      simp only [Sem.run_bind, run_underlying h2, Result.andThen_ok, hd]
      have := checkKey_fields (P := P) (w := w) hE b 9998 (xs := xs) hp fc (by simpa using lx)
      simp only [ne_eq, ite_not, bind_pure_comp, Array.forIn_toList] at this
      simp [this]
    · have hn : ∀ fs, i.desc ≠ .struct fs := fun fs e => hs ⟨fs, e⟩
      exact checkKey_plain hE hk (keyFits_plain hi hn fk) b 9999

/-- a map's entries -/
theorem entries_ok (hW : W J h w) {m : AV} {m' : Value} (hm : VR J m m') {es : List (AV × AV)} (e : entriesOf h m = some es) :
    ∃ ents : Array MapEntry, NR J es ents.toList ∧ ((m' = .map none ∧ ents = #[]) ∨ ∃ r ck, m' = .map (some r) ∧ w.heap[r]? = some (.map ents ck)) := by
  unfold entriesOf at e
  split at e
  · cases e; cases hm
    exact ⟨#[], ⟨rfl, fun j x => absurd x (by simp)⟩, .inl ⟨rfl, rfl⟩⟩
  · cases e
    cases hm with
    | mv l hi hl hk hv =>
      rename_i r
      obtain ⟨ents, ck, g1, g2⟩ := hW.immM hi
      refine ⟨ents, ⟨by rw [hl, ← g2]; simp, fun j a b => ?_⟩, .inr ⟨r, ck, rfl, g1⟩⟩
      have ej : l[j]? = some (ents.toList[j].key, ents.toList[j].val) := by rw [← g2]; simp at b ⊢; exact ⟨_, Array.getElem?_eq_getElem b, rfl, rfl⟩
      obtain ⟨hj, ej⟩ := List.getElem?_eq_some_iff.1 ej
      have k1 := hk j a hj
      have k2 := hv j a hj
      rw [ej] at k1 k2
      exact ⟨k1, k2⟩
  · rename_i id
    cases hm with
    | mp hb =>
      rename_i b
      obtain ⟨ob, g1, ents, ck, rfl, a1, a2, a3, _⟩ := hW.live (H.map?_eq.1 e) hb
      exact ⟨ents, ⟨by simpa using a1, fun j x y => ⟨(a2 j x (by simpa using y)).1, (a2 j x (by simpa using y)).2.1⟩⟩, .inr ⟨b, ck, rfl, g1⟩⟩
  · cases e

def pickV (ok : Bool) (z : Value) : Option (Nat × Value) → Value
  | some q => if ok then .tuple #[q.2, .bool true] else q.2
  | none => if ok then .tuple #[z, .bool false] else z

theorem lookup_ok (hE : EnvOK E P G) (hW : W J h w) {t : TypeId} {m k : AV} {m' k' : Value} (hm : VR J m m') (hk : VR J k k') {ok : Bool} {v : AV} (e : Kal.lookup E h t m k ok = some v) :
    ∃ v', (Instr.lookup t m' k' ok).run P w = .ok v' w ∧ VR J v v' := by
  unfold Kal.lookup at e
  simp only [Option.bind_eq_some_iff] at e
  obtain ⟨ti, hti, e⟩ := e
  obtain ⟨_, _, h2, _⟩ := hE.ty hti
  split at e
  · rename_i kt el hd
    simp only [Option.bind_eq_some_iff] at e
    obtain ⟨es, hes, ei, hei, e⟩ := e
    split at e
    · rename_i hf
      simp only [Bool.and_eq_true] at hf
      obtain ⟨ents, hN, hm'⟩ := entries_ok hW hm hes
      obtain ⟨r, f1, f2⟩ := findKey_ok (P := P) (w := w) hE hk hf.1 hN hf.2
      obtain ⟨z, z1, z2⟩ := run_zero_of (w := w) (J := J) hE hei
      have hfk := findAt_key k es 0
      have hrun : (Instr.lookup t m' k' ok).run P w = .ok (pickV ok z r) w := by
        unfold Instr.lookup
        simp only [Sem.run_bind, run_underlying h2, Result.andThen_ok, hd]
        have hc := fun b => checkKey_ok (P := P) (w := w) hE hk hf.1 b
        rcases hm' with ⟨rfl, rfl⟩ | ⟨b, ck, rfl, hb⟩
        · have f1' : (Instr.findKey kt k' []).run P w = .ok r w := f1
          cases r with
          | none => simp [z1, hc, f1', pickV]
          | some q => simp [hc, f1', pickV]
        · simp only [getObj, Sem.run, hb, Sem.run_bind, Sem.run_pure, Result.andThen_ok, hc, f1]
          cases r with
          | none => simp [z1, pickV]
          | some q => simp [pickV]
      refine ⟨_, hrun, ?_⟩
      rw [← hfk] at e
      cases hfa : findAt k es 0 with
      | none =>
        rw [hfa] at f2 e
        cases r with
        | some q => exact f2.elim
        | none =>
          simp only [Option.map_none, Option.some.injEq] at e
          subst e
          cases ok
          · exact z2
          · exact VR.tup_iff.2 ⟨_, rfl, LR.cons z2 (LR.cons (.bool _) (LR.nil J))⟩
      | some q =>
        rw [hfa] at f2 e
        obtain ⟨qi, qv⟩ := q
        cases r with
        | none => exact f2.elim
        | some q' =>
          obtain ⟨qi', qv'⟩ := q'
          obtain ⟨_, f2⟩ := f2
          simp only [Option.map_some, Option.some.injEq] at e
          subst e
          cases ok
          · exact f2
          · exact VR.tup_iff.2 ⟨_, rfl, LR.cons f2 (LR.cons (.bool _) (LR.nil J))⟩
    · cases e
  · cases e
end
end Go.Kal
end

section
namespace Go.Kal
open Go
section
variable {E : Env} {P : Program} {G J : K} {h : H} {w : World} {fr : T AV} {nt : Nat} {a : Act}

theorem extract_ok {vs : List AV} {x' : Value} (hx : VR J (.tup vs) x') {i : Nat} {v : AV} (e : vs[i]? = some v) : ∃ v', (Instr.extract x' i).run P w = .ok v' w ∧ VR J v v' := by
  obtain ⟨cs', rfl, hl⟩ := VR.tup_iff.1 hx
  obtain ⟨v', g1, g2⟩ := hl.get? e
  have : cs'[i]? = some v' := by simpa using g1
  exact ⟨v', by simp [Instr.extract, this], g2⟩

theorem makeIface_ok (hE : EnvOK E P G) {t : TypeId} {i : TI} (hi : E.ty t = some i) (hn : ∀ ms, i.desc ≠ .interface ms) {x : AV} {x' : Value} (hx : VR J x x') : (Instr.makeInterface t x').run P w = .ok (.iface t x') w := by
  obtain ⟨_, _, h2, _⟩ := hE.ty hi
  unfold Instr.makeInterface
  simp only [Sem.run_bind, run_underlying h2, Result.andThen_ok]
  cases hd : i.desc <;> first | rfl | exact absurd hd (hn _)

def assertA (i : TI) (asserted : TypeId) (ok : Bool) (x : AV) : Option AV :=
  match i.desc, x with
    | .interface _, _ => none
    | _, .nili => if ok then some (.tup [i.zero, .bool false]) else none
    | _, .ifc t v => if t = asserted then some (if ok then .tup [v, .bool true] else v) else if ok then some (.tup [i.zero, .bool false]) else none
    | _, _ => none

theorem assert_ok (hE : EnvOK E P G) {xt asserted : TypeId} {i : TI} (hi : E.ty asserted = some i) {x : AV} {x' : Value} (hx : VR J x x') {ok : Bool} {v : AV} (e : assertA i asserted ok x = some v) :
    ∃ v', (Instr.typeAssert x' xt asserted ok).run P w = .ok v' w ∧ VR J v v' := by
  obtain ⟨_, _, h2, _⟩ := hE.ty hi
  obtain ⟨z, z1, z2⟩ := run_zero_of (w := w) (J := J) hE hi
  unfold assertA at e
  unfold Instr.typeAssert
  simp only [Sem.run_bind, run_underlying h2, Result.andThen_ok]
  split at e
  · cases e
  · rename_i hd hn
    split at e
    · rename_i hok
      subst hok
      cases e
      cases hx
      refine ⟨_, ?_, VR.tup_iff.2 ⟨#[z, .bool false], rfl, LR.cons z2 (LR.cons (.bool _) (LR.nil J))⟩⟩
      cases hd' : i.desc <;> first | exact absurd hd' (hn _) | simp [z1]
    · cases e
  · rename_i t u hd hn
    cases hx with
    | ifc hu =>
      rename_i u'
      split at e
      · rename_i ht
        subst ht
        cases e
        refine ⟨if ok then .tuple #[u', .bool true] else u', ?_, ?_⟩
        · cases hd' : i.desc <;> first | exact absurd hd' (hn _) | simp
        · cases ok
          · exact hu
          · exact VR.tup_iff.2 ⟨_, rfl, LR.cons hu (LR.cons (.bool _) (LR.nil J))⟩
      · rename_i ht
        split at e
        · rename_i hok
          subst hok
          cases e
          refine ⟨_, ?_, VR.tup_iff.2 ⟨#[z, .bool false], rfl, LR.cons z2 (LR.cons (.bool _) (LR.nil J))⟩⟩
          cases hd' : i.desc <;> first | exact absurd hd' (hn _) | simp [z1, ht]
        · cases e
  · cases e

theorem len_ok (hE : EnvOK E P G) (hW : W J h w) {t : TypeId} {x : AV} {x' : Value} (hx : VR J x x') {n : Nat} (e : lenOp E h t x = some n) {ts : Array TypeId} {ty : TypeId} (ht : ts[0]? = some t) :
    (Builtin.len_ ts ty #[x']).run P w = .ok (.int .i64 n) w := by
  unfold lenOp at e
  simp only [Option.bind_eq_some_iff] at e
  obtain ⟨i, hi, e⟩ := e
  obtain ⟨_, _, h2, _⟩ := hE.ty hi
  unfold Builtin.len_
  simp only [ht, List.getElem?_toArray, List.getElem?_cons_zero, Sem.run_bind, run_underlying h2, Result.andThen_ok]
  split at e
  · rename_i s hd; cases e; cases hx; simp [hd, goInt]; rfl
  · rename_i m el y hd; cases e; simp [hd, goInt]
  · rename_i el hd; cases e; cases hx; simp [hd, goInt]
  · rename_i el tk es hd; cases e; cases hx; simp [hd, goInt]
  · rename_i el sz ag id off len hd; cases e; cases hx; simp [hd, goInt]
  · rename_i kt el hd; cases e; cases hx; simp [hd, goInt]
  · rename_i kt el es hd; cases e
    obtain ⟨ents, hN, hm⟩ := entries_ok hW hx (es := es) rfl
    rcases hm with ⟨hm, rfl⟩ | ⟨r, ck, rfl, hr⟩
    · cases hx; cases hm
    · have := hN.1
      simp [hd, goInt, getObj, Sem.run, hr, this]
  · rename_i kt el id hd
    simp only [Option.bind_eq_some_iff, Option.some.injEq] at e
    obtain ⟨es, hes, rfl⟩ := e
    obtain ⟨ents, hN, hm⟩ := entries_ok hW hx (es := es) hes
    rcases hm with ⟨hm, rfl⟩ | ⟨r, ck, rfl, hr⟩
    · cases hx; cases hm
    · have := hN.1
      simp [hd, goInt, getObj, Sem.run, hr, this]
  · cases e

theorem max2_ok {x y : AV} {x' y' : Value} (hx : VR J x x') (hy : VR J y y') {v : AV} (e : Kal.max2 x y = some v) : ∃ v', (Builtin.max2 x' y').run P w = .ok v' w ∧ VR J v v' := by
  unfold Kal.max2 at e
  split at e
  · cases e; cases hx; cases hy; exact ⟨_, rfl, .int _ _⟩
  · cases e
theorem min2_ok {x y : AV} {x' y' : Value} (hx : VR J x x') (hy : VR J y y') {v : AV} (e : Kal.min2 x y = some v) : ∃ v', (Builtin.min2 x' y').run P w = .ok v' w ∧ VR J v v' := by
  unfold Kal.min2 at e
  split at e
  · cases e; cases hx; cases hy; exact ⟨_, rfl, .int _ _⟩
  · cases e
theorem fold_ok {f : AV → AV → Option AV} {g : Value → Value → Sem Value} (hf : ∀ x y x' y' v, VR J x x' → VR J y y' → f x y = some v → ∃ v', (g x' y').run P w = .ok v' w ∧ VR J v v') :
    ∀ {l : List AV} {l' : List Value} {x : AV} {x' : Value} {v : AV}, VR J x x' → LR J l l' → foldOpt f x l = some v → ∃ v', (l'.foldlM g x').run P w = .ok v' w ∧ VR J v v'
  | [], l', x, x', v, hx, hl, e => by
    have := hl.nil_inv; subst this
    cases e
    exact ⟨x', rfl, hx⟩
  | y :: l, l', x, x', v, hx, hl, e => by
    obtain ⟨y', t', rfl, hy, ht⟩ := hl.uncons
    simp only [foldOpt, Option.bind_eq_some_iff] at e
    obtain ⟨u, e1, e2⟩ := e
    obtain ⟨u', g1, g2⟩ := hf _ _ _ _ _ hx hy e1
    obtain ⟨v', g3, g4⟩ := fold_ok hf g2 ht e2
    exact ⟨v', by simp [List.foldlM_cons, g1, g3], g4⟩

theorem sliceData_ok {t : Nat} {es : List AV} {x' : Value} (hx : VR J (.vl (some t) es) x') (hne : es ≠ []) {ts : Array TypeId} {ty : TypeId} :
    ∃ v', (Builtin.unsafeSliceData_ ts ty #[x']).run P w = .ok v' w ∧ VR J (.pel t (cellsOfAll es)) v' := by
  cases hx with
  | vl f hp hsz hi hv hcap htk ha hemp =>
    rename_i b off cap sz ad
    have hae : ad = ⟨b, off, none⟩ := by
      rcases ha with ⟨h1, h2⟩ | ha
      · cases h2
      · exact ha
    subst hae
    have hc : cap ≠ 0 := by
      intro h0
      have : 0 < es.length := List.length_pos_iff.2 hne
      omega
    refine ⟨.pointer (some ⟨b, off, none⟩), by
      show ((if cap ≠ 0 then pure (.pointer (some ⟨b, off, none⟩)) else _ : Sem Value)).run P w = _
      rw [if_pos hc]; rfl, .pel f (htk t rfl).1 hi hv⟩

theorem entry_ok (hW : W J h w) {r m : Nat} {it' : Value} (hit : VR J (.ptr r 0) it') (hr : h.get r = some (.mapIter m 2)) {k v : AV} (hm : h.map? m = some [(k, v)]) :
    ∃ v', (Instr.entry it').run P w = .ok v' w ∧ VR J (.tup [k, v]) v' := by
  cases hit with
  | ptr hb =>
    rename_i b
    obtain ⟨ob, g1, mb, o1, o2, _⟩ := hW.live hr hb
    have e : ob = .mapIter (some mb) 1 #[0] 1 := by
      rcases o2 with ⟨h, _⟩ | ⟨h, _⟩ | ⟨_, h⟩
      · cases h
      · cases h
      · exact h
    subst e
    obtain ⟨ob2, g2, ents, ck, rfl, a1, a2, a3, _⟩ := hW.live (H.map?_eq.1 hm) o1
    have hs : ents.size = 1 := by simpa using a1.symm
    obtain ⟨x0, rfl⟩ : ∃ x0, ents = #[x0] := by
      refine ⟨ents[0], ?_⟩
      apply Array.ext
      · simp [hs]
      · intro i h1 h2
        have : i = 0 := by simpa using h2
        subst this; rfl
    have h0 := a2 0 (by simp) (by simp)
    simp only [List.getElem_cons_zero, List.getElem_toArray] at h0
    simp only [List.size_toArray, List.length_cons, List.length_nil] at a3
    subst a3
    refine ⟨.tuple #[x0.key, x0.val], ?_, VR.tup_iff.2 ⟨_, rfl, LR.cons h0.1 (LR.cons h0.2.1 (LR.nil J))⟩⟩
    unfold Instr.entry
    have hbk : (#[0] : Array Nat).back? = some 0 := rfl
    have hb0 : x0.born = 0 := h0.2.2
    simp [getObj, Sem.run, g1, g2, hbk, hb0]

theorem byteOf_ok {x : AV} {x' : Value} (hx : VR J x x') {b : UInt8} (e : byteOf x = some b) : ∃ n : Int, x' = .int .u8 n ∧ b = UInt8.ofNat n.toNat := by
  unfold byteOf at e
  split at e
  · cases e; cases hx; exact ⟨_, rfl, rfl⟩
  · cases e
theorem bytes_ok : ∀ {l : List AV} {l' : List Value} {bs : List UInt8}, LR J l l' → optAll byteOf l = some bs → ∃ ns : List Int, l' = ns.map (Value.int .u8) ∧ bs = ns.map fun n => UInt8.ofNat n.toNat
  | [], l', bs, hl, e => by
    have := hl.nil_inv; subst this
    cases e; exact ⟨[], rfl, rfl⟩
  | x :: l, l', bs, hl, e => by
    obtain ⟨x', t', rfl, hx, ht⟩ := hl.uncons
    obtain ⟨b, y, e1, e2, rfl⟩ := optAll_cons.1 e
    obtain ⟨n, rfl, rfl⟩ := byteOf_ok hx e1
    obtain ⟨ns, rfl, rfl⟩ := bytes_ok ht e2
    exact ⟨n :: ns, rfl, rfl⟩

theorem lies_obj (hW : W J h w) {id b : Nat} {c : TypeId × List AV} (hc : h.cells? id = some c) (hb : J.obj id = some b) : ∃ cs, LR J c.2 cs ∧ Lies w b 0 cs := by
  obtain ⟨ob, h1, cs, lo, hi, e1, a1, a2, a3, a4, _⟩ := hW.live (H.cells?_eq.1 hc) hb
  refine ⟨_, a4, fun j v hj => ?_⟩
  rw [List.getElem?_take] at hj
  split at hj
  · subst e1
    unfold World.cell?
    simp only [h1, Nat.zero_add]
    simpa using hj
  · cases hj
theorem Lies.drop {b off : Nat} {l : List Value} (hl : Lies w b off l) (n : Nat) : Lies w b (off + n) (l.drop n) := fun j v hj => by
  rw [List.getElem?_drop] at hj
  rw [Nat.add_assoc]
  exact hl _ _ hj
theorem Lies.take {b off : Nat} {l : List Value} (hl : Lies w b off l) (n : Nat) : Lies w b off (l.take n) := fun j v hj => by
  rw [List.getElem?_take] at hj
  split at hj
  · exact hl _ _ hj
  · cases hj
theorem run_loadCells_lies {b off n : Nat} {l : List Value} (hl : Lies w b off l) (hn : l.length = n) : (loadCells ⟨b, off, none⟩ n).run P w = .ok l.toArray w := by
  subst hn
  exact run_loadCells_list w ⟨b, off, none⟩ l (fun j v hj => by rw [add_none]; exact hl j v hj)

theorem lies_imm (hW : W J h w) {cs : List AV} {b off : Nat} {f : Nat → Value} (hi : ∀ j, j < cs.length → J.imm b (off + j) = some (f j)) (hv : ∀ j (h : j < cs.length), VR J cs[j] (f j)) :
    LR J cs ((List.range cs.length).map f) ∧ Lies w b off ((List.range cs.length).map f) :=
  ⟨LR.of_fn f hv, fun j v hj => by
    obtain ⟨hj1, hj2⟩ := List.getElem?_eq_some_iff.1 hj
    simp only [List.length_map, List.length_range] at hj1
    simp only [List.getElem_map, List.getElem_range] at hj2
    subst hj2
    exact cell_imm hW (hi j hj1)⟩

theorem run_bytes_of {b off len cap : Nat} {l : List AV} {l' : List Value} (hl : LR J l l') (hlie : Lies w b off l') (hn : l.length = len) {bs : List UInt8} (e : optAll byteOf l = some bs) :
    (Conv.bytesToString (.slice (some ⟨b, off, none⟩) len cap)).run P w = .ok (.string ⟨⟨bs⟩⟩) w := by
  obtain ⟨ns, rfl, rfl⟩ := bytes_ok hl e
  have := run_loadCells_lies (P := P) hlie (n := len) (by rw [← hl.1]; exact hn)
  rw [run_bytesToString w _ _ _ ns this, foldl_push_bytes]
  simp [ByteArray.empty, ByteArray.emptyWithCapacity]
  rfl
end
end Go.Kal
end
