/-
The fixed facts hold; the start memory.
-/
import Derived.Test.YtacoaajilnpeiaaGreatDoorSg
import Derived.Test.YtacoaajilnpeiaaGreatDoorRows
import Derived.LaidMore
import Derived.LaidLaws
import Derived.LaidHandle
import Derived.OpenShut
import Derived.Lib.LaidU8
import Derived.Handed
import Derived.ProofKit
import Derived.JoinedOf
import Derived.Test.YtacoaajilnpeiaaGreatDoorSb

set_option linter.unusedVariables false
set_option linter.unusedSimpArgs false

section
namespace Go.Kal
open Go Go.Proofs

theorem call_16 : callR (mkE I5) 100000 300 16 [] = some (.val (.bool true)) := by kernel_rfl

def awT4 : T (List AV → Option AV) := (.node .leaf none (.node (.node (.node (.node .leaf (some (memo (.bool true))) .leaf) none .leaf) none .leaf) none .leaf))
noncomputable def I6 : Nat → Option (List AV → Option AV) := moreI awT4 I5

end Go.Kal
end

section
namespace Go.Kal
open Go Go.Proofs

/-- what is asked of what is known at the start -/
structure GOK (G : K) : Prop where
  glob : ∀ {g cs}, getF globT g = some cs → VR G (.pv cs) (.pointer (some ⟨g, 0, none⟩))
  globF : GlobF G
  obj : ∀ i, G.obj i = none
  good : G.good = GoodC (mkE fun _ => none) (RD fun _ => none)

theorem goodC_env {E E' : Env} {R : Nat → Nat → Array Oper → Prop} {f : Nat} : ∀ c : Code, GoodC E R f c = GoodC E' R f c
  | .region _ _ _ => rfl
  | .seq a b => by simp only [GoodC, goodC_env (E := E) (E' := E') a, goodC_env (E := E) (E' := E') b]
  | .cond _ a b => by simp only [GoodC, goodC_env (E := E) (E' := E') a, goodC_env (E := E) (E' := E') b]
  | .block _ b => by simp only [GoodC, goodC_env (E := E) (E' := E') b]
  | .loop b => by simp only [GoodC, goodC_env (E := E) (E' := E') b]
  | .rangeFunc _ _ a b => by simp only [GoodC, goodC_env (E := E) (E' := E') a, goodC_env (E := E) (E' := E') b]
  | .skip | .exit _ | .ret | .label _ | .goto _ | .scope _ | .refuse _ => rfl

section
variable {G : K} {I : Nat → Option (List AV → Option AV)}
theorem GOK.env (hG : GOK G) : EnvOK (mkE I) Tryz.prog G := env_ok fun h => hG.glob h
theorem GOK.call (hG : GOK G) (hI : ∀ f g, I f = some g → IntrOK G f g) : CallEnv (mkE I) Tryz.prog G (RD I) := callEnv_ok hG.obj (hG.good.trans (funext fun f => funext fun c => goodC_env c)) hI

theorem more_ok {t : T (List AV → Option AV)} (hI : ∀ f g, I f = some g → IntrOK G f g) (ht : ∀ f g, t.get f = some g → IntrOK G f g) : ∀ f g, moreI t I f = some g → IntrOK G f g := by
  intro f g e
  unfold moreI at e
  rw [getF_eq] at e
  cases h : t.get f with
  | none => rw [h] at e; exact hI f g e
  | some g' => rw [h] at e; cases e; exact ht f g h

theorem memo_ok (hG : GOK G) (hI : ∀ f g, I f = some g → IntrOK G f g) {N n f : Nat} {v : AV} (h : callR (mkE I) N n f [] = some (.val v)) (hint : I f = none) (hhold : (mkE I).hold f = false) {fn : Func} (hfn : (mkE I).fn f = some fn) (hbody : fn.body.isSome = true) : IntrOK G f (memo v) := by
  obtain ⟨c, hc⟩ := Option.isSome_iff_exists.1 hbody
  rw [callR_eq] at h
  refine @intr_of I G (hG.call hI) hG.env f fn c hfn hc hint N n (memo v) fun args u hu h0 => ?_
  cases args with
  | nil => cases hu; exact callF_closed h hint hhold hfn hc rfl h0
  | cons _ _ => cases hu

theorem one_key {t : T (List AV → Option AV)} {k : Nat} {g0 : List AV → Option AV} (hk : t.keys.all (fun n => n == k) = true) (ht : t.get k = some g0) (h0 : IntrOK G k g0) : ∀ f g, t.get f = some g → IntrOK G f g := by
  intro f g e
  have := List.all_eq_true.1 hk f (T.get_keys e)
  simp only [beq_iff_eq] at this
  subst this
  rw [ht] at e
  cases e
  exact @h0

theorem I0_ok (hG : GOK G) : ∀ f g, I0 f = some g → IntrOK G f g := more_ok (fun f g e => by cases e) fun f g e => libI_ok hG.globF f g e
theorem I1_ok (hG : GOK G) : ∀ f g, I1 f = some g → IntrOK G f g := by
  refine more_ok (I0_ok hG) fun f g e => ?_
  have hk := T.get_keys e
  have hkeys : tabT.keys.all (fun n => n == 79 || n == 80 || n == 81 || n == 82) = true := by decide
  have := List.all_eq_true.1 hkeys f hk
  simp only [Bool.or_eq_true, beq_iff_eq] at this
  rcases this with (((rfl | rfl) | rfl) | rfl)
  · cases e; exact @memo_ok G I0 hG (I0_ok hG) _ _ _ _ call_engV (by kernel_rfl) (by kernel_rfl) Tryz.f79 (by kernel_rfl) (by kernel_rfl)
  · cases e; exact @memo_ok G I0 hG (I0_ok hG) _ _ _ _ call_gerV (by kernel_rfl) (by kernel_rfl) Tryz.f80 (by kernel_rfl) (by kernel_rfl)
  · cases e; exact @memo_ok G I0 hG (I0_ok hG) _ _ _ _ call_freV (by kernel_rfl) (by kernel_rfl) Tryz.f81 (by kernel_rfl) (by kernel_rfl)
  · cases e; exact @memo_ok G I0 hG (I0_ok hG) _ _ _ _ call_polV (by kernel_rfl) (by kernel_rfl) Tryz.f82 (by kernel_rfl) (by kernel_rfl)
theorem I2_ok (hG : GOK G) : ∀ f g, I2 f = some g → IntrOK G f g :=
  more_ok (I1_ok hG) (one_key (k := 378) (by decide) rfl (@memo_ok G I1 hG (I1_ok hG) _ _ _ _ call_378 (by kernel_rfl) (by kernel_rfl) Tryz.f378 (by kernel_rfl) (by kernel_rfl)))
theorem I3_ok (hG : GOK G) : ∀ f g, I3 f = some g → IntrOK G f g :=
  more_ok (I2_ok hG) (one_key (k := 315) (by decide) rfl (@memo_ok G I2 hG (I2_ok hG) _ _ _ _ call_315 (by kernel_rfl) (by kernel_rfl) Tryz.f315 (by kernel_rfl) (by kernel_rfl)))
theorem I4_ok (hG : GOK G) : ∀ f g, I4 f = some g → IntrOK G f g :=
  more_ok (I3_ok hG) (one_key (k := 219) (by decide) rfl (@memo_ok G I3 hG (I3_ok hG) _ _ _ _ call_219 (by kernel_rfl) (by kernel_rfl) Tryz.f219 (by kernel_rfl) (by kernel_rfl)))
theorem I5_ok (hG : GOK G) : ∀ f g, I5 f = some g → IntrOK G f g :=
  more_ok (I4_ok hG) (one_key (k := 152) (by decide) rfl (@memo_ok G I4 hG (I4_ok hG) _ _ _ _ call_152 (by kernel_rfl) (by kernel_rfl) Tryz.f152 (by kernel_rfl) (by kernel_rfl)))
theorem I6_ok (hG : GOK G) : ∀ f g, I6 f = some g → IntrOK G f g :=
  more_ok (I5_ok hG) (one_key (k := 16) (by decide) rfl (@memo_ok G I5 hG (I5_ok hG) _ _ _ _ call_16 (by kernel_rfl) (by kernel_rfl) Tryz.f16 (by kernel_rfl) (by kernel_rfl)))
end
end Go.Kal
end

section
namespace Go.Kal
open Go Go.Proofs Go.Proofs.YtacoaajilnpeiaaGreatDoor

/-- all that the start memory holds is known, and nobody writes it -/
noncomputable def K0 (w : World) : K where
  imm b o := match w.heap[b]? with | some (.cells cs _ _) => cs[o]? | _ => none
  immM r := match w.heap[r]? with | some (.map es _) => some (es.toList.map fun e => (e.key, e.val)) | _ => none
  obj _ := none
  len _ := 0
  ext _ := 0
  good := GoodC (mkE fun _ => none) (RD fun _ => none)
  pin b := match w.heap[b]? with | some (.cells cs el fz) => some (.cells cs el fz) | _ => none

theorem K0_imm {w : World} {b o : Nat} {v : Value} (h : w.cell? ⟨b, o, none⟩ = some v) : (K0 w).imm b o = some v := by
  unfold World.cell? at h
  simp only [Option.isSome_none, Bool.false_eq_true, if_false] at h
  exact h
theorem K0_W (w : World) : W (K0 w) H.empty w where
  imm := fun {b o v} h => by
    simp only [K0] at h
    split at h
    · exact ⟨_, _, _, by assumption, h⟩
    · cases h
  immM := fun {r l} h => by
    simp only [K0] at h
    split at h
    · cases h
      exact ⟨_, _, by assumption, rfl⟩
    · cases h
  live := fun h => by cases h
  apart := fun h => by cases h
  ids := fun h => by cases h
  fresh := fun _ => rfl
  lt := fun h => by cases h
  pin := {
    blk := fun {b o} h => by
      simp only [K0] at h
      split at h
      · cases h; assumption
      · cases h
    obj := fun h => by cases h
    cells := fun {b o} h => by
      simp only [K0] at h
      split at h
      · cases h; exact ⟨_, _, _, rfl⟩
      · cases h }

section
variable {P : Program} {w : World} {H : Type} {enc : TypeId × Value → H} {sp : Nat → Bool} {held : Bool}

/-- a datum's cells: whole numbers, strings, structs, arrays, slices of whole numbers -/
def intsD {H : Type} (k : IntKind) : List (DataW H) → Option (List Int)
  | [] => some []
  | .lit (.int k' z) :: r => if k' = k then (intsD k r).map (z :: ·) else none
  | _ => none
def flatL {H : Type} (F : TypeId → DataW H → Option (List AV)) (size : TypeId → Nat) : List (Nat × TypeId) → List (DataW H) → Nat → Option (List AV)
  | [], [], _ => some []
  | (o, t) :: l, d :: ds, pos => if o = pos then (F t d).bind fun a => if a.length = size t then (flatL F size l ds (pos + a.length)).map (a ++ ·) else none else none
  | _, _, _ => none
def flatD {H : Type} (P : Program) : Nat → TypeId → DataW H → Option (List AV)
  | 0, _, _ => none
  | n + 1, t, d =>
    match P.underlying t, d with
    | some (.int k), .lit (.int k' z) => if k' = k then some [.int k z] else none
    | some .string, .lit (.string s) => some [.str s]
    | some (.slice e), .slice es [] => match P.underlying e with
      | some (.int k) => if P.cellsOf e = 1 ∧ es ≠ [] then (intsD k es).map fun zs => [.vl none (zs.map (.int k))] else none
      | _ => none
    | some (.struct fs), .agg ds => (flatL (flatD P n) P.cellsOf (fs.toList.map fun f => (f.offset, f.type)) ds 0).bind fun vs => if vs.length = P.cellsOf t then some vs else none
    | some (.array m e), .agg ds => (flatL (flatD P n) P.cellsOf ((List.range m).map fun i => (i * P.cellsOf e, e)) ds 0).bind fun vs => if vs.length = P.cellsOf t then some vs else none
    | _, _ => none

theorem flatL_ok {F : TypeId → DataW H → Option (List AV)} {size : TypeId → Nat} {n : Nat} (hF : ∀ t d cs p vs, DataW.trod enc P w 0 sp held n t cs = some (d, p) → F t d = some vs → LR (K0 w) vs cs) :
    ∀ {l : List (Nat × TypeId)} {xs : List (DataW H × List MemPlace)} {pos : Nat} {vs : List AV} {cs : List Value}, flatL F size l (xs.map (·.1)) pos = some vs →
      (∀ (i : Nat) (o : Nat) (t : TypeId), l[i]? = some (o, t) → DataW.trod enc P w 0 sp held n t ((cs.drop o).take (size t)) = xs[i]?) → LR (K0 w) vs ((cs.drop pos).take vs.length)
  | [], [], pos, vs, cs, h, _ => by
    simp only [List.map_nil, flatL, Option.some.injEq] at h
    subst h
    exact LR.nil _
  | [], _ :: _, _, _, _, h, _ => by simp [flatL] at h
  | _ :: _, [], _, _, _, h, _ => by simp [flatL] at h
  | (o, t) :: l, x :: xs, pos, vs, cs, h, hx => by
    simp only [List.map_cons, flatL] at h
    split at h
    · rename_i ho
      subst ho
      simp only [Option.bind_eq_some_iff] at h
      obtain ⟨a, ha, h⟩ := h
      split at h
      · rename_i hl
        simp only [Option.map_eq_some_iff] at h
        obtain ⟨r, hr, rfl⟩ := h
        have h0 := hx 0 o t rfl
        simp only [List.getElem?_cons_zero] at h0
        have h1 : LR (K0 w) a ((cs.drop o).take (size t)) := hF t x.1 _ x.2 a h0 ha
        have h2 := flatL_ok hF (cs := cs) hr (fun i o' t' e => by
          have := hx (i + 1) o' t' (by simpa using e)
          simpa using this)
        rw [← hl] at h1
        have h3 := h1.append h2
        rw [← List.drop_drop, ← List.take_add] at h3
        rw [List.length_append]
        exact h3
      · cases h
    · cases h

theorem intsD_ok {k : IntKind} : ∀ {es : List (DataW H)} {zs : List Int}, intsD k es = some zs → es = zs.map fun z => .lit (.int k z)
  | [], zs, h => by cases h; rfl
  | .lit (.int k' z) :: r, zs, h => by
    simp only [intsD] at h
    split at h
    · rename_i hk
      subst hk
      simp only [Option.map_eq_some_iff] at h
      obtain ⟨zs', h', rfl⟩ := h
      rw [intsD_ok h']
      rfl
    · cases h
  | .lit (.bool _) :: _, _, h | .lit (.string _) :: _, _, h | .lit (.float _ _) :: _, _, h | .nil :: _, _, h | .ptr _ :: _, _, h | .slice _ _ :: _, _, h | .agg _ :: _, _, h | .iface _ _ :: _, _, h | .map _ :: _, _, h | .held _ :: _, _, h => by simp [intsD] at h

theorem cellsOfAll_ints (k : IntKind) : ∀ zs : List Int, cellsOfAll (zs.map (.int k)) = zs.map (.int k)
  | [] => rfl
  | z :: zs => by
    have := cellsOfAll_ints k zs
    simp only [List.map_cons]
    show (AV.int k z).cells ++ cellsOfAll (zs.map (.int k)) = _
    rw [this]
    rfl

theorem flatD_ok : ∀ (m : Nat) {n : Nat} {t : TypeId} {d : DataW H} {cs : List Value} {p : List MemPlace} {vs : List AV}, DataW.trod enc P w 0 sp held n t cs = some (d, p) → flatD P m t d = some vs → LR (K0 w) vs cs
  | 0, _, _, _, _, _, _, _, h => by cases h
  | m + 1, n, t, d, cs, p, vs, hd, h => by
    unfold flatD at h
    split at h
    · rename_i k k' z hu
      split at h
      · rename_i hk
        subst hk
        cases h
        obtain ⟨z', rfl, hx, _⟩ := DataW.trod_int hu hd
        cases hx
        exact LR.cons (.int _ _) (LR.nil _)
      · cases h
    · rename_i s hu
      cases h
      obtain ⟨s', rfl, hx, _⟩ := DataW.trod_string hu hd
      cases hx
      exact LR.cons (.str _) (LR.nil _)
    · rename_i e es hu
      split at h
      · rename_i k he
        split at h
        · rename_i hc
          obtain ⟨hc, hne⟩ := hc
          simp only [Option.map_eq_some_iff] at h
          obtain ⟨zs, hz, rfl⟩ := h
          obtain rfl := intsD_ok hz
          obtain ⟨a, cap, rfl, hcap, hel⟩ := open_row hu hc hd
          have hcell : ∀ j (hj : j < zs.length), w.cell? (a.add j) = some (.int k zs[j]) := fun j hj => by
            obtain ⟨v, n', q, h1, h2⟩ := hel j (.lit (.int k zs[j])) (by simp [hj])
            obtain ⟨z', e1, e2, _⟩ := DataW.trod_int he h2
            cases e1
            cases e2
            exact h1
          have h0 : 0 < zs.length := by
            cases zs with
            | nil => exact absurd rfl hne
            | cons _ _ => simp
          have hsp : a.spot = none := by
            have := hcell 0 h0
            unfold World.cell? at this
            split at this
            · split at this
              · cases this
              · rename_i hs
                cases hq : a.spot with
                | none => rfl
                | some _ => simp [Addr.add, hq] at hs
            · cases this
          obtain ⟨b, off, spot⟩ := a
          cases hsp
          have hb : VR (K0 w) (.vl none (zs.map (.int k))) (.slice (some ⟨b, off, none⟩) (zs.map (AV.int k)).length cap) := by
            refine .vl (off := off) (sz := 1) (fun j => .int k (zs.getD j 0)) (by decide) (fun e he => ?_) (fun j hj => ?_) (fun j hj => ?_) (by simpa using hcap) (fun t e => by cases e) (.inr rfl) (fun e => .inl rfl)
            · obtain ⟨z, _, rfl⟩ := List.mem_map.1 he
              rfl
            · rw [cellsOfAll_ints] at hj
              have hj' : j < zs.length := by simpa using hj
              have := hcell j hj'
              have ea : (Addr.add ⟨b, off, none⟩ j) = ⟨b, off + j, none⟩ := by
                cases j <;> simp [Addr.add]
              rw [ea] at this
              rw [K0_imm this]
              simp [hj']
            · have hj' : j < zs.length := by
                rw [cellsOfAll_ints] at hj
                simpa using hj
              simp only [cellsOfAll_ints, List.getElem_map]
              have : zs.getD j 0 = zs[j] := by simp [hj']
              rw [this]
              exact .int _ _
          simp only [List.length_map] at hb ⊢
          exact LR.cons hb (LR.nil _)
        · cases h
      · cases h
    · rename_i fs ds hu
      simp only [Option.bind_eq_some_iff] at h
      obtain ⟨vs', h, h2⟩ := h
      split at h2
      · rename_i hl
        cases h2
        obtain ⟨xs, n', rfl, hx, hlen, hxl, hall⟩ := DataW.trod_struct hu hd
        cases hx
        have := flatL_ok (fun t d cs p vs a b => flatD_ok m a b) (cs := cs) h (fun i o t e => by
          simp only [List.getElem?_map, Option.map_eq_some_iff, Prod.mk.injEq] at e
          obtain ⟨f, hf, rfl, rfl⟩ := e
          exact hall i f (by simpa using hf))
        rw [List.drop_zero, hl, ← hlen, List.take_length] at this
        exact this
      · cases h2
    · rename_i k e ds hu
      simp only [Option.bind_eq_some_iff] at h
      obtain ⟨vs', h, h2⟩ := h
      split at h2
      · rename_i hl
        cases h2
        obtain ⟨xs, n', rfl, hx, hlen, hxl, hall⟩ := DataW.trod_array hu hd
        cases hx
        have := flatL_ok (fun t d cs p vs a b => flatD_ok m a b) (cs := cs) h (fun i o t e => by
          simp only [List.getElem?_map, Option.map_eq_some_iff, Prod.mk.injEq] at e
          obtain ⟨f, hf, rfl, rfl⟩ := e
          have := List.getElem?_range (i := i) (n := k)
          by_cases hi : i < k
          · rw [List.getElem?_range hi] at hf
            cases hf
            exact hall i hi
          · rw [List.getElem?_eq_none (by simp; omega)] at hf
            cases hf)
        rw [List.drop_zero, hl, ← hlen, List.take_length] at this
        exact this
      · cases h2
    · cases h
end

/-! the seat's variables -/
def laidL : List (String × DataW Unit) := Rows.serverNoneRow.laid

section
variable {W0 : World}
/-- a variable that reads as its datum: its cells -/
theorem reads_pv {n : String} {d : DataW Unit} {g : Nat} {cs : List AV} (h : Lib.VarReads Tryz.prog W0 n d) (hn : Tryz.prog.globalNamed n = some g) (hf : ((Tryz.prog.globals[g]?).map (·.type)).bind (fun t => flatD Tryz.prog 8 t d) = some cs) :
    VR (K0 W0) (.pv cs) (.pointer (some ⟨g, 0, none⟩)) := by
  obtain ⟨g', t, cv, fuel, p, h1, h2, h3, h4⟩ := h
  obtain rfl := Option.some.inj (hn.symm.trans h1)
  rw [h2, Option.bind_some] at hf
  have hl := flatD_ok 8 h4 hf
  refine .pv (fun j => cv.toList.getD j undef) (fun j hj => ?_) (fun j hj => ?_)
  · have hj' : j < cv.toList.length := by rw [← hl.1]; exact hj
    have e := World.var?_cell h1 h3 j
    rw [Nat.zero_add, K0_imm (v := cv.toList[j]) (by rw [e]; simp at hj' ⊢)]
    simp [List.getD_eq_getElem?_getD, List.getElem?_eq_getElem hj']
  · have hj' : j < cv.toList.length := by rw [← hl.1]; exact hj
    have := hl.2 j hj hj'
    simpa [List.getD_eq_getElem?_getD, List.getElem?_eq_getElem hj'] using this

theorem nm_0 : Tryz.prog.globalNamed "kalends/wire.forms" = some 0 := by kernel_rfl
theorem fl_0 : ((Tryz.prog.globals[0]?).map (·.type)).bind (fun t => flatD Tryz.prog 8 t (Rows.laid_kalends_wire_forms : DataW Unit)) = getF globT 0 := by kernel_rfl
theorem nm_2 : Tryz.prog.globalNamed "kalends/rfc.freqs" = some 2 := by kernel_rfl
theorem fl_2 : ((Tryz.prog.globals[2]?).map (·.type)).bind (fun t => flatD Tryz.prog 8 t (Rows.laid_kalends_rfc_freqs : DataW Unit)) = getF globT 2 := by kernel_rfl
theorem nm_3 : Tryz.prog.globalNamed "kalends/civil.months" = some 3 := by kernel_rfl
theorem fl_3 : ((Tryz.prog.globals[3]?).map (·.type)).bind (fun t => flatD Tryz.prog 8 t (Rows.laid_kalends_civil_months : DataW Unit)) = getF globT 3 := by kernel_rfl
theorem nm_4 : Tryz.prog.globalNamed "kalends/rfc.weekdays" = some 4 := by kernel_rfl
theorem fl_4 : ((Tryz.prog.globals[4]?).map (·.type)).bind (fun t => flatD Tryz.prog 8 t (Rows.laid_kalends_rfc_weekdays : DataW Unit)) = getF globT 4 := by kernel_rfl
theorem nm_5 : Tryz.prog.globalNamed "internal/strconv.uint64pow10" = some 5 := by kernel_rfl
theorem fl_5 : ((Tryz.prog.globals[5]?).map (·.type)).bind (fun t => flatD Tryz.prog 8 t (Rows.laid_internal_strconv_uint64pow10 : DataW Unit)) = getF globT 5 := by kernel_rfl
theorem nm_6 : Tryz.prog.globalNamed "kalends/table.many" = some 6 := by kernel_rfl
theorem fl_6 : ((Tryz.prog.globals[6]?).map (·.type)).bind (fun t => flatD Tryz.prog 8 t (Rows.laid_kalends_table_many : DataW Unit)) = getF globT 6 := by kernel_rfl
theorem nm_7 : Tryz.prog.globalNamed "unicode/utf8.first" = some 7 := by kernel_rfl
theorem fl_7 : ((Tryz.prog.globals[7]?).map (·.type)).bind (fun t => flatD Tryz.prog 8 t (Rows.laid_unicode_utf8_first : DataW Unit)) = getF globT 7 := by kernel_rfl
theorem nm_8 : Tryz.prog.globalNamed "unicode/utf8.acceptRanges" = some 8 := by kernel_rfl
theorem fl_8 : ((Tryz.prog.globals[8]?).map (·.type)).bind (fun t => flatD Tryz.prog 8 t (Rows.laid_unicode_utf8_acceptRanges : DataW Unit)) = getF globT 8 := by kernel_rfl
theorem nm_11 : Tryz.prog.globalNamed "math/bits.deBruijn32tab" = some 11 := by kernel_rfl
theorem fl_11 : ((Tryz.prog.globals[11]?).map (·.type)).bind (fun t => flatD Tryz.prog 8 t (Rows.laid_math_bits_deBruijn32tab : DataW Unit)) = getF globT 11 := by kernel_rfl
theorem nm_12 : Tryz.prog.globalNamed "math/bits.deBruijn64tab" = some 12 := by kernel_rfl
theorem fl_12 : ((Tryz.prog.globals[12]?).map (·.type)).bind (fun t => flatD Tryz.prog 8 t (Rows.laid_math_bits_deBruijn64tab : DataW Unit)) = getF globT 12 := by kernel_rfl
theorem glob_keys : (globT.keys.all fun g => [0, 2, 3, 4, 5, 6, 7, 8, 11, 12].contains g) = true := by decide
theorem glob_of (hL : laidMet Tryz.prog laidL W0) {g : Nat} {cs : List AV} (h : getF globT g = some cs) : VR (K0 W0) (.pv cs) (.pointer (some ⟨g, 0, none⟩)) := by
  have hk := List.all_eq_true.1 glob_keys g (T.get_keys (getF_eq globT g ▸ h))
  simp only [List.contains_cons, List.contains_nil, Bool.or_false, Bool.or_eq_true, beq_iff_eq] at hk
  rcases hk with rfl | rfl | rfl | rfl | rfl | rfl | rfl | rfl | rfl | rfl
  · exact reads_pv (Lib.laidMet.reads hL (.tail _ (.tail _ (.tail _ (.tail _ (.tail _ (.tail _ (.tail _ (.tail _ (.tail _ (.tail _ (.head _)))))))))))) nm_0 (fl_0.trans h)
  · exact reads_pv (Lib.laidMet.reads hL (.tail _ (.tail _ (.tail _ (.tail _ (.tail _ (.tail _ (.tail _ (.head _))))))))) nm_2 (fl_2.trans h)
  · exact reads_pv (Lib.laidMet.reads hL (.tail _ (.tail _ (.tail _ (.tail _ (.tail _ (.tail _ (.head _)))))))) nm_3 (fl_3.trans h)
  · exact reads_pv (Lib.laidMet.reads hL (.tail _ (.tail _ (.tail _ (.tail _ (.tail _ (.tail _ (.tail _ (.tail _ (.head _)))))))))) nm_4 (fl_4.trans h)
  · exact reads_pv (Lib.laidMet.reads hL (.tail _ (.tail _ (.head _)))) nm_5 (fl_5.trans h)
  · exact reads_pv (Lib.laidMet.reads hL (.tail _ (.tail _ (.tail _ (.tail _ (.tail _ (.tail _ (.tail _ (.tail _ (.tail _ (.head _))))))))))) nm_6 (fl_6.trans h)
  · exact reads_pv (Lib.laidMet.reads hL (.tail _ (.tail _ (.tail _ (.tail _ (.tail _ (.tail _ (.tail _ (.tail _ (.tail _ (.tail _ (.tail _ (.head _))))))))))))) nm_7 (fl_7.trans h)
  · exact reads_pv (Lib.laidMet.reads hL (.tail _ (.tail _ (.tail _ (.head _))))) nm_8 (fl_8.trans h)
  · exact reads_pv (Lib.laidMet.reads hL (.head _)) nm_11 (fl_11.trans h)
  · exact reads_pv (Lib.laidMet.reads hL (.tail _ (.head _))) nm_12 (fl_12.trans h)

theorem var_block {n : String} {g : Nat} {cs : Array Value} (hn : Tryz.prog.globalNamed n = some g) (h : W0.var? Tryz.prog n = some cs) : ∃ el fz, W0.heap[g]? = some (.cells cs el fz) := by
  simp only [World.var?, hn, Option.bind_some] at h
  split at h
  · cases h; exact ⟨_, _, by assumption⟩
  · cases h
theorem nm_9 : Tryz.prog.globalNamed "strconv.ErrSyntax" = some 9 := by kernel_rfl
theorem nm_10 : Tryz.prog.globalNamed "strconv.ErrRange" = some 10 := by kernel_rfl
def ifaceB (P : Program) (g : Nat) : Bool := match (P.globals[g]?).map (·.type) with
  | some t => (match P.underlying t with | some (.interface _) => true | _ => false)
  | none => false
theorem ifaceB_ok {P : Program} {g : Nat} (h : ifaceB P g = true) : ∃ t ms, (P.globals[g]?).map (·.type) = some t ∧ P.underlying t = some (.interface ms) := by
  unfold ifaceB at h
  split at h
  · split at h
    · exact ⟨_, _, by assumption, by assumption⟩
    · cases h
  · cases h
theorem err_ty9 : ifaceB Tryz.prog 9 = true := by kernel_rfl
theorem err_ty10 : ifaceB Tryz.prog 10 = true := by kernel_rfl
def intB (P : Program) (g : Nat) : Bool := match ((begin P (fun _ _ => 0) default).world.heap[g]?).bind Obj.row? with
  | some (z, t) => z.size == 1 && P.buildable t && P.cellTypes P.depth t == some [t] && (match P.underlying t with | some (.int .i64) => true | _ => false)
  | none => false
theorem intB_ok {P : Program} {g : Nat} (h : intB P g = true) : ∃ z t, ((begin P (fun _ _ => 0) default).world.heap[g]?).bind Obj.row? = some (z, t) ∧ z.size = 1 ∧ P.buildable t = true ∧ P.cellTypes P.depth t = some [t] ∧ P.underlying t = some (.int .i64) := by
  unfold intB at h
  split at h
  · simp only [Bool.and_eq_true, beq_iff_eq] at h
    obtain ⟨⟨⟨h1, h2⟩, h3⟩, h4⟩ := h
    split at h4
    · exact ⟨_, _, by assumption, h1, h2, h3, by assumption⟩
    · cases h4
  · cases h
theorem int_1 : intB Tryz.prog 1 = true := by kernel_rfl
theorem err_of {n : String} {g : Nat} {d : DataW Unit} {nm : String} (h : Lib.VarReads Tryz.prog W0 n (.iface nm d)) (hn : Tryz.prog.globalNamed n = some g) (ht : ∃ t ms, (Tryz.prog.globals[g]?).map (·.type) = some t ∧ Tryz.prog.underlying t = some (.interface ms)) :
    ∃ tp p el fz, (K0 W0).pin g = some (.cells #[.iface tp p] el fz) := by
  obtain ⟨g', t, cv, fuel, p, h1, h2, h3, h4⟩ := h
  obtain rfl := Option.some.inj (hn.symm.trans h1)
  obtain ⟨t', ms, e1, e2⟩ := ht
  obtain rfl := Option.some.inj (e1.symm.trans h2)
  obtain ⟨_, u, v, e, _⟩ := iface_of_trod e2 h4
  obtain ⟨el, fz, hb⟩ := var_block h1 h3
  have := Array.eq_one_of_toList e
  subst this
  exact ⟨u, v, el, fz, by simp only [K0, hb]⟩

theorem globF_of (hL : laidMet Tryz.prog laidL W0) (hsh : W0.ShapedOpen Tryz.prog) : GlobF (K0 W0) where
  maxLen := by
    have h0 := intB_ok int_1
    obtain ⟨z, t, e0, hz, hb, hc, hu⟩ := h0
    obtain ⟨cs, hh, hs, hr⟩ := hsh.1 1 z t (of_decide_eq_true (by kernel_rfl)) e0
    obtain ⟨m, hm⟩ := cell_of_shapedOpen_int hsh (of_decide_eq_true (by kernel_rfl)) e0 hz hb hc hu
    have h1 : cs.size = 1 := by omega
    have e1 : cs = #[cs[0]] := by
      apply Array.ext
      · simp [h1]
      · intro i a b
        have : i = 0 := by omega
        subst this
        rfl
    unfold World.cell? at hm
    rw [hh] at hm
    simp [h1] at hm
    exact ⟨m, t, _, by simp only [K0, hh]; rw [e1, hm]⟩
  pow10 := by
    obtain ⟨g', t, cv, fuel, p, h1, h2, h3, h4⟩ := Lib.laidMet.reads hL (.tail _ (.tail _ (.head _)))
    have hn : Tryz.prog.globalNamed "internal/strconv.uint64pow10" = some 5 := nm_5
    obtain rfl := Option.some.inj (hn.symm.trans h1)
    obtain ⟨el, fz, hb⟩ := var_block h1 h3
    have hf := fl_5
    rw [h2, Option.bind_some] at hf
    have hg : getF globT 5 = some (Lib.pow10Tab.map fun z => .int .u64 z) := by kernel_rfl
    have hl := flatD_ok 8 h4 (hf.trans hg)
    have : cv = (Lib.pow10Tab.map fun z => Value.int .u64 z).toArray := by
      apply Array.ext'
      apply List.ext_getElem
      · rw [← hl.1]; simp
      · intro j a b
        have h5 : j < Lib.pow10Tab.length := by simpa using b
        have := hl.2 j (by simpa using h5) a
        simp only [List.getElem_map] at this ⊢
        cases hv : cv.toList[j] <;> rw [hv] at this <;> cases this
        simp
    subst this
    exact ⟨el, fz, by simp only [K0, hb]⟩
  errS := err_of (Lib.laidMet.reads hL (.tail _ (.tail _ (.tail _ (.tail _ (.tail _ (.head _))))))) nm_9 (ifaceB_ok err_ty9)
  errR := err_of (Lib.laidMet.reads hL (.tail _ (.tail _ (.tail _ (.tail _ (.head _)))))) nm_10 (ifaceB_ok err_ty10)

/-- **WHAT THE ROW LISTS GIVES THE CONTRACTS.** -/
theorem gok_of (hL : laidMet Tryz.prog laidL W0) (hsh : W0.ShapedOpen Tryz.prog) : GOK (K0 W0) := ⟨glob_of hL, globF_of hL hsh, fun _ => rfl, rfl⟩
theorem laid_of (hL : laidMetH Tryz.prog laidL W0) : laidMet Tryz.prog laidL W0 := hL
end
end Go.Kal
end

section
namespace Go.Kal
open Go Go.Proofs

section
variable {E : Env} {cv : Cv} {N f nt : Nat} {rd : Option Nat} {wide : Bool} {ops : Array Oper} {at_ : Option Nat} {fr : T AV} {h : H} {d : Option Nat} {ty : TypeId} {pos : String} {af : Array Edge} {g : Option (Nat × Bool)}

theorem full_get : ∀ (k n : Nat), ((full k).get n).getD undefA = undefA
  | 0, n => by cases n <;> rfl
  | k + 1, n => by
    rw [full, T.get]
    split
    · rfl
    · split
      · exact full_get k _
      · exact full_get k _
theorem slot_frame0 (n t : Nat) : slot (frame0 n) t = undefA := full_get _ _

/- memory -/
def H.push (h : H) (o : Obj) : H := ⟨h.next + 1, h.objs.set h.next (some o)⟩
theorem new_none {o : Obj} : h.new none o = (h.next, h.push o) := rfl
theorem get_push {o : Obj} {j : Nat} : (h.push o).get j = if j = h.next then some o else h.get j := T.get_set _ _ _ _
theorem next_push {o : Obj} : (h.push o).next = h.next + 1 := rfl
theorem next_set' {i : Nat} {o : Obj} : (h.set i o).next = h.next := rfl
theorem next_kill' {i : Nat} : (h.kill i).next = h.next := rfl
def cellsObj : Option Obj → Option (TypeId × List AV)
  | some (.cells e c) => some (e, c)
  | _ => none
theorem cells?_get {i : Nat} : h.cells? i = cellsObj (h.get i) := by
  unfold H.cells? cellsObj
  cases h.get i with
  | none => rfl
  | some o => cases o <;> rfl
theorem cellsObj_cells {e : TypeId} {c : List AV} : cellsObj (some (.cells e c)) = some (e, c) := rfl
def tokObj : Option Obj → Option TypeId
  | some (.tok e) => some e
  | _ => none
theorem tok?_get {i : Nat} : h.tok? i = tokObj (h.get i) := by
  unfold H.tok? tokObj
  cases h.get i with
  | none => rfl
  | some o => cases o <;> rfl
theorem tokObj_tok {e : TypeId} : tokObj (some (.tok e)) = some e := rfl
def loopObj : Option Obj → Option Lp
  | some (.loop e) => some e
  | _ => none
theorem loop?_get {i : Nat} : h.loop? i = loopObj (h.get i) := by
  unfold H.loop? loopObj
  cases h.get i with
  | none => rfl
  | some o => cases o <;> rfl
theorem loopObj_loop {e : Lp} : loopObj (some (.loop e)) = some e := rfl

/- guards -/
def guardO (dst : Option Nat) (w : Bool) (fr : T AV) : Bool := match dst with
  | some t => boolIs (slot fr t) w
  | none => false
theorem guardO_some {t : Nat} {w : Bool} : guardO (some t) w fr = boolIs (slot fr t) w := rfl
theorem dstOf_list {l : List Oper} {j : Nat} : dstOf l.toArray j = (l[j]?).bind (·.dst) := by
  unfold dstOf
  rw [List.getElem?_toArray]
theorem opList_guardO {o : Op} {os : List Oper} {ds : List Df} {j : Nat} {w : Bool} (hd : isDef o = false) :
    opList E cv wide rd nt ops (⟨d, o, ty, pos, af, some (j, w)⟩ :: os) ⟨fr, h, ds⟩ = guardR E cv wide rd nt ops (guardO (dstOf ops j) w fr) d o ty os fr h ds := by
  cases ht : dstOf ops j with
  | some t => exact opList_guard hd ht
  | none =>
    have ht' : (ops[j]?).bind (·.dst) = none := ht
    have hwant : wantedA ops fr ⟨d, o, ty, pos, af, some (j, w)⟩ = false := by
      simp only [wantedA, ht']
    rw [opList, hwant, guardR]
    rfl
theorem boolIs_t {a : Bool} : boolIs (.bool a) true = a := by cases a <;> rfl
theorem boolIs_f {a : Bool} : boolIs (.bool a) false = !a := by cases a <;> rfl

/- calls -/
theorem callV_func {n f : Nat} {first cap az : List AV} : callV E N (n + 1) (.fn (.func f) first cap) az h = callF E (callV E N n) N f (first ++ az ++ cap) h := rfl
theorem callV_yield {n l : Nat} {az : List AV} : callV E N (n + 1) (.fn (.yield l) [] []) az h = round E (callV E N n) N l az h := rfl
theorem callF_intr {gi : List AV → Option AV} {az : List AV} {v : AV} (hi : E.intr f = some gi) (hv : gi az = some v) : callF E cv N f az h = some (.val v, h) := by
  simp only [callF, hi, hv, Option.bind_some]
theorem callF_run {fn : Func} {c : Code} {az : List AV} (hi : E.intr f = none) (hfn : E.fn f = some fn) (hb : fn.body = some c) (hc : (AV.closeds az && !E.hold f) = false) : callF E cv N f az h = run E cv N f fn c az h := by
  simp only [callF, hi, hfn, hb, hc, Option.bind_some, Bool.false_eq_true, if_false]
theorem callF_pure {fn : Func} {c : Code} {az : List AV} {v v' : AV} {h1 : H} (hi : E.intr f = none) (hfn : E.fn f = some fn) (hb : fn.body = some c) (hc : (AV.closeds az && !E.hold f) = true)
    (hr : run E cv N f fn c az H.empty = some (.val v, h1)) (hz : freeze h1 1000 v = some v') : callF E cv N f az h = some (.val v', h) := by
  simp only [callF, hi, hfn, hb, hc, Option.bind_some, if_true, hr, hz]
def endR (E : Env) (cv : Cv) (fn : Func) (r : Option (Ex × St)) : Option (CR × H) := r.bind fun r => match r.1 with
  | .normal | .ret => (deferred E cv r.2.ds r.2.h).bind fun h => (resultsOf E { r.2 with h } fn).bind fun v => some (.val v, h)
  | .panic v => match r.2.ds with | [] => some (.pan v, r.2.h) | _ => none
  | _ => none
theorem run_eq {fn : Func} {c : Code} {az : List AV} : run E cv N f fn c az h = endR E cv fn (exec E cv N f (max az.length fn.ntmps) none c ⟨bindArgs 0 az (frame0 (max az.length fn.ntmps)), h, []⟩) := rfl
theorem endR_ret {fn : Func} {fr : T AV} : endR E cv fn (some (.ret, ⟨fr, h, []⟩)) = (resultsOf E ⟨fr, h, []⟩ fn).bind fun v => some (.val v, h) := rfl
theorem endR_normal {fn : Func} {fr : T AV} : endR E cv fn (some (.normal, ⟨fr, h, []⟩)) = (resultsOf E ⟨fr, h, []⟩ fn).bind fun v => some (.val v, h) := rfl
theorem bindArgs_cons {i : Nat} {a : AV} {l : List AV} {t : T AV} : bindArgs i (a :: l) t = bindArgs (i + 1) l (t.set i (some a)) := rfl
theorem bindArgs_nil {i : Nat} {t : T AV} : bindArgs i [] t = t := rfl
theorem setParams_cons {p : Nat} {ps : List Nat} {a : AV} {l : List AV} {t : T AV} : setParams (p :: ps) (a :: l) t = setParams ps l (t.set p (some a)) := rfl
theorem setParams_nil {t : T AV} : setParams [] [] t = t := rfl

/- operations on memory -/
def newR (x : Option AV) (mk : AV → Obj) (h : H) : Option (CR × H) := x.bind fun v => some (.val (.ptr h.next 0), h.push (mk v))
theorem newR_some {v : AV} {mk : AV → Obj} : newR (some v) mk h = some (.val (.ptr h.next 0), h.push (mk v)) := rfl
theorem one_box {t : TypeId} {x : Operand} : oneOp E cv wide rd none fr h ⟨d, .box t x, ty, pos, af, g⟩ = newR (ev E fr x) (fun v => .cells t v.cells) h := by
  simp only [oneOp, plain, newR, new_none, Option.bind_assoc, Option.bind_some]
def memR (x : Option H) : Option (CR × H) := x.bind fun h => some (.val undefA, h)
theorem memR_some : memR (some h) = some (.val undefA, h) := rfl
def b2h (x y : Option AV) (g : AV → AV → Option H) : Option H := x.bind fun a => y.bind fun b => g a b
theorem b2h_some {u v : AV} {g : AV → AV → Option H} : b2h (some u) (some v) g = g u v := rfl
theorem one_store {t : TypeId} {a x : Operand} : oneOp E cv wide rd at_ fr h ⟨d, .store t a x, ty, pos, af, g⟩ = memR (b2h (ev E fr a) (ev E fr x) (storeVar E h t)) := by
  simp only [oneOp, plain, memR, b2h, Option.bind_assoc, Option.bind_some]
def resR (x : Option (AV × H)) : Option (CR × H) := x.bind fun r => some (.val r.1, r.2)
theorem resR_some {v : AV} : resR (some (v, h)) = some (.val v, h) := rfl
theorem resR_ite {p : Prop} [Decidable p] {x y : Option (AV × H)} : resR (if p then x else y) = if p then resR x else resR y := by split <;> rfl
theorem resR_none : resR none = none := rfl
theorem one_builtin {b : Builtin} {az : Array Operand} {ts : Array TypeId} (hb : b ≠ .recover) : oneOp E cv wide rd at_ fr h ⟨d, .call ⟨.builtin b, az, ts⟩, ty, pos, af, g⟩ = resR ((optAll (ev E fr) az.toList).bind (builtin E wide h b ts.toList)) := by
  cases b <;> first | exact absurd rfl hb | rfl
theorem one_buildSlice {t : TypeId} {n : Nat} {ps : Array (Nat × Operand)} : oneOp E cv wide rd at_ fr h ⟨d, .buildSlice t n ps, ty, pos, af, g⟩ = resR (plain E wide at_ fr h ⟨d, .buildSlice t n ps, ty, pos, af, g⟩) := rfl
theorem one_slice {t : TypeId} {x : Operand} {lo hi mx : Option Operand} : oneOp E cv wide rd at_ fr h ⟨d, .slice t x lo hi mx, ty, pos, af, g⟩ = resR (plain E wide at_ fr h ⟨d, .slice t x lo hi mx, ty, pos, af, g⟩) := rfl
theorem one_makeFunc {t : Fn} {a b : Array Operand} : oneOp E cv wide rd at_ fr h ⟨d, .makeFunc t a b, ty, pos, af, g⟩ = resR (plain E wide at_ fr h ⟨d, .makeFunc t a b, ty, pos, af, g⟩) := rfl
theorem one_extract {t : Operand} {i : Nat} : oneOp E cv wide rd at_ fr h ⟨d, .extract t i, ty, pos, af, g⟩ = resR (plain E wide at_ fr h ⟨d, .extract t i, ty, pos, af, g⟩) := rfl
theorem ev_slice {fr : T AV} : ev E fr (.const (.slice none 0 0)) = some .nils := rfl
theorem ev_nilFunc {fr : T AV} : ev E fr (.const .nilFunc) = some .nilf := rfl
theorem opList_bare {o : Op} {os : List Oper} {ds : List Df} (hd : isDef o = false) : opList E cv wide rd nt ops (⟨d, o, ty, pos, af, none⟩ :: os) ⟨fr, h, ds⟩ = stepR E cv wide rd nt ops (oneOp E cv wide rd none fr h ⟨d, o, ty, "", #[], none⟩) d os fr ds := by
  rw [opList_cons hd, oneOp_bare]

/- a loop over a function -/
def rangeR (p : Nat) (fr : T AV) (ds : List Df) (r : Option (CR × H)) : Option (Ex × St) := r.bind fun r => match r.1 with
  | .pan v => some (.panic v, ⟨fr, r.2, ds⟩)
  | .val _ => (r.2.loop? p).bind fun lp => if lp.st = .busy then none else some (lp.pending, ⟨fr, r.2.set p (.loop { lp with st := .exhausted }), ds⟩)
theorem exec_range {x : Operand} {ps : Array Nat} {a b : Code} {ds : List Df} {v : AV} (ht : loopThere h rd = true) (hv : ev E fr x = some v) :
    exec E cv N f nt rd (.rangeFunc x ps a b) ⟨fr, h, ds⟩ = rangeR h.next fr ds (cv v [.fn (.yield h.next) [] []] (h.push (.loop ⟨.ready, .normal, fr, ps.toList, a, b, f, nt⟩))) := by
  rw [exec, if_pos ht]
  simp only [hv, Option.bind_some]
  rfl

/- regions that draw their order, where nothing is asked of the trace -/
def drawL (E : Env) (cv : Cv) (wide : Bool) (rd : Option Nat) (nt : Nat) (ops : Array Oper) (base i : Nat) (os : List Oper) (fr : T AV) (h : H) : Option (T AV × H) :=
  (drawList E cv wide rd nt ops base i os fr h []).map fun r => (r.1, r.2.1)
theorem drawList_tr {base : Nat} : ∀ {os : List Oper} {i : Nat} {fr : T AV} {h : H} {tr : List Tr}, (drawList E cv wide rd nt ops base i os fr h tr).map (fun r => (r.1, r.2.1)) = drawL E cv wide rd nt ops base i os fr h
  | [], _, _, _, _ => rfl
  | o :: os, i, fr, h, tr => by
    unfold drawL
    rw [drawList, drawList]
    split
    · split
      · rfl
      · cases oneOp E cv wide rd (some (base + i)) fr h o with
        | none => rfl
        | some r =>
          simp only [Option.bind_some]
          cases r.1 with
          | pan v => rfl
          | val v =>
            simp only
            cases putDst nt fr o.dst v with
            | none => rfl
            | some fr' =>
              simp only [Option.bind_some]
              exact (drawList_tr (os := os)).trans (drawList_tr (os := os)).symm
    · cases putDst nt fr o.dst undefA with
      | none => rfl
      | some fr' =>
        simp only [Option.bind_some]
        exact (drawList_tr (os := os)).trans (drawList_tr (os := os)).symm
def drawFin (ds : List Df) (r : Option (T AV × H)) : Option (Ex × St) := r.map fun r => (.normal, ⟨r.1, r.2, ds⟩)
theorem drawFin_some {ds : List Df} : drawFin ds (some (fr, h)) = some (.normal, ⟨fr, h, ds⟩) := rfl
theorem exec_draw0 {id : Nat} {ops : Array Oper} {ds : List Df} (hi : E.inc f id = []) : exec E cv N f nt rd (.region id ops true) ⟨fr, h, ds⟩ = drawFin ds (drawL E cv (E.wide f) rd nt ops h.next 0 ops.toList fr ⟨h.next + ops.size, h.objs⟩) := by
  rw [exec_draw, drawL, drawR, hi]
  cases drawList E cv (E.wide f) rd nt ops h.next 0 ops.toList fr ⟨h.next + ops.size, h.objs⟩ [] <;> rfl
theorem drawL_nil {base i : Nat} : drawL E cv wide rd nt ops base i [] fr h = some (fr, h) := rfl
def drawS (E : Env) (cv : Cv) (wide : Bool) (rd : Option Nat) (nt : Nat) (ops : Array Oper) (base i : Nat) (os : List Oper) (r : Option (CR × H)) (d : Option Nat) (fr : T AV) : Option (T AV × H) := r.bind fun r => match r.1 with
  | .val v => (putDst nt fr d v).bind fun fr' => drawL E cv wide rd nt ops base (i + 1) os fr' r.2
  | .pan _ => none
theorem drawL_cons {base i : Nat} {o : Op} {os : List Oper} (hd : isDef o = false) : drawL E cv wide rd nt ops base i (⟨d, o, ty, pos, af, none⟩ :: os) fr h = drawS E cv wide rd nt ops base i os (oneOp E cv wide rd (some (base + i)) fr h ⟨d, o, ty, "", #[], none⟩) d fr := by
  rw [← oneOp_bare (pos := pos) (af := af) (g := none)]
  unfold drawL drawS
  rw [drawList]
  simp only [wantedA, if_true]
  have : ∀ (x : Option (CR × H)), ((x.bind fun r => match r.1 with
      | .val v => (putDst nt fr d v).bind fun fr' => drawList E cv wide rd nt ops base (i + 1) os fr' r.2 [⟨fr, h, r.2, v, true⟩]
      | .pan _ => none).map fun r => (r.1, r.2.1)) = x.bind fun r => match r.1 with
      | .val v => (putDst nt fr d v).bind fun fr' => (drawList E cv wide rd nt ops base (i + 1) os fr' r.2 []).map fun r => (r.1, r.2.1)
      | .pan _ => none := by
    intro x
    cases x with
    | none => rfl
    | some r =>
      simp only [Option.bind_some]
      cases r.1 with
      | pan v => rfl
      | val v =>
        simp only
        cases putDst nt fr d v with
        | none => rfl
        | some fr' =>
          simp only [Option.bind_some]
          exact drawList_tr
  cases o <;> first | exact this _ | cases hd
theorem drawS_val {base i : Nat} {os : List Oper} {v : AV} {t : Nat} : drawS E cv wide rd nt ops base i os (some (.val v, h)) (some t) fr = if t < nt then drawL E cv wide rd nt ops base (i + 1) os (fr.set t (some v)) h else none := by
  simp only [drawS, Option.bind_some, putDst]
  split <;> rfl
theorem drawS_val0 {base i : Nat} {os : List Oper} {v : AV} : drawS E cv wide rd nt ops base i os (some (.val v, h)) none fr = drawL E cv wide rd nt ops base (i + 1) os fr h := rfl
end
end Go.Kal
end
