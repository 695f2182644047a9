/-
Operations that act.
-/
import Derived.Test.YtacoaajilnpeiaaGreatDoorKb
import Derived.Laws.MakeOwn
import Derived.Lib.FrozenHead
import Derived.Laws.AppendOwn
import Derived.Laws.Rows
import Derived.Lib.UnsafeStr

set_option linter.unusedVariables false
set_option linter.unusedSimpArgs false

section
namespace Go.Kal
open Go

/-- what an operation answers -/
def NX (J : K) (v : AV) (r : Next) : Prop := (∃ v', r = .value v' ∧ VR J v v') ∨ (r = .skip ∧ v = undefA)

/-- **AN OPERATION DOES WHAT THE INTERPRETER SAYS.** -/
def Does (P : Program) (x : Option Nat) (J : K) (h : H) (w : World) (s : Sem Next) (v : AV) (h' : H) : Prop :=
  ∃ J' w' r, s.run P w = .ok r w' ∧ NX J' v r ∧ W J' h' w' ∧ Ext x J h w J' h' w'

def Place (J : K) (h : H) : Option Nat → Prop
  | none => True
  | some id => id < h.next ∧ Free J h id

theorem Place.get {J : K} {h : H} {w : World} (hW : W J h w) {x : Option Nat} (hp : Place J h x) : ∃ id, ((x = none ∧ id = h.next) ∨ (x = some id ∧ id < h.next)) ∧ Free J h id := by
  cases x with
  | none => exact ⟨h.next, .inl ⟨rfl, rfl⟩, hW.free_next⟩
  | some id => exact ⟨id, .inr ⟨rfl, hp.1⟩, hp.2⟩

section
variable {E : Env} {P : Program} {G J : K} {h : H} {w : World} {fr : T AV} {nt : Nat} {a : Act} {x : Option Nat}

theorem Does.quiet (hW : W J h w) {s : Sem Value} {v : AV} (hq : ∃ v', s.run P w = .ok v' w ∧ VR J v v') : Does P x J h w (do pure (.value (← s))) v h := by
  obtain ⟨v', h1, h2⟩ := hq
  exact ⟨J, w, .value v', by simp [h1], .inl ⟨v', rfl, h2⟩, hW, .refl J h w⟩
theorem Does.quietN (hW : W J h w) {s : Sem Next} {v : AV} (hq : ∃ v', s.run P w = .ok (.value v') w ∧ VR J v v') : Does P x J h w s v h := by
  obtain ⟨v', h1, h2⟩ := hq
  exact ⟨J, w, .value v', h1, .inl ⟨v', rfl, h2⟩, hW, .refl J h w⟩

def noImm : Nat → Option Value := fun _ => none

/-- a new block of cells that may be written -/
theorem new_cells (hW : W J h w) (hp : Place J h x) {el : TypeId} {c : List AV} {cs : Array Value} (hl : LR J c (cs.toList.take c.length)) (hle : c.length ≤ cs.size) :
    ∃ J', J'.obj (h.new x (.cells el c)).1 = some w.heap.size ∧ J'.len (h.new x (.cells el c)).1 = c.length ∧ J'.ext (h.new x (.cells el c)).1 = cs.size ∧
      W J' (h.new x (.cells el c)).2 (w.alloc (.cells cs el)) ∧ Ext x J h w J' (h.new x (.cells el c)).2 (w.alloc (.cells cs el)) := by
  obtain ⟨id, hat, hf⟩ := hp.get hW
  have hle' : J.le (J.put id w.heap.size c.length cs.size noImm) := K.le_put hf.obj (fun o v e => by rw [hW.imm_new] at e; cases e)
  obtain ⟨e1, h1, h2⟩ := hW.new hat hf (.cells el c) (.cells cs el) c.length cs.size noImm
    ⟨cs, 0, 0, rfl, K.put_len.symm, hle, K.put_ext, hl.mono hle', fun i _ => by omega, fun o => K.put_imm, hW.immM_new⟩ (fun x v e => by cases e)
  exact ⟨_, by rw [e1]; exact K.put_self, by rw [e1]; exact K.put_len, by rw [e1]; exact K.put_ext, h1, h2⟩

/-- a new row that nobody will write, with a token to append by -/
theorem new_tok (hW : W J h w) (hp : Place J h x) {el : TypeId} {c : List AV} {cs : Array Value} (hl : LR J c (cs.toList.take c.length)) (hle : c.length ≤ cs.size) :
    ∃ J', J'.obj (h.new x (.tok el)).1 = some w.heap.size ∧ J'.ext (h.new x (.tok el)).1 = c.length ∧ J'.len (h.new x (.tok el)).1 = cs.size ∧ J.le J' ∧ (∀ j v, j < c.length → cs[j]? = some v → J'.imm w.heap.size j = some v) ∧
      W J' (h.new x (.tok el)).2 (w.alloc (.cells cs el)) ∧ Ext x J h w J' (h.new x (.tok el)).2 (w.alloc (.cells cs el)) := by
  obtain ⟨id, hat, hf⟩ := hp.get hW
  have hle' : J.le (J.put id w.heap.size cs.size c.length (fun o => if o < c.length then cs[o]? else none)) := K.le_put hf.obj (fun o v e => by rw [hW.imm_new] at e; cases e)
  obtain ⟨e1, h1, h2⟩ := hW.new hat hf (.tok el) (.cells cs el) cs.size c.length (fun o => if o < c.length then cs[o]? else none)
    ⟨cs, 0, 0, rfl, K.put_len, by rw [K.put_ext]; exact hle, .inl rfl, fun o ho => by rw [K.put_ext] at ho; rw [K.put_imm, if_neg (by omega)], hW.immM_new⟩ (fun y v e => by
      split at e
      · exact ⟨cs, el, (0, 0), rfl, e⟩
      · cases e)
  exact ⟨_, by rw [e1]; exact K.put_self, by rw [e1]; exact K.put_ext, by rw [e1]; exact K.put_len, hle', fun j v hj hv => by rw [K.put_imm, if_pos hj]; exact hv, h1, h2⟩

theorem size_of_LR {c : List AV} {cs : Array Value} (hl : LR J c cs.toList) : cs.size = c.length := by have := hl.1; simpa using this.symm

theorem alloc_ok (hE : EnvOK E P G) (hW : W J h w) (hp : Place J h x) {t : TypeId} {i : TI} (hi : E.ty t = some i) :
    Does P x J h w (do pure (.value (← Instr.alloc t true (.tuple #[])))) (.ptr (h.new x (.cells t i.zero.cells)).1 0) (h.new x (.cells t i.zero.cells)).2 := by
  obtain ⟨z, z1, z2⟩ := run_zero_of (w := w) (J := J) hE hi
  have hz := z2.cells
  have hs := size_of_LR hz
  obtain ⟨J', o1, _, _, o4, o5⟩ := new_cells (x := x) (el := t) hW hp (cs := z.cells) (c := i.zero.cells) (by rw [List.take_of_length_le (by simp [hs])]; exact hz) (by omega)
  refine ⟨J', _, _, ?_, .inl ⟨_, rfl, .ptr o1⟩, o4, o5⟩
  simp [Instr.alloc, z1, newVar, newRow]

theorem box_ok (hW : W J h w) (hp : Place J h x) {t : TypeId} {v : AV} {v' : Value} (hv : VR J v v') :
    Does P x J h w (do pure (.value (← Instr.box t v'))) (.ptr (h.new x (.cells t v.cells)).1 0) (h.new x (.cells t v.cells)).2 := by
  have hz := hv.cells
  have hs := size_of_LR hz
  obtain ⟨J', o1, _, _, o4, o5⟩ := new_cells (x := x) (el := t) hW hp (cs := v'.cells) (c := v.cells) (by rw [List.take_of_length_le (by simp [hs])]; exact hz) (by omega)
  refine ⟨J', _, _, ?_, .inl ⟨_, rfl, .ptr o1⟩, o4, o5⟩
  simp [Instr.box, newVar, newRow]

theorem makeMap_ok (hW : W J h w) (hp : Place J h x) {t : TypeId} :
    Does P x J h w (do pure (.value (← Instr.makeMap t none))) (.mp (h.new x (.map [])).1) (h.new x (.map [])).2 := by
  obtain ⟨id, hat, hf⟩ := hp.get hW
  obtain ⟨e1, h1, h2⟩ := hW.new hat hf (.map []) (.map #[] 0) 0 0 noImm
    ⟨#[], 0, rfl, rfl, fun j hj => absurd hj (by simp), rfl, hW.immM_new, fun o => K.put_imm⟩ (fun x v e => by cases e)
  refine ⟨_, _, _, ?_, .inl ⟨_, rfl, .mp (by rw [e1]; exact K.put_self)⟩, h1, h2⟩
  simp [Instr.makeMap]

theorem zeros_length (z : List AV) : ∀ n, (zeros z n).length = n * z.length
  | 0 => by simp [zeros]
  | n + 1 => by simp [zeros, zeros_length z n, Nat.succ_mul]; omega
theorem zeros_get (z : List AV) (hz : 0 < z.length) : ∀ n j, j < n * z.length → (zeros z n)[j]? = z[j % z.length]?
  | 0, j, h => by simp at h
  | n + 1, j, h => by
    rw [Nat.succ_mul] at h
    simp only [zeros]
    by_cases hj : j < z.length
    · rw [List.getElem?_append_left hj, Nat.mod_eq_of_lt hj]
    · rw [List.getElem?_append_right (by omega), zeros_get z hz n (j - z.length) (by omega), ← Nat.mod_eq_sub_mod (by omega)]

theorem zeros_LR {z : List AV} {zs : Array Value} (hz : LR J z zs.toList) (n : Nat) : LR J (zeros z n) ((Array.range (n * zs.size)).map fun i => zs[i % zs.size]!).toList := by
  have hs := size_of_LR hz
  refine ⟨by simp [zeros_length, hs], fun j a b => ?_⟩
  rw [zeros_length] at a
  have hpos : 0 < z.length := by
    rcases Nat.eq_zero_or_pos z.length with h | h
    · rw [h] at a; simp at a
    · exact h
  have hm : j % z.length < z.length := Nat.mod_lt _ hpos
  have ea := zeros_get z hpos n j a
  rw [List.getElem?_eq_getElem (by rw [zeros_length]; exact a), List.getElem?_eq_getElem hm] at ea
  simp only [Option.some.injEq] at ea
  rw [ea]
  have := hz.2 (j % z.length) hm (by simp [hs]; exact hm)
  simp only [Array.toList_map, List.getElem_map, Array.getElem_toList, Array.getElem_range, hs]
  rw [getElem!_pos zs _ (by rw [hs]; exact hm)]
  exact this

theorem zeros_pos_LR {z : List AV} {zs : Array Value} (hz : LR J z zs.toList) (n k : Nat) (hk : k = n * zs.size) : LR J (zeros z n) ((Array.range k).map fun i => zs[i % zs.size]!).toList := by subst hk; exact zeros_LR hz n

theorem cellsOfAll_replicate (n : Nat) (v : AV) : cellsOfAll (List.replicate n v) = zeros v.cells n := by
  induction n with
  | zero => rfl
  | succ n ih => rw [List.replicate_succ, cellsOfAll_cons, ih]; rfl

theorem setNth_spec {sz : Nat} : ∀ {es : List AV} {i : Nat} {v : AV} {r : List AV}, (∀ e ∈ es, e.cells.length = sz) → v.cells.length = sz → setNth es i v = some r →
    r.length = es.length ∧ i < es.length ∧ (∀ e ∈ r, e.cells.length = sz) ∧ putCells (cellsOfAll es) (i * sz) v.cells = some (cellsOfAll r)
  | [], i, v, r, _, _, e => by simp [setNth] at e
  | y :: es, 0, v, r, hs, hv, e => by
    simp only [setNth, Option.some.injEq] at e
    subst e
    refine ⟨rfl, by simp, ?_, ?_⟩
    · intro z hz
      rcases List.mem_cons.1 hz with rfl | hz
      · exact hv
      · exact hs z (by simp [hz])
    · rw [cellsOfAll_cons, cellsOfAll_cons, Nat.zero_mul]
      exact putCells_head (by rw [hv, hs y (by simp)]) _
  | y :: es, i + 1, v, r, hs, hv, e => by
    simp only [setNth, Option.bind_eq_some_iff, Option.some.injEq] at e
    obtain ⟨r', e1, rfl⟩ := e
    obtain ⟨h1, h2, h3, h4⟩ := setNth_spec (fun e he => hs e (by simp [he])) hv e1
    refine ⟨by simp [h1], by simp; omega, ?_, ?_⟩
    · intro z hz
      rcases List.mem_cons.1 hz with rfl | hz
      · exact hs z (by simp)
      · exact h3 z hz
    · rw [cellsOfAll_cons, cellsOfAll_cons, Nat.succ_mul, Nat.add_comm]
      have hy := hs y (by simp)
      rw [← hy] at h4 ⊢
      exact putCells_past h4
where
  putCells_head {a b : List AV} (h : a.length = b.length) (c : List AV) : putCells (b ++ c) 0 a = some (a ++ c) := by
    induction a generalizing b with
    | nil => cases b <;> simp at h; cases c <;> rfl
    | cons x a ih =>
      cases b with
      | nil => simp at h
      | cons y b => simp at h; simp [putCells, ih h]
  putCells_past {a c r : List AV} {n : Nat} {vs : List AV} (h : putCells c n vs = some r) : putCells (a ++ c) (a.length + n) vs = some (a ++ r) := by
    induction a with
    | nil => simpa using h
    | cons x a ih =>
      cases vs with
      | nil =>
        have : c = r := by cases c <;> simp [putCells] at h <;> first | exact h | exact h.symm
        subst this
        simp [putCells]
      | cons v vs =>
        rw [List.cons_append, List.length_cons, Nat.add_right_comm]
        simp [putCells, ih]

theorem buildEs_spec {sz : Nat} : ∀ {ps : List (Nat × AV)} {es r : List AV}, (∀ e ∈ es, e.cells.length = sz) → buildEs sz es ps = some r →
    r.length = es.length ∧ (∀ e ∈ r, e.cells.length = sz) ∧ fillParts (fun i => some (i * sz, sz)) (cellsOfAll es) ps = some (cellsOfAll r)
  | [], es, r, hs, e => by simp only [buildEs, Option.some.injEq] at e; subst e; exact ⟨rfl, hs, rfl⟩
  | (i, v) :: ps, es, r, hs, e => by
    simp only [buildEs] at e
    split at e
    · rename_i hv
      simp only [Option.bind_eq_some_iff] at e
      obtain ⟨es1, e1, e2⟩ := e
      obtain ⟨a1, a2, a3, a4⟩ := setNth_spec hs hv e1
      obtain ⟨b1, b2, b3⟩ := buildEs_spec a3 e2
      refine ⟨by rw [b1, a1], b2, ?_⟩
      simp only [fillParts, Option.bind_some]
      have : (i + 1) * sz ≤ es.length * sz := Nat.mul_le_mul_right _ a2
      rw [Nat.succ_mul] at this
      rw [if_pos ⟨hv, by rw [cellsOfAll_length hs]; exact this⟩, a4]
      exact b3
    · cases e

theorem buildSlice_ok (hE : EnvOK E P G) (hW : W J h w) (hp : Place J h x) {t : TypeId} {ti ei : TI} {el : TypeId} (hti : E.ty t = some ti) (hd : ti.desc = .slice el) (hei : E.ty el = some ei) {len : Nat} {ps : List (Nat × AV)} {ps' : Array (Nat × Value)}
    (hl : ps.length = ps'.size) (hv : ∀ j (h : j < ps.length) (h' : j < ps'.toList.length), ps[j].1 = ps'.toList[j].1 ∧ VR J ps[j].2 ps'.toList[j].2)
    (hz : ei.zero.cells.length = ei.size) (hpos : 0 < ei.size) (hlim : len * ei.size ≤ 16777216) {es : List AV} (hb : buildEs ei.size (List.replicate len ei.zero) ps = some es) (wide : Bool) :
    Does P x J h w (do pure (.value (← Instr.buildSlice t len ps')))
      (if wide then .sl ei.size ei.ag (h.new x (.cells el (cellsOfAll es))).1 0 len else .vl (some (h.new x (.tok el)).1) es)
      (if wide then (h.new x (.cells el (cellsOfAll es))).2 else (h.new x (.tok el)).2) := by
  obtain ⟨_, _, h2, _⟩ := hE.ty hti
  obtain ⟨z, z1, z2⟩ := run_zero_of (w := w) (J := J) hE hei
  have hzc := z2.cells
  have hzs := size_of_LR hzc
  obtain ⟨b1, b2, b3⟩ := buildEs_spec (sz := ei.size) (by intro e he; rw [(List.mem_replicate.1 he).2]; exact hz) hb
  rw [cellsOfAll_replicate] at b3
  rw [List.length_replicate] at b1
  have hcell := cellsOfAll_length b2
  rw [b1] at hcell
  have hzero : ∃ zr : Array Value, ((len * ei.size = 0 ∧ zr = #[]) ∨ (len * ei.size ≠ 0 ∧ zr = z.cells)) ∧ LR J (zeros ei.zero.cells len) ((Array.range (len * ei.size)).map fun i => zr[i % zr.size]!).toList := by
    by_cases h0 : len * ei.size = 0
    · refine ⟨#[], .inl ⟨h0, rfl⟩, ?_⟩
      rw [h0]
      have : len = 0 := by rcases Nat.mul_eq_zero.1 h0 with h | h <;> omega
      subst this
      simpa [zeros] using LR.nil J
    · exact ⟨z.cells, .inr ⟨h0, rfl⟩, zeros_pos_LR hzc len _ (by rw [hzs, hz])⟩
  obtain ⟨zr, zr1, zr2⟩ := hzero
  obtain ⟨r', g1, g2⟩ := fill_ok (J := J) (place' := fun i => some (i * ei.size, ei.size)) (fun i p hp => hp) (ps' := ps'.toList) (by simpa using hl) hv zr2 b3
  have hr := size_of_LR g2
  have hrun' : (Instr.buildSlice t len ps').run P w = .ok (.slice (some ⟨w.heap.size, 0, none⟩) len len) (w.alloc (.cells r' el)) := by
    unfold Instr.buildSlice
    have hlim' : ¬ (len * ei.size > 2 ^ 24) := by omega
    rcases zr1 with ⟨h0, rfl⟩ | ⟨h0, rfl⟩
    · simp only [Sem.run_bind, run_underlying h2, hd, Result.andThen_ok, run_sizeOf_of hE hei, if_neg hlim', Sem.run_pure, if_pos h0, g1, newRow, run_newObj, World.alloc_eq]
    · simp only [Sem.run_bind, run_underlying h2, hd, Result.andThen_ok, run_sizeOf_of hE hei, if_neg hlim', Sem.run_pure, if_neg h0, z1, g1, newRow, run_newObj, World.alloc_eq]
  cases wide
  · obtain ⟨J', o1, o2, o3, o4, o5, o6, o7⟩ := new_tok (x := x) (el := el) hW hp (c := cellsOfAll es) (cs := r') (by rw [List.take_of_length_le (by simp [hr])]; exact g2) (by omega)
    refine ⟨J', _, .value (.slice (some ⟨w.heap.size, 0, none⟩) len len), by simp [hrun'], .inl ⟨_, rfl, ?_⟩, o6, o7⟩
    have := VR.vl (J := J') (tk := some (h.new x (.tok el)).1) (es := es) (b := w.heap.size) (off := 0) (cap := len) (sz := ei.size) (a := ⟨w.heap.size, 0, none⟩) (fun j => r'.toList.getD j undef) hpos b2
      (fun j hj => by
        rw [Nat.zero_add]
        refine o5 j _ hj ?_
        have : j < r'.size := by omega
        simp [List.getD, this])
      (fun j hj => by
        have := (g2.mono o4).2 j hj (by simp; omega)
        have hlt : j < r'.size := by omega
        simpa [List.getD, hlt] using this) (by omega)
      (fun t ht => by cases ht; exact ⟨o1, by rw [o2, hcell, b1]; omega, by rw [o3]; omega⟩) (.inr rfl) (fun he => .inr (by rw [← b1, he]; rfl))
    rw [b1] at this
    exact this
  · obtain ⟨J', o1, o2, o3, o4, o5⟩ := new_cells (x := x) (el := el) hW hp (c := cellsOfAll es) (cs := r') (by rw [List.take_of_length_le (by simp [hr])]; exact g2) (by omega)
    refine ⟨J', _, .value (.slice (some ⟨w.heap.size, 0, none⟩) len len), by simp [hrun'], .inl ⟨_, rfl, .sl o1 hpos (by rw [o2]; omega) (Nat.le_refl _) (by rw [o3]; omega) (.inr rfl)⟩, o4, o5⟩
end
end Go.Kal
end

section
namespace Go.Kal
open Go

theorem VR.one {J : K} {v : AV} {v' : Value} (hv : VR J v v') (h1 : oneC v = true) : v'.oneCell' = true := by
  cases hv <;> first | rfl | (simp [oneC] at h1)

theorem LR.ones {J : K} : ∀ {l : List AV} {l' : List Value}, LR J l l' → Kal.ones l = true → ∀ v ∈ l', v.oneCell' = true
  | [], l', hl, _, v, hv => by have := hl.nil_inv; subst this; simp at hv
  | x :: l, l', hl, h1, v, hv => by
    obtain ⟨x', t', rfl, hx, ht⟩ := hl.uncons
    simp only [Kal.ones, List.all_cons, Bool.and_eq_true] at h1
    rcases List.mem_cons.1 hv with rfl | hv
    · exact hx.one h1.1
    · exact LR.ones ht h1.2 v hv

theorem run_storeCells_open (P : Program) (g o : Nat) (t : TypeId) (lo hi : Nat) : ∀ (vs : List Value) (i : Nat) (cur : Array Value) (w : World), w.heap[g]? = some (.cells cur t (lo, hi)) → (∀ k, o + i ≤ k → k < o + i + vs.length → ¬ (lo ≤ k ∧ k < hi)) → o + i + vs.length ≤ cur.size → (∀ v ∈ vs, v.oneCell' = true) →
    (storeCells ⟨g, o, none⟩ vs i).run P w = .ok () (w.setRow g (putList cur.toList (o + i) vs).toArray)
  | [], i, cur, w, hg, _, _, _ => by
    simp only [storeCells, putList, Array.toArray_toList]
    rw [setRow_self w g cur t (lo, hi) hg]
    rfl
  | v :: rest, i, cur, w, hg, hfz, hl, h1 => by
    have hi' : o + i < cur.size := by simp at hl; omega
    have hcell : w.cell? ⟨g, o + i, none⟩ = some cur[o + i] := by simp [World.cell?, hg, hi']
    have hfro : w.frozen? ⟨g, o + i, none⟩ = false := by
      have := hfz (o + i) (Nat.le_refl _) (by simp)
      simp only [World.frozen?, hg, Bool.and_eq_false_iff, decide_eq_false_iff_not]
      by_cases h : lo ≤ o + i
      · right; intro q; exact this ⟨h, q⟩
      · left; exact h
    have hst : (store ((⟨g, o, none⟩ : Addr).add i) v).run P w = .ok () (w.setRow g (cur.setIfInBounds (o + i) v)) := by
      rw [add_none, run_store P w _ v _ (h1 v (by simp)), hcell]
      simp [hfro, setCell_eq_setRow w g (o + i) cur t (lo, hi) v hg]
    have ih := run_storeCells_open P g o t lo hi rest (i + 1) (cur.setIfInBounds (o + i) v) (w.setRow g (cur.setIfInBounds (o + i) v)) (setRow_heap w g cur _ t _ hg) (fun k a b => hfz k (by omega) (by simp; omega)) (by simp at hl ⊢; omega) (fun x hx => h1 x (by simp [hx]))
    simp only [storeCells, Sem.run_bind, hst, Result.andThen_ok, ih, setRow_setRow]
    congr 3
    rw [putList, Array.toList_setIfInBounds, Nat.add_assoc]

section
variable {E : Env} {P : Program} {G J : K} {h : H} {w : World} {fr : T AV} {nt : Nat} {a : Act} {x : Option Nat}

theorem take_putList {cs : List Value} {off n : Nat} {vs : List Value} (hle : off + vs.length ≤ n) : (putList cs off vs).take n = putList (cs.take n) off vs := by
  induction vs generalizing cs off with
  | nil => rfl
  | cons v vs ih =>
    simp only [List.length_cons] at hle
    rw [putList, putList, ih (by omega)]
    congr 1
    rw [List.take_set]

/-- cells of an object are written -/
theorem store_cells (hW : W J h w) {id b off : Nat} {c : TypeId × List AV} (hc : h.cells? id = some c) (hb : J.obj id = some b) {vs c' : List AV} {vs' : List Value} (hv : LR J vs vs') (h1 : ones vs = true) (hp : putCells c.2 off vs = some c') :
    ∃ w', (storeCells ⟨b, off, none⟩ vs').run P w = .ok () w' ∧ W J (h.set id (.cells c.1 c')) w' ∧ Ext x J h w J (h.set id (.cells c.1 c')) w' := by
  obtain ⟨ob, g1, cs, lo, hi, e1, a1, a2, a3, a4, a5, a6, a7⟩ := hW.live (H.cells?_eq.1 hc) hb
  subst e1
  obtain ⟨p1, p2, p3⟩ := putCells_spec hp
  have hlen := hv.1
  rcases p2 with hnil | p2
  · subst hnil
    have := hv.nil_inv; subst this
    have hcc : c' = c.2 := by
      apply List.ext_getElem?
      intro j
      rw [p3 j, if_neg (by simp)]
    subst hcc
    obtain ⟨t1, t2⟩ := hW.turn (x := x) (o' := .cells c.1 c.2) (w' := w) (ob := .cells cs c.1 (lo, hi)) (H.cells?_eq.1 hc) hb rfl rfl rfl rfl (fun _ _ => rfl) g1 ⟨cs, lo, hi, rfl, a1, a2, a3, a4, a5, a6, a7⟩ (fun x v e => by rw [a6] at e; cases e) a7
    exact ⟨w, rfl, t1, t2⟩
  · have hrun := run_storeCells_open P b off c.1 lo hi vs' 0 cs w g1 (fun k _ hk => a5 k (by omega)) (by omega) (hv.ones h1)
    refine ⟨_, hrun, ?_⟩
    have hnew := setRow_heap w b cs (putList cs.toList (off + 0) vs').toArray c.1 (lo, hi) g1
    have hsz : (putList cs.toList (off + 0) vs').toArray.size = cs.size := by simp [putList_length]
    exact hW.turn (x := x) (o' := .cells c.1 c') (H.cells?_eq.1 hc) hb rfl rfl rfl (by simp) (fun k hk => setRow_other w b k _ hk) hnew
      ⟨_, lo, hi, rfl, by rw [p1]; exact a1, by rw [hsz, p1]; exact a2, by rw [hsz]; exact a3, by
        simp only [Nat.add_zero]
        rw [p1, take_putList (by omega)]
        exact putList_LR hp a4 hv, by rw [hsz]; exact a5, a6, a7⟩ (fun x v e => by rw [a6] at e; cases e) a7

theorem store_ok (hE : EnvOK E P G) (hW : W J h w) {t : TypeId} {p v : AV} {p' v' : Value} (hp : VR J p p') (hv : VR J v v') {h' : H} (e : Kal.storeVar E h t p v = some h') :
    Does P x J h w (do Instr.storeAt t p' v'; pure .skip) undefA h' := by
  unfold Kal.storeVar at e
  simp only [Option.bind_eq_some_iff] at e
  obtain ⟨i, hi, e⟩ := e
  split at e
  · rename_i id off
    simp only [Option.bind_eq_some_iff] at e
    obtain ⟨c, hc, e⟩ := e
    split at e
    · rename_i hl
      obtain ⟨hl, h1⟩ := hl
      simp only [Option.bind_eq_some_iff, Option.some.injEq] at e
      obtain ⟨c', hpc, rfl⟩ := e
      cases hp with
      | ptr hb =>
        rename_i b
        have hcl := hv.cells
        obtain ⟨w', r1, r2, r3⟩ := store_cells (P := P) (x := x) hW hc hb hcl h1 hpc
        refine ⟨J, w', .skip, ?_, .inr ⟨rfl, rfl⟩, r2, r3⟩
        have hsz : v'.cells.size = i.size := by rw [← hl]; exact size_of_LR hcl
        simp [Instr.storeAt, Instr.sureAddr, Go.storeVar, run_sizeOf_of hE hi, hsz, r1]
    · cases e
  · cases e

theorem ones_zeros {z : List AV} (h1 : ones z = true) : ∀ n, ones (zeros z n) = true
  | 0 => rfl
  | n + 1 => by simp only [zeros, ones, List.all_append, Bool.and_eq_true]; exact ⟨h1, ones_zeros h1 n⟩

theorem zeroCells_LR {z : List AV} {zs : Array Value} (hz : LR J z zs.toList) (n : Nat) : LR J (zeros z n) (Builtin.zeroCells zs n).toList := zeros_LR hz n

theorem clear_ok (hE : EnvOK E P G) (hW : W J h w) {t el : TypeId} {ti ei : TI} (hti : E.ty t = some ti) (hd : ti.desc = .slice el) (hei : E.ty el = some ei) {sz : Nat} {ag : Bool} {id off len : Nat} {x' : Value} (hx : VR J (.sl sz ag id off len) x')
    (h1 : ones ei.zero.cells = true) (hzs : ei.zero.cells.length = sz) {c : TypeId × List AV} (hc : h.cells? id = some c) {c' : List AV} (hp : putCells c.2 off (zeros ei.zero.cells len) = some c') {ts : Array TypeId} {ty : TypeId} (ht : ts[0]? = some t) :
    Does P x J h w (do pure (.value (← Builtin.clear_ ts ty #[x']))) (.tup []) (h.set id (.cells c.1 c')) := by
  obtain ⟨_, _, h2, _⟩ := hE.ty hti
  obtain ⟨z, z1, z2⟩ := run_zero_of (w := w) (J := J) hE hei
  cases hx with
  | sl hb hpos hl hcap hext ha =>
    rename_i cap b ad
    have hzl := zeroCells_LR z2.cells len
    have hone : ones (zeros ei.zero.cells len) = true := ones_zeros h1 len
    by_cases h0 : len = 0
    · subst h0
      obtain ⟨w', r1, r2, r3⟩ := store_cells (P := P) (x := x) hW hc hb (vs := zeros ei.zero.cells 0) (vs' := []) (LR.nil J) rfl hp
      have hw : w' = w := by
        have : (storeCells ⟨b, off, none⟩ []).run P w = .ok () w := rfl
        rw [r1] at this; cases this; rfl
      subst hw
      refine ⟨J, w', .value (.tuple #[]), ?_, .inl ⟨_, rfl, undefR J⟩, r2, r3⟩
      simp [Builtin.clear_, ht, run_underlying h2]
    · have hae : ad = ⟨b, off, none⟩ := ha.resolve_left (by omega)
      subst hae
      obtain ⟨w', r1, r2, r3⟩ := store_cells (P := P) (x := x) hW hc hb hzl hone hp
      refine ⟨J, w', .value (.tuple #[]), ?_, .inl ⟨_, rfl, undefR J⟩, r2, r3⟩
      simp [Builtin.clear_, ht, run_underlying h2, hd, z1, r1]
end
end Go.Kal
end

section
namespace Go.Kal
open Go

section
variable {E : Env} {P : Program} {G J : K} {h : H} {w : World} {fr : T AV} {nt : Nat} {a : Act} {x : Option Nat}

theorem makeSlice_ok (hE : EnvOK E P G) (hW : W J h w) (hp : Place J h x) {t el : TypeId} {ti ei : TI} (hti : E.ty t = some ti) (hd : ti.desc = .slice el) (hei : E.ty el = some ei) {l c : Nat} {kl kc : IntKind}
    (hlc : l ≤ c) (hb : c * (ei.bytes + 1) ≤ 35184372088832) (hz : ei.zero.cells.length = ei.size) (hpos : 0 < ei.size) :
    Does P x J h w (do pure (.value (← Instr.makeSlice t (.int kl l) (.int kc c)))) (.sl ei.size ei.ag (h.new x (.cells el (zeros ei.zero.cells c))).1 0 l) (h.new x (.cells el (zeros ei.zero.cells c))).2 := by
  obtain ⟨_, _, h2, _⟩ := hE.ty hti
  obtain ⟨i, h1, _, h3, h4, z, h5, h6⟩ := hE.ty hei
  have hzc : LR J ei.zero.cells z.cells.toList := (ofValue_VR h6).cells
  have hzs := size_of_LR hzc
  have hcells : LR J (zeros ei.zero.cells c) (madeCells z.cells (c * i.size)).toList := by
    unfold madeCells
    exact zeros_pos_LR hzc c _ (by rw [hzs, hz, h3])
  have hcs := size_of_LR hcells
  have hbig : ((i.bytes : Nat) : Int) * (c : Int) ≤ 281474976710656 := by
    rw [h4]
    have : ei.bytes * c ≤ c * (ei.bytes + 1) := by rw [Nat.mul_add, Nat.mul_comm]; omega
    have h' : ((ei.bytes * c : Nat) : Int) ≤ 281474976710656 := by omega
    rwa [Int.natCast_mul] at h'
  have hc63 : (c : Int) ≤ 9223372036854775807 := by
    have : c ≤ c * (ei.bytes + 1) := Nat.le_mul_of_pos_right _ (by omega)
    omega
  have hrun := run_make (P := P) w t el i z (by rw [h2, hd]) h1 h5 kl kc l c (by omega) (by omega) hbig hc63
  simp only [Int.toNat_natCast] at hrun
  obtain ⟨J', o1, o2, o3, o4, o5⟩ := new_cells (x := x) (el := el) hW hp (c := zeros ei.zero.cells c) (cs := madeCells z.cells (c * i.size)) (by rw [List.take_of_length_le (by simp [hcs])]; exact hcells) (by omega)
  have hlen := zeros_length ei.zero.cells c
  have e1 : l * ei.size ≤ c * ei.size := Nat.mul_le_mul_right _ hlc
  refine ⟨J', _, _, by simp only [Sem.run_bind, hrun, Result.andThen_ok, Sem.run_pure], .inl ⟨_, rfl, .sl o1 hpos (by rw [o2, hlen, hz]; omega) hlc (by rw [o3, hcs, hlen, hz]; omega) (.inr rfl)⟩, o4, o5⟩

/-- a row of cells that nobody will write -/
theorem known_row (hW : W J h w) {el : TypeId} {fz : Nat × Nat} {c : List AV} {cs : Array Value} (hl : LR J c (cs.toList.take c.length)) (hle : c.length ≤ cs.size) (hone : ∀ v ∈ c, v.cells.length = 1) (hcells : cellsOfAll c = c) {cap : Nat} (hcap : c.length ≤ cap) :
    ∃ J', VR J' (.vl none c) (.slice (some ⟨w.heap.size, 0, none⟩) c.length cap) ∧ W J' h (w.alloc (.cells cs el fz)) ∧ Ext x J h w J' h (w.alloc (.cells cs el fz)) := by
  obtain ⟨k1, k2⟩ := hW.known (x := x) (.cells cs el fz) (fun o => if o < c.length then cs[o]? else none) (fun y v e => by
      split at e
      · exact ⟨cs, el, fz, rfl, e⟩
      · cases e)
  refine ⟨_, ?_, k1, k2⟩
  refine .vl (sz := 1) (fun j => cs.toList.getD j undef) (by omega) hone (fun j hj => ?_) (fun j hj => ?_) hcap (fun t ht => by cases ht) (.inr rfl) (fun _ => .inl rfl)
  · rw [hcells] at hj
    have : j < cs.size := by omega
    simp [K.known, hj, List.getD, this]
  · have hj' : j < c.length := by rw [hcells] at hj; exact hj
    have := (hl.mono k2.le).2 j hj' (by simp; omega)
    have hlt : j < cs.size := by omega
    simp only [List.getElem_take] at this
    have e1 : (cellsOfAll c)[j] = c[j] := by simp only [hcells]
    rw [e1]
    simpa [List.getD, hlt] using this

theorem cellsOfAll_one : ∀ {c : List AV}, (∀ v ∈ c, v.cells = [v]) → cellsOfAll c = c
  | [], _ => rfl
  | v :: c, h => by rw [cellsOfAll_cons, h v (by simp), cellsOfAll_one (fun u hu => h u (by simp [hu]))]; rfl

theorem runes_eq (s : ByteArray) : ∀ (bound i : Nat) (acc : Array Value), ∃ r : List Value, (Conv.runesFrom s bound i acc).toList = acc.toList ++ r ∧ LR J (Kal.runesFrom s bound i) r
  | 0, i, acc => ⟨[], by simp [Conv.runesFrom], LR.nil J⟩
  | n + 1, i, acc => by
    simp only [Conv.runesFrom, Kal.runesFrom]
    split
    · obtain ⟨r, h1, h2⟩ := runes_eq s n (i + (Utf8.decode s i).2) (acc.push (.int .i32 (Int.ofNat (Utf8.decode s i).1)))
      exact ⟨_ :: r, by rw [h1]; simp, LR.cons (.int _ _) h2⟩
    · exact ⟨[], by simp, LR.nil J⟩
theorem runes_cells (s : ByteArray) : ∀ (bound i : Nat), ∀ v ∈ Kal.runesFrom s bound i, v.cells = [v]
  | 0, i, v, h => by simp [Kal.runesFrom] at h
  | n + 1, i, v, h => by
    simp only [Kal.runesFrom] at h
    split at h
    · rcases List.mem_cons.1 h with rfl | h
      · rfl
      · exact runes_cells s n _ v h
    · simp at h

theorem alloc_freeze (w : World) (cs : Array Value) (el : TypeId) (n : Nat) : (w.alloc (.cells cs el)).freeze ⟨w.heap.size, n, none⟩ 1 = w.alloc (.cells cs el (n, n + 1)) := by
  unfold World.freeze World.alloc
  simp only [Nat.one_ne_zero, if_false]
  congr 1
  apply Array.ext
  · simp
  · intro i h1 h2
    rw [Array.getElem_modify]
    by_cases hi : i = w.heap.size
    · subst hi
      simp
    · have : i < w.heap.size := by simp at h2; omega
      rw [if_neg (fun e => hi e.symm), Array.getElem_push_lt this, Array.getElem_push_lt this]

theorem takeAppend {c : List Value} {n : Nat} (d : List Value) (h : c.length = n) : (c ++ d).take n = c := by subst h; simp

theorem convert_ok (hE : EnvOK E P G) (hW : W J h w) {src dst : TypeId} {v : AV} {v' : Value} (hv : VR J v v') {r : AV × H} (e : Kal.convert E h src dst v = some r) :
    Does P x J h w (do pure (.value (← Go.convert src dst v'))) r.1 r.2 := by
  unfold Kal.convert at e
  simp only [Option.bind_eq_some_iff] at e
  obtain ⟨s, hs, d, hd, e⟩ := e
  obtain ⟨_, _, s2, _⟩ := hE.ty hs
  obtain ⟨_, _, d2, _⟩ := hE.ty hd
  split at e
  · rename_i j k j' n e1 e2
    cases e; cases hv
    exact .quiet hW ⟨_, by simp [Go.convert, run_underlying s2, run_underlying d2, e1, e2, Conv.intToInt, wrap_eq], .int _ _⟩
  · rename_i j j' n e1 e2
    cases e; cases hv
    refine .quiet hW ⟨.string (Utf8.encode n), by simp [Go.convert, run_underlying s2, run_underlying d2, e1, e2, Conv.intToString], ?_⟩
    exact .str _
  · rename_i y e1 e2
    cases e; cases hv
    exact .quiet hW ⟨_, by simp [Go.convert, run_underlying s2, run_underlying d2, e1, e2], .str _⟩
  · rename_i t i o e1 e2
    simp only [Option.bind_eq_some_iff] at e
    obtain ⟨ti, hti, c, hc, e⟩ := e
    split at e
    · rename_i hq
      cases e
      cases hv with
      | ptr hb =>
        rename_i b
        obtain ⟨ob, g1, cs, lo, hi, rfl, a1, a2, _⟩ := hW.live (H.cells?_eq.1 hc) hb
        have hsh : w.shape? b = some (c.1, cs.size) := by simp [World.shape?, g1]
        refine .quiet hW ⟨.pointer (some ⟨b, o, none⟩), ?_, .ptr hb⟩
        have hno : ¬ cs.size ≤ o := by omega
        simp [Go.convert, run_underlying s2, run_underlying d2, e1, e2, Conv.unsafePointer, Conv.seenAt, viewAt, cellsIn, hsh, run_sizeOf_of hE hti, hq.1, hno]
    · cases e
  · rename_i t i o e1 e2
    simp only [Option.bind_eq_some_iff] at e
    obtain ⟨ti, hti, c, hc, e⟩ := e
    split at e
    · rename_i hq
      obtain ⟨q1, q2, q3, q4⟩ := hq
      subst q1 q2
      cases e
      cases hv with
      | ptr hb =>
        rename_i b
        obtain ⟨ob, g1, cs, lo, hi, rfl, a1, a2, _⟩ := hW.live (H.cells?_eq.1 hc) hb
        have hsh : w.shape? b = some (c.1, cs.size) := by simp [World.shape?, g1]
        obtain ⟨y, y1, _, y3, _⟩ := hE.ty hti
        have hco : P.cellsOf c.1 = ti.size := by simp [Program.cellsOf, y1, y3]
        have hcount : 1 ≤ cs.size / P.cellsOf c.1 := by
          rw [hco, Nat.le_div_iff_mul_le (by omega)]
          omega
        have hlies : liesAt P P.depth c.1 (cs.size / P.cellsOf c.1) 0 c.1 1 = true := by
          have hdp : P.depth = (2 * (P.types.size + Made.depth) + 1) + 1 := rfl
          rw [hdp]
          simp only [liesAt, Bool.or_eq_true]
          left
          rw [hdp]
          simp only [rowAt]
          rw [if_neg (by rw [hco]; exact q3)]
          simp [sameLayout, hcount]
        refine .quiet hW ⟨.pointer (some ⟨b, 0, none⟩), ?_, .ptr hb⟩
        simp [Go.convert, run_underlying s2, run_underlying d2, e1, e2, Conv.unsafePointer, Conv.seenAt, viewAt, hsh, run_sizeOf_of hE hti, q3, variablesAt, hlies]
    · cases e
  · rename_i el y e1 e2
    simp only [Option.bind_eq_some_iff] at e
    obtain ⟨ei, hei, e⟩ := e
    obtain ⟨_, _, el2, _⟩ := hE.ty hei
    split at e
    · rename_i e3
      cases e; cases hv
      obtain ⟨rs, r1, r2⟩ := runes_eq (J := J) ⟨⟨y⟩⟩ y.length 0 #[]
      simp only [List.nil_append] at r1
      have hsz : (Conv.runesFrom ⟨⟨y⟩⟩ y.length 0 #[]).size = (Kal.runesFrom ⟨⟨y⟩⟩ y.length 0).length := by rw [r2.1, ← r1]; simp
      have hcl := runes_cells ⟨⟨y⟩⟩ y.length 0
      obtain ⟨J', k1, k2, k3⟩ := known_row (x := x) (w := w.drew) (el := el) (fz := (0, 0)) hW.drew (c := Kal.runesFrom ⟨⟨y⟩⟩ y.length 0)
        (cs := Conv.runesFrom ⟨⟨y⟩⟩ y.length 0 #[] ++ Array.replicate (grownCap w (Conv.runesFrom ⟨⟨y⟩⟩ y.length 0 #[]).size 0 el - (Conv.runesFrom ⟨⟨y⟩⟩ y.length 0 #[]).size) (.int .i32 0))
        (by rw [Array.toList_append, r1, takeAppend _ r2.1.symm]; exact r2) (by simp; omega) (fun v hv => by rw [hcl v hv]; rfl) (cellsOfAll_one hcl)
        (cap := grownCap w (Conv.runesFrom ⟨⟨y⟩⟩ y.length 0 #[]).size 0 el) (by rw [← hsz]; exact grownCap_ge _ _ _ _)
      refine ⟨J', _, _, ?_, .inl ⟨_, rfl, k1⟩, k2, (Ext.drew J h w).trans k3⟩
      have hys : (ByteArray.mk ⟨y⟩).size = y.length := rfl
      simp [Go.convert, run_underlying s2, run_underlying d2, run_underlying el2, e1, e2, e3, Conv.stringToRunes, Question.forced, newRow, grownCap, hys, hsz]
    · rename_i e3
      cases e; cases hv
      have hL : LR J (y.map fun b => AV.int .u8 b.toNat) ((ByteArray.mk ⟨y⟩).data.map fun b => Value.int .u8 b.toNat).toList := by
        clear hW
        rw [Array.toList_map]
        show LR J _ (y.map _)
        induction y with
        | nil => exact LR.nil J
        | cons c y ih => exact LR.cons (.int _ _) ih
      have hcl : ∀ v ∈ (y.map fun b => AV.int .u8 b.toNat), v.cells = [v] := fun v hv => by
        obtain ⟨b, _, rfl⟩ := List.mem_map.1 hv; rfl
      have hys : (ByteArray.mk ⟨y⟩).size = y.length := rfl
      obtain ⟨J', k1, k2, k3⟩ := known_row (x := x) (w := w.drew) (el := el) (fz := ((((ByteArray.mk ⟨y⟩).data.map fun b => Value.int .u8 b.toNat) ++ Array.replicate (grownCap w y.length 0 el - y.length) (Value.int .u8 0)).size, (((ByteArray.mk ⟨y⟩).data.map fun b => Value.int .u8 b.toNat) ++ Array.replicate (grownCap w y.length 0 el - y.length) (Value.int .u8 0)).size + 1)) hW.drew (c := y.map fun b => AV.int .u8 b.toNat)
        (cs := ((ByteArray.mk ⟨y⟩).data.map fun b => Value.int .u8 b.toNat) ++ Array.replicate (grownCap w y.length 0 el - y.length) (.int .u8 0))
        (by rw [Array.toList_append, takeAppend _ hL.1.symm]; exact hL) (by simp) (fun v hv => by rw [hcl v hv]; rfl) (cellsOfAll_one hcl)
        (cap := grownCap w y.length 0 el) (by rw [List.length_map]; exact grownCap_ge _ _ _ _)
      rw [← alloc_freeze] at k2 k3
      refine ⟨J', _, _, ?_, .inl ⟨_, rfl, k1⟩, k2, (Ext.drew J h w).trans k3⟩
      have hsh : ∀ (q : World) (A : Array Value), (q.alloc (.cells A el)).shape? q.heap.size = some (el, A.size) := fun q A => by unfold World.shape?; rw [heap_alloc_new]
      have hsh' := hsh w.drew
      simp only [World.size_drew] at hsh'
      simp [Go.convert, run_underlying s2, run_underlying d2, run_underlying el2, e1, e2, e3, Conv.stringToBytes, Question.forced, newRow, grownCap, hys, markStringish, hsh']
    · cases e
  · rename_i el sz ag id off len e1 e2
    simp only [Option.bind_eq_some_iff] at e
    obtain ⟨ei, hei, e⟩ := e
    obtain ⟨_, _, el2, _⟩ := hE.ty hei
    split at e
    · rename_i e3
      simp only [Option.bind_eq_some_iff] at e
      obtain ⟨c, hc, bs, hbs, e⟩ := e
      split at e
      · rename_i hlen
        cases e
        cases hv with
        | sl hb hpos hl hcap hext ha =>
          rename_i cap b ad
          obtain ⟨cs, c1, c2⟩ := lies_obj hW hc hb
          have hll : (((c.2.drop off).take len)).length = len := by
            have : ∀ {l : List AV} {r}, optAll byteOf l = some r → r.length = l.length := by
              intro l
              induction l with
              | nil => intro r e; cases e; rfl
              | cons y l ih => intro r e; obtain ⟨_, _, _, e2, rfl⟩ := optAll_cons.1 e; simp [ih e2]
            rw [← this hbs, hlen]
          by_cases h0 : len = 0
          · subst h0
            simp only [List.take_zero, optAll, Option.some.injEq] at hbs
            subst hbs
            refine .quiet hW ⟨.string ⟨⟨[]⟩⟩, ?_, .str _⟩
            simp [Go.convert, run_underlying s2, run_underlying d2, run_underlying el2, e1, e2, e3, Conv.bytesToString, loadCells, loadCellsFrom]
            rfl
          · have hae : ad = ⟨b, off, none⟩ := ha.resolve_left (by omega)
            subst hae
            have hrun := run_bytes_of (P := P) (cap := cap) ((c1.drop off).take len) (by have := ((c2.drop off).take len); rwa [Nat.zero_add] at this) hll hbs
            refine .quiet hW ⟨.string ⟨⟨bs⟩⟩, ?_, .str _⟩
            simp [Go.convert, run_underlying s2, run_underlying d2, run_underlying el2, e1, e2, e3, hrun]
      · cases e
    · cases e
  · rename_i el tk es e1 e2
    simp only [Option.bind_eq_some_iff] at e
    obtain ⟨ei, hei, e⟩ := e
    obtain ⟨_, _, el2, _⟩ := hE.ty hei
    split at e
    · rename_i e3
      simp only [Option.bind_eq_some_iff, Option.some.injEq] at e
      obtain ⟨bs, hbs, rfl⟩ := e
      cases hv with
      | vl f hpos hsz hi hvv hcap htk ha hemp =>
        rename_i b off cap sz ad
        by_cases h0 : es = []
        · subst h0
          simp only [optAll, Option.some.injEq] at hbs
          subst hbs
          refine .quiet hW ⟨.string ⟨⟨[]⟩⟩, ?_, .str _⟩
          simp [Go.convert, run_underlying s2, run_underlying d2, run_underlying el2, e1, e2, e3, Conv.bytesToString, loadCells, loadCellsFrom]
          rfl
        · have hae : ad = ⟨b, off, none⟩ := ha.resolve_left (fun q => h0 q.1)
          subst hae
          have hcl : cellsOfAll es = es := by
            have : ∀ {l : List AV} {r}, optAll byteOf l = some r → cellsOfAll l = l := by
              intro l
              induction l with
              | nil => intro r e; rfl
              | cons y l ih =>
                intro r e
                obtain ⟨_, _, e1, e2, rfl⟩ := optAll_cons.1 e
                rw [cellsOfAll_cons, ih e2]
                unfold byteOf at e1
                split at e1
                · rfl
                · cases e1
            exact this hbs
          obtain ⟨l1, l2⟩ := lies_imm hW hi hvv
          rw [hcl] at l1 l2
          have hrun := run_bytes_of (P := P) (cap := cap) l1 l2 rfl hbs
          refine .quiet hW ⟨.string ⟨⟨bs⟩⟩, ?_, .str _⟩
          simp [Go.convert, run_underlying s2, run_underlying d2, run_underlying el2, e1, e2, e3, hrun]
    · cases e
  · cases e
end
end Go.Kal
end

section
namespace Go.Kal
open Go

section
variable {E : Env} {P : Program} {G J : K} {h : H} {w : World} {fr : T AV} {nt : Nat} {a : Act} {x : Option Nat}

/-- a block that is set -/
def setB (w : World) (b : Nat) (o : Go.Obj) : World := { w with heap := w.heap.setIfInBounds b o }
theorem setB_new {b : Nat} {o o' : Go.Obj} (hb : w.heap[b]? = some o) : (setB w b o').heap[b]? = some o' := by
  have := (Array.getElem?_eq_some_iff.1 hb).1
  simp [setB, Array.getElem?_setIfInBounds, this]
theorem setB_other {b k : Nat} {o' : Go.Obj} (hk : k ≠ b) : (setB w b o').heap[k]? = w.heap[k]? := by
  simp only [setB, Array.getElem?_setIfInBounds]
  rw [if_neg (fun e => hk e.symm)]
theorem setB_size {b : Nat} {o' : Go.Obj} : (setB w b o').heap.size = w.heap.size := by simp [setB]
theorem run_setObj_of {b : Nat} {o o' : Go.Obj} (hb : w.heap[b]? = some o) (hn : ∀ c e f, o ≠ .cells c e f) : (setObj b o').run P w = .ok () (setB w b o') := by
  unfold setObj
  cases o <;> first | exact absurd rfl (hn _ _ _) | (simp only [Sem.run, hb]; rfl)
theorem run_getObj_of {b : Nat} {o : Go.Obj} (hb : w.heap[b]? = some o) (hn : ∀ c e f, o ≠ .cells c e f) : (getObj b).run P w = .ok o w := by
  unfold getObj
  cases o <;> first | exact absurd rfl (hn _ _ _) | simp only [Sem.run, hb]

/-- an object that is no row turns -/
theorem turn_set (hW : W J h w) {id b : Nat} {o o' : Obj} {ob ob' : Go.Obj} (hid : h.get id = some o) (hb : J.obj id = some b) (hob : w.heap[b]? = some ob) (hO : OR J id b o' ob') (him : ∀ y, J.imm b y = none) (himM : J.immM b = none) :
    W J (h.set id o') (setB w b ob') ∧ Ext x J h w J (h.set id o') (setB w b ob') :=
  hW.turn (x := x) hid hb rfl rfl rfl setB_size (fun _ hk => setB_other hk) (setB_new hob) hO (fun y v e => by rw [him] at e; cases e) himM

theorem rangeStr_ok (hE : EnvOK E P G) (hW : W J h w) (hp : Place J h x) {t : TypeId} {ti : TI} (hti : E.ty t = some ti) (hd : ti.desc = .string) {s : List UInt8} {v' : Value} (hv : VR J (.str s) v') :
    Does P x J h w (do pure (.value (← Instr.range t v'))) (.ptr (h.new x (.strIter s 0)).1 0) (h.new x (.strIter s 0)).2 := by
  obtain ⟨_, _, h2, _⟩ := hE.ty hti
  obtain ⟨id, hat, hf⟩ := hp.get hW
  obtain ⟨e1, h1, h3⟩ := hW.new hat hf (.strIter s 0) (.stringIter ⟨⟨s⟩⟩ 0) 0 0 noImm ⟨rfl, fun o => K.put_imm, hW.immM_new⟩ (fun x v e => by cases e)
  cases hv
  refine ⟨_, _, _, ?_, .inl ⟨_, rfl, .ptr (by rw [e1]; exact K.put_self)⟩, h1, h3⟩
  simp [Instr.range, run_underlying h2, hd]

theorem rangeMap_ok (hE : EnvOK E P G) (hW : W J h w) (hp : Place J h x) {t kt el : TypeId} {ti : TI} (hti : E.ty t = some ti) (hd : ti.desc = .map kt el) {m : Nat} {v' : Value} (hv : VR J (.mp m) v') {es : List (AV × AV)} (hm : h.map? m = some es) (hle : es.length ≤ 1) :
    Does P x J h w (do pure (.value (← Instr.range t v'))) (.ptr (h.new x (.mapIter m es.length)).1 0) (h.new x (.mapIter m es.length)).2 := by
  obtain ⟨_, _, h2, _⟩ := hE.ty hti
  obtain ⟨id, hat, hf⟩ := hp.get hW
  cases hv with
  | mp hb =>
    rename_i mb
    obtain ⟨ob, g1, ents, ck, rfl, a1, a2, a3, _⟩ := hW.live (H.map?_eq.1 hm) hb
    have hle' : J.le (J.put id w.heap.size 0 0 noImm) := K.le_put hf.obj (fun o v e => by rw [hW.imm_new] at e; cases e)
    obtain ⟨e1, h1, h3⟩ := hW.new hat hf (.mapIter m es.length) (.mapIter (some mb) ck #[] ck) 0 0 noImm
      ⟨mb, (hle'.obj hb).1, by
        rcases Nat.lt_or_ge 0 es.length with h0 | h0
        · right; left
          have : es.length = 1 := by omega
          exact ⟨this, by rw [a3, ← a1, this]⟩
        · left
          have : es.length = 0 := by omega
          exact ⟨this, by rw [a3, ← a1, this]⟩, fun o => K.put_imm, hW.immM_new⟩ (fun x v e => by cases e)
    refine ⟨_, _, _, ?_, .inl ⟨_, rfl, .ptr (by rw [e1]; exact K.put_self)⟩, h1, h3⟩
    simp [Instr.range, run_underlying h2, hd, run_getObj_of g1 (by intro c e f q; cases q)]

theorem nextStr_ok (hW : W J h w) {r : Nat} {it' : Value} (hit : VR J (.ptr r 0) it') {s : List UInt8} {pos : Nat} (hr : h.get r = some (.strIter s pos)) (ty : TypeId) :
    Does P x J h w (do pure (.value (← Instr.next it' true ty)))
      (if pos < s.length then .tup [.bool true, .int .i64 pos, .int .i32 (Utf8.decode ⟨⟨s⟩⟩ pos).1] else .tup [.bool false])
      (if pos < s.length then h.set r (.strIter s (pos + (Utf8.decode ⟨⟨s⟩⟩ pos).2)) else h) := by
  cases hit with
  | ptr hb =>
    rename_i b
    obtain ⟨ob, g1, rfl, a2, a3⟩ := hW.live hr hb
    have hs : (ByteArray.mk ⟨s⟩).size = s.length := rfl
    have hg := run_getObj_of (P := P) g1 (by intro c e f q; cases q)
    by_cases hp : pos < s.length
    · rw [if_pos hp, if_pos hp]
      obtain ⟨t1, t2⟩ := turn_set (x := x) hW hr hb g1 (o' := .strIter s (pos + (Utf8.decode ⟨⟨s⟩⟩ pos).2)) (ob' := .stringIter ⟨⟨s⟩⟩ (pos + (Utf8.decode ⟨⟨s⟩⟩ pos).2)) ⟨rfl, a2, a3⟩ a2 a3
      refine ⟨J, _, _, ?_, .inl ⟨.tuple #[.bool true, goInt pos, .int .i32 (Utf8.decode ⟨⟨s⟩⟩ pos).1], rfl, VR.tup_iff.2 ⟨_, rfl, LR.cons (.bool _) (LR.cons (.int _ _) (LR.cons (.int _ _) (LR.nil J)))⟩⟩, t1, t2⟩
      have hset := run_setObj_of (P := P) (o' := .stringIter ⟨⟨s⟩⟩ (pos + (Utf8.decode ⟨⟨s⟩⟩ pos).2)) g1 (by intro c e f q; cases q)
      simp [Instr.next, hg, hs, hp, hset]
    · rw [if_neg hp, if_neg hp]
      exact .quiet hW ⟨.tuple #[.bool false], by simp [Instr.next, hg, hs, hp], VR.tup_iff.2 ⟨_, rfl, LR.cons (.bool _) (LR.nil J)⟩⟩

theorem one_entry {es : List (AV × AV)} {ents : Array MapEntry} {k v : AV} (he : es = [(k, v)]) (hl : es.length = ents.size) (hv : ∀ j (h : j < es.length) (h' : j < ents.size), VR J es[j].1 ents[j].key ∧ VR J es[j].2 ents[j].val ∧ ents[j].born = j) :
    ∃ x0, ents = #[x0] ∧ VR J k x0.key ∧ VR J v x0.val ∧ x0.born = 0 := by
  subst he
  have hs : ents.size = 1 := by simpa using hl.symm
  obtain ⟨x0, rfl⟩ : ∃ x0, ents = #[x0] := by
    refine ⟨ents[0], ?_⟩
    apply Array.ext
    · simp [hs]
    · intro i h1 h2
      have : i = 0 := by simpa using h2
      subst this; rfl
  have h0 := hv 0 (by simp) (by simp)
  exact ⟨x0, rfl, h0.1, h0.2.1, h0.2.2⟩

theorem nextMap_over (hW : W J h w) {r m : Nat} {it' : Value} (hit : VR J (.ptr r 0) it') {st : Nat} (hr : h.get r = some (.mapIter m st)) {es : List (AV × AV)} (hm : h.map? m = some es) (hc : (st = 0 ∧ es = []) ∨ (st = 2 ∧ ∃ e, es = [e])) (ty : TypeId) :
    Does P x J h w (do pure (.value (← Instr.next it' false ty))) (.tup [.bool false]) h := by
  cases hit with
  | ptr hb =>
    rename_i b
    obtain ⟨ob, g1, mb, o1, o2, _⟩ := hW.live hr hb
    obtain ⟨ob2, g2, ents, ck, rfl, a1, a2, a3, _⟩ := hW.live (H.map?_eq.1 hm) o1
    have hg2 := run_getObj_of (P := P) g2 (by intro c e f q; cases q)
    refine .quiet hW ⟨.tuple #[.bool false], ?_, VR.tup_iff.2 ⟨_, rfl, LR.cons (.bool _) (LR.nil J)⟩⟩
    rcases hc with ⟨rfl, rfl⟩ | ⟨rfl, ⟨k, v⟩, he⟩
    · have e : ob = .mapIter (some mb) 0 #[] 0 := by
        rcases o2 with ⟨_, h⟩ | ⟨h, _⟩ | ⟨h, _⟩
        · exact h
        · cases h
        · cases h
      subst e
      have hents : ents = #[] := Array.eq_empty_of_size_eq_zero a1.symm
      subst hents
      have hg := run_getObj_of (P := P) g1 (by intro c e f q; cases q)
      simp [Instr.next, hg, hg2, Question.forced]
    · have e : ob = .mapIter (some mb) 1 #[0] 1 := by
        rcases o2 with ⟨h, _⟩ | ⟨h, _⟩ | ⟨_, h⟩
        · cases h
        · cases h
        · exact h
      subst e
      obtain ⟨x0, rfl, _, _, h0⟩ := one_entry he a1 a2
      have hg := run_getObj_of (P := P) g1 (by intro c e f q; cases q)
      simp [Instr.next, hg, hg2, Question.forced, h0]

theorem nextMap_step (hW : W J h w) {r m : Nat} {it' : Value} (hit : VR J (.ptr r 0) it') (hr : h.get r = some (.mapIter m 1)) {k v : AV} (hm : h.map? m = some [(k, v)]) (ty : TypeId) :
    Does P x J h w (do pure (.value (← Instr.next it' false ty))) (.tup [.bool true, k, v]) (h.set r (.mapIter m 2)) := by
  cases hit with
  | ptr hb =>
    rename_i b
    obtain ⟨ob, g1, mb, o1, o2, o3, o4⟩ := hW.live hr hb
    obtain ⟨ob2, g2, ents, ck, rfl, a1, a2, a3, _⟩ := hW.live (H.map?_eq.1 hm) o1
    have hg2 := run_getObj_of (P := P) g2 (by intro c e f q; cases q)
    have e : ob = .mapIter (some mb) 1 #[] 1 := by
      rcases o2 with ⟨h, _⟩ | ⟨_, h⟩ | ⟨h, _⟩
      · cases h
      · exact h
      · cases h
    subst e
    obtain ⟨x0, rfl, hk, hv, h0⟩ := one_entry rfl a1 a2
    simp only [List.size_toArray, List.length_cons, List.length_nil] at a3
    subst a3
    have hg := run_getObj_of (P := P) g1 (by intro c e f q; cases q)
    obtain ⟨t1, t2⟩ := turn_set (x := x) hW hr hb g1 (o' := .mapIter m 2) (ob' := .mapIter (some mb) 1 #[0] 1) ⟨mb, o1, .inr (.inr ⟨rfl, rfl⟩), o3, o4⟩ o3 o4
    refine ⟨J, _, _, ?_, .inl ⟨.tuple #[.bool true, x0.key, x0.val], rfl, VR.tup_iff.2 ⟨_, rfl, LR.cons (.bool _) (LR.cons hk (LR.cons hv (LR.nil J)))⟩⟩, t1, t2⟩
    have hset := run_setObj_of (P := P) (o' := .mapIter (some mb) 1 #[0] 1) g1 (by intro c e f q; cases q)
    simp [Instr.next, hg, hg2, Question.forced, h0, hset]

/-! maps that are written -/

theorem putKey_at (k v : AV) : ∀ (es : List (AV × AV)) (n : Nat), (∀ i u, findAt k es n = some (i, u) → n ≤ i ∧ i < n + es.length ∧ (es[i - n]?).map (·.1) = some k ∧ putKey k v es = es.set (i - n) (k, v)) ∧ (findAt k es n = none → putKey k v es = es ++ [(k, v)])
  | [], n => ⟨fun i u e => by simp [findAt] at e, fun _ => rfl⟩
  | (a, b) :: es, n => by
    simp only [findAt, putKey]
    by_cases hb : AV.beq k a = true
    · rw [if_pos hb, if_pos hb]
      refine ⟨fun i u e => ?_, fun e => by cases e⟩
      cases e
      refine ⟨Nat.le_refl _, by simp, ?_, by simp⟩
      rw [Nat.sub_self, ← AV.beq_eq hb]; rfl
    · rw [if_neg hb, if_neg hb]
      obtain ⟨h1, h2⟩ := putKey_at k v es (n + 1)
      refine ⟨fun i u e => ?_, fun e => by rw [h2 e]; rfl⟩
      obtain ⟨a1, a2, a3, a4⟩ := h1 i u e
      refine ⟨by omega, by simp; omega, ?_, ?_⟩
      · rw [show i - n = (i - (n + 1)) + 1 by omega, List.getElem?_cons_succ]; exact a3
      · rw [show i - n = (i - (n + 1)) + 1 by omega, List.set_cons_succ, a4]

theorem plain_det {t : TypeId} {v : AV} (f : fits1 E t v = true) {u u' : Value} (h1 : VR J v u) (h2 : VR J v u') : u = u' ∧ ∀ n, Instr.sameBits n u u = true := by
  obtain ⟨i, hi, c⟩ := fits1_iff f
  rcases c with ⟨k, n, hd, rfl⟩ | ⟨s, hd, rfl⟩ | ⟨b, hd, rfl⟩ <;> cases h1 <;> cases h2
  · exact ⟨rfl, fun n => by cases n <;> simp [Instr.sameBits]⟩
  · refine ⟨rfl, fun n => ?_⟩
    have : ((ByteArray.mk ⟨s⟩ : ByteArray) == ByteArray.mk ⟨s⟩) = true := by rw [toList_beq]; simp
    cases n <;> simp [Instr.sameBits, this]
  · exact ⟨rfl, fun n => by cases n <;> simp [Instr.sameBits]⟩

theorem plains_det : ∀ {fs : List Field} {cs : List AV}, fitsF E fs cs = true → ∀ {l l' : List Value}, LR J cs l → LR J cs l' → l = l' ∧ ∀ n, (l.zip l).all (fun p => Instr.sameBits n p.1 p.2) = true
  | [], cs, f, l, l', h1, h2 => by
    cases cs with
    | nil => rw [h1.nil_inv, h2.nil_inv]; exact ⟨rfl, fun n => rfl⟩
    | cons _ _ => simp [fitsF] at f
  | f :: fs, cs, hf, l, l', h1, h2 => by
    cases cs with
    | nil => simp [fitsF] at hf
    | cons c cs =>
      simp only [fitsF, Bool.and_eq_true] at hf
      obtain ⟨u, t, rfl, hu, ht⟩ := h1.uncons
      obtain ⟨u', t', rfl, hu', ht'⟩ := h2.uncons
      obtain ⟨e1, e2⟩ := plain_det hf.1 hu hu'
      obtain ⟨e3, e4⟩ := plains_det hf.2 ht ht'
      subst e1 e3
      exact ⟨rfl, fun n => by simp only [List.zip_cons_cons, List.all_cons, e2 n, e4 n, Bool.and_self]⟩

theorem key_det {t : TypeId} {k : AV} (f : keyFits E t k = true) {u u' : Value} (h1 : VR J k u) (h2 : VR J k u') : Instr.sameBits 10000 u u' = true := by
  cases hi : E.ty t with
  | none => unfold keyFits at f; rw [hi] at f; cases f
  | some i =>
    by_cases hs : ∃ fs, i.desc = .struct fs
    · obtain ⟨fs, hd⟩ := hs
      obtain ⟨cs, rfl, _, fc⟩ := keyFits_struct hi hd f
      obtain ⟨l, rfl, l1⟩ := VR.agg_iff.1 h1
      obtain ⟨l', rfl, l2⟩ := VR.agg_iff.1 h2
      obtain ⟨e1, e2⟩ := plains_det fc l1 l2
      have : l = l' := Array.ext' e1
      subst this
      have := e2 9999
      simp only [Instr.sameBits, beq_self_eq_true, Bool.true_and]
      exact this
    · have hn : ∀ fs, i.desc ≠ .struct fs := fun fs e => hs ⟨fs, e⟩
      obtain ⟨e1, e2⟩ := plain_det (keyFits_plain hi hn f) h1 h2
      subst e1
      exact e2 10000

theorem mapUpdate_ok (hE : EnvOK E P G) (hW : W J h w) {t : TypeId} {m k v : AV} {m' k' v' : Value} (hm : VR J m m') (hk : VR J k k') (hv : VR J v v') {h' : H} (e : Kal.mapUpdate E h t m k v = some h') :
    Does P x J h w (do Instr.mapUpdate t m' k' v'; pure .skip) undefA h' := by
  unfold Kal.mapUpdate at e
  simp only [Option.bind_eq_some_iff] at e
  obtain ⟨ti, hti, e⟩ := e
  obtain ⟨_, _, h2, _⟩ := hE.ty hti
  split at e
  · rename_i kt el id hd
    simp only [Option.bind_eq_some_iff] at e
    obtain ⟨es, hes, e⟩ := e
    split at e
    · rename_i hf
      cases e
      simp only [Bool.and_eq_true] at hf
      cases hm with
      | mp hb =>
        rename_i b
        obtain ⟨ob, g1, ents, ck, rfl, a1, a2, a3, a4, a5⟩ := hW.live (H.map?_eq.1 hes) hb
        have hN : NR J es ents.toList := ⟨by simpa using a1, fun j x y => ⟨(a2 j x (by simpa using y)).1, (a2 j x (by simpa using y)).2.1⟩⟩
        obtain ⟨r, f1, f2⟩ := findKey_ok (P := P) (w := w) hE hk hf.1 hN hf.2
        have hg := run_getObj_of (P := P) g1 (by intro c e f q; cases q)
        have hck := checkKey_ok (P := P) (w := w) hE hk hf.1 false
        obtain ⟨p1, p2⟩ := putKey_at k v es 0
        cases hfa : findAt k es 0 with
        | none =>
          rw [hfa] at f2
          cases r with
          | some q => exact f2.elim
          | none =>
            have hnew : OR J id b (.map (putKey k v es)) (.map (ents.push { key := k', val := v', born := ck }) (ck + 1)) := by
              refine ⟨_, _, rfl, by rw [p2 hfa]; simp [a1], fun j x y => ?_, by simp [a3], a4, a5⟩
              simp only [p2 hfa]
              by_cases hj : j < es.length
              · rw [List.getElem_append_left hj, Array.getElem_push_lt (by omega)]
                exact a2 j hj (by omega)
              · have hj' : j = es.length := by simp [p2 hfa] at x; omega
                subst hj'
                rw [List.getElem_append_right (by omega)]
                simp only [a1, Array.getElem_push_eq, Nat.sub_self, List.getElem_cons_zero]
                exact ⟨hk, hv, by rw [a3]⟩
            obtain ⟨t1, t2⟩ := turn_set (x := x) hW (H.map?_eq.1 hes) hb g1 hnew a5 a4
            refine ⟨J, _, .skip, ?_, .inr ⟨rfl, rfl⟩, t1, t2⟩
            have hset := run_setObj_of (P := P) (o' := .map (ents.push { key := k', val := v', born := ck }) (ck + 1)) g1 (by intro c e f q; cases q)
            simp [Instr.mapUpdate, run_underlying h2, hd, hg, hck, f1, hset]
        | some q =>
          obtain ⟨qi, qv⟩ := q
          rw [hfa] at f2
          cases r with
          | none => exact f2.elim
          | some q' =>
            obtain ⟨qi', qv'⟩ := q'
            obtain ⟨rfl, f2⟩ := f2
            obtain ⟨b1, b2, b3, b4⟩ := p1 _ _ hfa
            simp only [Nat.sub_zero, Nat.zero_add] at b2 b3 b4
            have hlt : qi < ents.size := by omega
            have hold : VR J k (ents[qi]).key := by
              have := (a2 qi b2 hlt).1
              rw [List.getElem?_eq_getElem b2] at b3
              simp only [Option.map_some, Option.some.injEq] at b3
              rwa [b3] at this
            have hsame := key_det hf.1 hold hk
            have hnew : OR J id b (.map (putKey k v es)) (.map (ents.modify qi fun e => { e with key := k', val := v' }) ck) := by
              refine ⟨_, _, rfl, by rw [b4]; simp [a1], fun j x y => ?_, by simp [a3], a4, a5⟩
              simp only [b4]
              simp only [Array.size_modify] at y
              rw [Array.getElem_modify, List.getElem_set]
              by_cases hj : qi = j
              · rw [if_pos hj, if_pos hj]
                subst hj
                exact ⟨hk, hv, (a2 qi b2 hlt).2.2⟩
              · rw [if_neg hj, if_neg hj]
                exact a2 j (by omega) y
            obtain ⟨t1, t2⟩ := turn_set (x := x) hW (H.map?_eq.1 hes) hb g1 hnew a5 a4
            refine ⟨J, _, .skip, ?_, .inr ⟨rfl, rfl⟩, t1, t2⟩
            have hset := run_setObj_of (P := P) (o' := .map (ents.modify qi fun e => { e with key := k', val := v' }) ck) g1 (by intro c e f q; cases q)
            simp [Instr.mapUpdate, run_underlying h2, hd, hg, hck, f1, Instr.keyThatStays, hlt, hsame, hset]
    · cases e
  · cases e
end
end Go.Kal
end

section
namespace Go.Kal
open Go

/-- the interpreter's heap, by what it holds -/
theorem W.congr {J : K} {h h' : H} {w : World} (hW : W J h w) (hg : ∀ i, h'.get i = h.get i) (hn : h'.next = h.next) : W J h' w :=
  ⟨hW.imm, hW.immM, fun a b => hW.live (by rw [← hg]; exact a) b, fun a b => hW.apart (by rw [← hg]; exact a) (by rw [← hg]; exact b), fun a => by rw [hn]; exact hW.ids (by rw [← hg]; exact a), fun a => hW.fresh (by rw [← hn]; exact a), hW.lt, hW.pin⟩
theorem Ext.congr {x : Option Nat} {J J' : K} {h h1 h2 : H} {w w' : World} (hx : Ext x J h w J' h1 w') (hg : ∀ i, h2.get i = h1.get i) (hn : h2.next = h1.next) : Ext x J h w J' h2 w' :=
  ⟨hx.le, hx.os, hx.tape, hx.output, hx.size, hx.keep, fun a b => hx.own (by rw [← hg]; exact a) b, by rw [hn]; exact hx.next, hx.newImm, hx.newImmM, fun a b c => ⟨(hx.still a b c).1, by rw [hg]; exact (hx.still a b c).2⟩⟩

section
variable {E : Env} {P : Program} {G J : K} {h : H} {w : World} {fr : T AV} {nt : Nat} {a : Act} {x : Option Nat}

theorem uniform_iff {sz : Nat} {es : List AV} : uniform sz es = true ↔ ∀ e ∈ es, e.cells.length = sz := by simp [uniform]

/-- what is appended -/
theorem elems_ok (hE : EnvOK E P G) (hW : W J h w) {e : TypeId} {ei : TI} (hei : E.ty e = some ei) {v : AV} {v' : Value} (hv : VR J v v') {new : List AV} (he : elemsOf E h e v = some new) (hu : uniform ei.size new = true) :
    ∃ l : List Value, (Builtin.lenOf v').run P w = .ok new.length w ∧ (Builtin.firstCells ei.size new.length v').run P w = .ok l.toArray w ∧ LR J (cellsOfAll new) l := by
  have hu' := uniform_iff.1 hu
  unfold elemsOf at he
  split at he
  · cases he; cases hv
    exact ⟨[], rfl, rfl, LR.nil J⟩
  · cases he
    cases hv with
    | vl f hp hsz hi hvv hcap htk ha hemp =>
      rename_i b off cap sz ad
      obtain ⟨l1, l2⟩ := lies_imm hW hi hvv
      refine ⟨_, rfl, ?_, l1⟩
      by_cases h0 : new = []
      · subst h0
        simp only [cellsOfAll, List.flatMap_nil, List.length_nil, List.range_zero, List.map_nil]
        simp [Builtin.firstCells, loadCells, loadCellsFrom]
      · have hae : ad = ⟨b, off, none⟩ := ha.resolve_left (fun q => h0 q.1)
        subst hae
        exact run_loadCells_lies l2 (by rw [← l1.1, cellsOfAll_length hu'])
  · rename_i sz ag id off len
    simp only [Option.bind_eq_some_iff] at he
    obtain ⟨c, hc, ei', hei', he⟩ := he
    rw [hei] at hei'; cases hei'
    split at he
    · rename_i hq
      obtain ⟨rfl, rfl⟩ := hq
      cases hv with
      | sl hb hpos hl hcap hext ha =>
        rename_i cap b ad
        obtain ⟨ob, g1, cs, lo, hi, e1, a1, a2, a3, a4, _⟩ := hW.live (H.cells?_eq.1 hc) hb
        obtain ⟨s1, s2, s3⟩ := chunks_spec (by simp; omega) he
        obtain ⟨l, c1, c2⟩ := lies_obj hW hc hb
        have hl1 : LR J (cellsOfAll new) ((l.drop off).take (len * ei.size)) := by rw [s1]; exact (c1.drop off).take _
        refine ⟨_, by rw [s2]; rfl, ?_, hl1⟩
        by_cases h0 : len = 0
        · subst h0
          have : (List.take (0 * ei.size) (l.drop off)).toArray = #[] := by simp
          rw [s2, this]
          simp [Builtin.firstCells, loadCells, loadCellsFrom]
        · have hae : ad = ⟨b, off, none⟩ := ha.resolve_left (by omega)
          subst hae
          rw [s2]
          refine run_loadCells_lies (by have := ((c2.drop off).take (len * ei.size)); rwa [Nat.zero_add] at this) ?_
          rw [← hl1.1, s1]; simp; omega
    · cases he
  · rename_i s
    cases he; cases hv
    refine ⟨s.map fun b => Value.int .u8 b.toNat, by simp [Builtin.lenOf]; rfl, ?_, ?_⟩
    · have hs : (ByteArray.mk ⟨s⟩).size = s.length := rfl
      have : ((ByteArray.mk ⟨s⟩).extract 0 s.length) = ByteArray.mk ⟨s⟩ := by
        apply ByteArray.ext
        rw [ByteArray.data_extract]
        apply Array.ext'
        simp
      simp only [Builtin.firstCells, List.length_map, this]
      simp
    · rw [cellsOfAll_one (fun v hv => by obtain ⟨b, _, rfl⟩ := List.mem_map.1 hv; rfl)]
      clear hu hu'
      induction s with
      | nil => exact LR.nil J
      | cons c y ih => exact LR.cons (.int _ _) ih
  · cases he

/-- 'append' where there is room -/
theorem run_append_in {t u e : TypeId} {ts : Array TypeId} {ty : TypeId} {d : TypeDesc} {i : TI} (hE : EnvOK E P G) (ht : P.underlying t = some (.slice e)) (hu : P.underlying u = some d) (hd : rowLike d = true) (hi : E.ty e = some i)
    (h0 : ts[0]? = some t) (h1 : ts[1]? = some u) {base : Option Addr} {sLen cap n : Nat} {v' : Value} {l : List Value} {w' : World} (hl : (Builtin.lenOf v').run P w = .ok n w) (hf : (Builtin.firstCells i.size n v').run P w = .ok l.toArray w) (hroom : sLen + n ≤ cap)
    (hst : ∀ a, base = some a → (storeCells (a.add (sLen * i.size)) l).run P w = .ok () w') (hb : base = none → w' = w) :
    (Builtin.append_ ts ty #[.slice base sLen cap, v']).run P w = .ok (.slice base (sLen + n) cap) w' := by
  unfold Builtin.append_
  cases base with
  | none =>
    have := hb rfl
    subst this
    cases d <;> first | exact absurd hd Bool.false_ne_true | simp [h0, h1, run_underlying ht, run_underlying hu, run_sizeOf_of hE hi, hl, hroom, hf]
  | some a =>
    have := hst a rfl
    cases d <;> first | exact absurd hd Bool.false_ne_true | simp [h0, h1, run_underlying ht, run_underlying hu, run_sizeOf_of hE hi, hl, hroom, hf, this]

/-- 'append' where there is none -/
theorem run_append_out {t u e : TypeId} {ts : Array TypeId} {ty : TypeId} {d : TypeDesc} {i : TI} (hE : EnvOK E P G) (ht : P.underlying t = some (.slice e)) (hu : P.underlying u = some d) (hd : rowLike d = true) (hi : E.ty e = some i)
    (h0 : ts[0]? = some t) (h1 : ts[1]? = some u) {base : Option Addr} {sLen cap n : Nat} {v' : Value} {o l : List Value} (hz : i.zero.cells.length = i.size) (hl : (Builtin.lenOf v').run P w = .ok n w) (hf : (Builtin.firstCells i.size n v').run P w.drew = .ok l.toArray w.drew)
    (ho : (Builtin.firstCells i.size sLen (.slice base sLen cap)).run P w.drew = .ok o.toArray w.drew) (hlo : o.length = sLen * i.size) (hll : l.length = n * i.size) (hroom : cap < sLen + n) (hlim : (sLen + n) * (i.bytes + 1) ≤ 35184372088832) :
    ∃ row cap', (Builtin.append_ ts ty #[.slice base sLen cap, v']).run P w = .ok (.slice (some ⟨w.heap.size, 0, none⟩) (sLen + n) cap') (w.drew.alloc (.cells row e)) ∧ row.toList.take ((sLen + n) * i.size) = o ++ l ∧ row.size = cap' * i.size ∧ sLen + n ≤ cap' := by
  obtain ⟨y, y1, _, _, y4, _⟩ := hE.ty hi
  obtain ⟨z, z1, z2⟩ := run_zero_of (w := w.drew) (J := G) hE hi
  have hzs : z.cells.size = i.size := by rw [size_of_LR z2.cells, hz]
  have hn : ¬ (sLen + n ≤ cap) := by omega
  have e1 : sLen + n ≤ (sLen + n) * (i.bytes + 1) := Nat.le_mul_of_pos_right _ (by omega)
  have e2 : (sLen + n) * i.bytes ≤ (sLen + n) * (i.bytes + 1) := Nat.mul_le_mul_left _ (by omega)
  have h63' : ¬ (9223372036854775807 < ((sLen : Int) + (n : Int))) := by omega
  have h48 := growslice_fits (need := sLen + n) (old := cap) (bytes := i.bytes) hroom (by omega)
  have h48' : ¬ (281474976710656 < Builtin.nextslicecap (sLen + n) cap * i.bytes) := by omega
  have hs := run_sizeOf_of (w := w) hE hi
  have hgc : sLen + n ≤ grownCap w (sLen + n) cap e := grownCap_ge _ _ _ _
  refine ⟨(o ++ l).toArray ++ Builtin.zeroCells z.cells (grownCap w (sLen + n) cap e - (sLen + n)), grownCap w (sLen + n) cap e, ?_, ?_, ?_, hgc⟩
  · unfold Builtin.append_
    cases d <;> first | exact absurd hd Bool.false_ne_true | (simp [h0, h1, run_underlying ht, run_underlying hu, hs, typeInfo, y1, y4, hl, hn, h63', h48', Question.forced, hf, ho, z1, newRow, grownCap]; congr 2; apply Array.ext'; simp)
  · have : ((o ++ l).toArray ++ Builtin.zeroCells z.cells (grownCap w (sLen + n) cap e - (sLen + n))).toList = (o ++ l) ++ (Builtin.zeroCells z.cells (grownCap w (sLen + n) cap e - (sLen + n))).toList := by simp
    rw [this, takeAppend _ (by simp [hlo, hll, Nat.add_mul])]
  · simp only [Array.size_append, size_zeroCells, hzs]
    have : (o ++ l).toArray.size = (sLen + n) * i.size := by simp [hlo, hll, Nat.add_mul]
    rw [this, ← Nat.add_mul]
    congr 1; omega

/-- a new row to append by -/
theorem row_tok (hW : W J h w) {el : TypeId} {es : List AV} {sz cap : Nat} {cs : Array Value} (hpos : 0 < sz) (hsz : ∀ e ∈ es, e.cells.length = sz) (hl : LR J (cellsOfAll es) (cs.toList.take (cellsOfAll es).length)) (hcs : cs.size = cap * sz) (hcap : es.length ≤ cap) (hemp : es = [] → cap = 0) :
    ∃ J', VR J' (.vl (some (h.new none (.tok el)).1) es) (.slice (some ⟨w.heap.size, 0, none⟩) es.length cap) ∧ W J' (h.new none (.tok el)).2 (w.alloc (.cells cs el)) ∧ Ext none J h w J' (h.new none (.tok el)).2 (w.alloc (.cells cs el)) := by
  have hcell := cellsOfAll_length hsz
  have hle : (cellsOfAll es).length ≤ cs.size := by rw [hcell, hcs]; exact Nat.mul_le_mul_right _ hcap
  obtain ⟨J', o1, o2, o3, o4, o5, o6, o7⟩ := new_tok (x := none) (el := el) hW trivial (c := cellsOfAll es) (cs := cs) hl hle
  refine ⟨J', ?_, o6, o7⟩
  refine VR.vl (sz := sz) (fun j => cs.toList.getD j undef) hpos hsz
      (fun j hj => by
        rw [Nat.zero_add]
        refine o5 j _ hj ?_
        have : j < cs.size := by omega
        simp [List.getD, this])
      (fun j hj => by
        have := (hl.mono o4).2 j hj (by simp; omega)
        have hlt : j < cs.size := by omega
        simp only [List.getElem_take] at this
        simpa [List.getD, hlt] using this) hcap
      (fun t ht => by cases ht; exact ⟨o1, by rw [o2, hcell]; omega, by rw [o3, hcs]; omega⟩) (.inr rfl) (fun he => .inr (hemp he))

theorem row_cells (hW : W J h w) {el : TypeId} {c : List AV} {ag : Bool} {n sz cap : Nat} {cs : Array Value} (hpos : 0 < sz) (hc : c.length = n * sz) (hl : LR J c (cs.toList.take c.length)) (hcs : cs.size = cap * sz) (hcap : n ≤ cap) :
    ∃ J', VR J' (.sl sz ag (h.new none (.cells el c)).1 0 n) (.slice (some ⟨w.heap.size, 0, none⟩) n cap) ∧ W J' (h.new none (.cells el c)).2 (w.alloc (.cells cs el)) ∧ Ext none J h w J' (h.new none (.cells el c)).2 (w.alloc (.cells cs el)) := by
  have hle : c.length ≤ cs.size := by rw [hc, hcs]; exact Nat.mul_le_mul_right _ hcap
  obtain ⟨J', o1, o2, o3, o4, o5⟩ := new_cells (x := none) (el := el) hW trivial (c := c) (cs := cs) hl hle
  exact ⟨J', .sl o1 hpos (by rw [o2, hc]; omega) hcap (by rw [o3, hcs]; omega) (.inr rfl), o4, o5⟩

theorem Ext.weak {x : Option Nat} {J : K} {h : H} {w : World} {J1 : K} {h1 : H} {w1 : World} (a : Ext none J h w J1 h1 w1) : Ext x J h w J1 h1 w1 := a.weaken

theorem append_ok (hE : EnvOK E P G) (hW : W J h w) {wide : Bool} {t u : TypeId} {s v : AV} {s' v' : Value} (hs : VR J s s') (hv : VR J v v') {r : AV × H} (e : appendOp E wide h t u s v = some r) {ts : Array TypeId} {ty : TypeId} (h0 : ts[0]? = some t) (h1 : ts[1]? = some u) :
    Does P x J h w (do pure (.value (← Builtin.append_ ts ty #[s', v']))) r.1 r.2 := by
  unfold appendOp at e
  simp only [Option.bind_eq_some_iff] at e
  obtain ⟨ti, hti, ui, hui, e⟩ := e
  obtain ⟨_, _, t2, _⟩ := hE.ty hti
  obtain ⟨_, _, u2, _⟩ := hE.ty hui
  split at e
  · rename_i el hdt
    have t2' : P.underlying t = some (.slice el) := by rw [t2, hdt]
    simp only [Option.bind_eq_some_iff] at e
    obtain ⟨new, hnew, ei, hei, e⟩ := e
    split at e
    · rename_i hq
      simp only [Bool.and_eq_true, decide_eq_true_eq] at hq
      obtain ⟨⟨⟨hnd, huni⟩, hpos, hzs⟩, hones⟩ := hq
      have huni' := uniform_iff.1 huni
      have hncl := cellsOfAll_length huni'
      obtain ⟨l, l1, l2, l3⟩ := elems_ok (P := P) hE hW hei hv hnew huni
      obtain ⟨ld, _, d2, d3⟩ := elems_ok (P := P) hE hW.drew hei hv hnew huni
      have hlone := l3.ones hones
      have hdl : ld.length = new.length * ei.size := by rw [← d3.1, hncl]
      have hll : l.length = new.length * ei.size := by rw [← l3.1, hncl]
      split at e
      · -- nil
        cases hs
        split at e
        · rename_i hemp
          cases e
          have hn0 : new = [] := by simpa using hemp
          subst hn0
          have hl0 : l = [] := l3.nil_inv
          subst hl0
          have hrun := run_append_in (w' := w) (ty := ty) hE t2' u2 hnd hei h0 h1 (base := none) (sLen := 0) (cap := 0) l1 l2 (by simp) (fun a q => by cases q) (fun _ => rfl)
          exact .quiet hW ⟨_, hrun, .nils⟩
        · rename_i hne
          have hne' : new ≠ [] := by simpa using hne
          have hnpos : 0 < new.length := List.length_pos_iff.2 hne'
          split at e
          · rename_i hlim
            obtain ⟨row, cap', hrun, r1, r2, r3⟩ := run_append_out (ty := ty) hE t2' u2 hnd hei h0 h1 (base := none) (sLen := 0) (cap := 0) (o := []) hzs l1 d2 rfl (by simp) hdl (by omega) (by simpa using hlim)
            simp only [Nat.zero_add, List.nil_append] at hrun r1 r3
            have hLR : LR J (cellsOfAll new) (row.toList.take (cellsOfAll new).length) := by rw [hncl, r1]; exact d3
            split at e
            · cases e
              obtain ⟨J', a1, a2, a3⟩ := row_cells (h := h) (el := el) (ag := ei.ag) hW.drew hpos hncl hLR r2 r3
              exact ⟨J', _, _, by simp only [Sem.run_bind, hrun, Result.andThen_ok, Sem.run_pure, World.size_drew], .inl ⟨_, rfl, a1⟩, a2, (Ext.drew J h w).trans a3.weaken⟩
            · cases e
              obtain ⟨J', a1, a2, a3⟩ := row_tok (h := h) (el := el) hW.drew hpos huni' hLR r2 r3 (fun q => absurd q hne')
              exact ⟨J', _, _, by simp only [Sem.run_bind, hrun, Result.andThen_ok, Sem.run_pure, World.size_drew], .inl ⟨_, rfl, a1⟩, a2, (Ext.drew J h w).trans a3.weaken⟩
          · cases e
      · -- a row nobody writes
        rename_i tk es
        split at e
        · rename_i hemp
          cases e
          have hn0 : new = [] := by simpa using hemp
          subst hn0
          have hl0 : l = [] := l3.nil_inv
          subst hl0
          cases hs with
          | vl f hp hsz hi hvv hcap htk ha hem =>
            rename_i b off cap sz ad
            have hrun := run_append_in (w' := w) (ty := ty) hE t2' u2 hnd hei h0 h1 (base := some ad) (sLen := es.length) (cap := cap) l1 l2 (by simpa using hcap) (fun a q => rfl) (fun q => by cases q)
            exact .quiet hW ⟨_, hrun, .vl f hp hsz hi hvv hcap htk ha hem⟩
        · rename_i hne
          have hne' : new ≠ [] := by simpa using hne
          have hnpos : 0 < new.length := List.length_pos_iff.2 hne'
          split at e
          · rename_i hlim
            simp only [Option.bind_eq_some_iff] at e
            obtain ⟨e', htok, e⟩ := e
            split at e
            · rename_i hq
              obtain ⟨rfl, hue⟩ := hq
              cases e
              have hue' := uniform_iff.1 hue
              have hecl := cellsOfAll_length hue'
              have hall : ∀ y ∈ es ++ new, y.cells.length = ei.size := fun y hy => by
                rcases List.mem_append.1 hy with hy | hy
                · exact hue' y hy
                · exact huni' y hy
              have hget := H.tok?_eq.1 htok
              cases hs with
              | vl f hp hsz hi hvv hcap htk ha hem =>
                rename_i b off cap sz ad
                obtain ⟨k1, k2, k3⟩ := htk tk rfl
                have hae : ad = ⟨b, off, none⟩ := ha.resolve_left (fun q => by cases q.2)
                subst hae
                obtain ⟨li1, li2⟩ := lies_imm hW hi hvv
                by_cases hroom : es.length + new.length ≤ cap
                · have hesne : es ≠ [] := fun q => by
                    rcases hem q with h | h
                    · cases h
                    · omega
                  have hszz : sz = ei.size := by
                    obtain ⟨y, hy⟩ := List.exists_mem_of_ne_nil es hesne
                    rw [← hsz y hy, hue' y hy]
                  subst hszz
                  obtain ⟨ob, g1, cs, lo, hi', rfl, b1, b2, b3, b4, b5⟩ := hW.live hget k1
                  have hend : off + es.length * ei.size + new.length * ei.size ≤ cs.size := by
                    have : (es.length + new.length) * ei.size ≤ cap * ei.size := Nat.mul_le_mul_right _ hroom
                    rw [Nat.add_mul] at this
                    omega
                  have hst := run_storeCells_open P b (off + es.length * ei.size) e' lo hi' l 0 cs w g1 (fun k hk _ q => by rcases b3 with b3 | b3 <;> omega) (by omega) hlone
                  simp only [Nat.add_zero] at hst
                  have hrun := run_append_in (ty := ty) hE t2' u2 hnd hei h0 h1 (base := some ⟨b, off, none⟩) (sLen := es.length) (cap := cap) l1 l2 hroom (fun a q => by cases q; rw [add_none]; exact hst) (fun q => by cases q)
                  have hrow := putList_get l cs.toList (off + es.length * ei.size) (by simp; omega)
                  have hrsz : (putList cs.toList (off + es.length * ei.size) l).toArray.size = cs.size := by simp [putList_length]
                  have hnewb := setRow_heap w b cs (putList cs.toList (off + es.length * ei.size) l).toArray e' (lo, hi') g1
                  have himmlt : ∀ y u, J.imm b y = some u → y < off + es.length * ei.size ∧ cs[y]? = some u := fun y u hy => by
                    constructor
                    · rcases Nat.lt_or_ge y (J.ext tk) with hlt | hge
                      · omega
                      · rw [b4 y hge] at hy; cases hy
                    · obtain ⟨cs', el', fz', q1, q2⟩ := hW.imm hy
                      rw [g1] at q1; cases q1
                      exact q2
                  obtain ⟨n1, n2, n3⟩ := hW.renew (x := x) (w' := w.setRow b (putList cs.toList (off + es.length * ei.size) l).toArray) (len := cs.size) (ext := off + es.length * ei.size + new.length * ei.size) (f := fun y => if y < off + es.length * ei.size + new.length * ei.size then (putList cs.toList (off + es.length * ei.size) l)[y]? else none) (o' := .tok e') hget k1 rfl rfl rfl (by simp) (fun k hk => setRow_other w b k _ hk) hnewb
                    ⟨_, lo, hi', rfl, by rw [K.put_len, hrsz], by rw [K.put_ext, hrsz]; exact hend, by rw [K.put_ext]; rcases b3 with b3 | b3 <;> omega, fun o ho => by rw [K.put_ext] at ho; rw [K.put_imm, if_neg (by omega)], b5⟩
                    (fun y u hy => by
                      obtain ⟨c1, c2⟩ := himmlt y u hy
                      rw [if_pos (by omega), hrow y, if_neg (by omega)]
                      simpa using c2)
                    (fun y u hy => by
                      split at hy
                      · exact ⟨_, _, _, rfl, by simpa using hy⟩
                      · cases hy) b5
                  refine ⟨_, _, .value (.slice (some ⟨b, off, none⟩) (es.length + new.length) cap), by simp only [Sem.run_bind, hrun, Result.andThen_ok, Sem.run_pure], .inl ⟨_, rfl, ?_⟩, n2, n3⟩
                  have hcat := cellsOfAll_length hall
                  rw [List.length_append, Nat.add_mul] at hcat
                  have hcells : cellsOfAll (es ++ new) = cellsOfAll es ++ cellsOfAll new := cellsOfAll_append _ _
                  have := VR.vl (J := J.put h.next b cs.size (off + es.length * ei.size + new.length * ei.size) (fun y => if y < off + es.length * ei.size + new.length * ei.size then (putList cs.toList (off + es.length * ei.size) l)[y]? else none))
                    (tk := some h.next) (es := es ++ new) (b := b) (off := off) (cap := cap) (sz := ei.size) (a := ⟨b, off, none⟩) (fun j => (putList cs.toList (off + es.length * ei.size) l).getD (off + j) undef) hpos hall
                    (fun j hj => by
                      rw [hcat] at hj
                      have hlt : off + j < (putList cs.toList (off + es.length * ei.size) l).length := by rw [putList_length]; simp; omega
                      rw [K.put_imm, if_pos (by omega), List.getElem?_eq_getElem hlt]
                      simp [List.getD, hlt])
                    (fun j hj => by
                      rw [hcat] at hj
                      have hgd : (putList cs.toList (off + es.length * ei.size) l).getD (off + j) undef = (if off + es.length * ei.size ≤ off + j ∧ off + j < off + es.length * ei.size + l.length then l[off + j - (off + es.length * ei.size)]? else cs.toList[off + j]?).getD undef := by simp only [List.getD, hrow]
                      rw [hgd]
                      simp only [hcells]
                      by_cases hje : j < (cellsOfAll es).length
                      · rw [List.getElem_append_left hje, if_neg (by omega)]
                        have := himmlt _ _ (hi j hje)
                        rw [Array.getElem?_toList, this.2]
                        exact (hvv j hje).mono n3.le
                      · rw [List.getElem_append_right (by omega), if_pos (by omega)]
                        have hlt : off + j - (off + es.length * ei.size) < l.length := by omega
                        rw [List.getElem?_eq_getElem hlt]
                        have := (l3.mono n3.le).2 (j - (cellsOfAll es).length) (by omega) (by omega)
                        have hix : off + j - (off + es.length * ei.size) = j - (cellsOfAll es).length := by omega
                        simp only [Option.getD_some, hix]
                        exact this)
                    (by simpa using hroom)
                    (fun t ht => by cases ht; exact ⟨K.put_self, by rw [K.put_ext, List.length_append, Nat.add_mul]; omega, by rw [K.put_len]; omega⟩) (.inr rfl) (fun q => by simp [hne'] at q)
                  rw [List.length_append] at this
                  rw [n1]
                  exact this
                · have hoc : (Builtin.firstCells ei.size es.length (.slice (some ⟨b, off, none⟩) es.length cap)).run P w.drew = .ok ((List.range (cellsOfAll es).length).map f).toArray w.drew := by
                    refine run_loadCells_lies (w := w.drew) li2 ?_
                    rw [← li1.1, hecl]
                  obtain ⟨row, cap', hrun, r1, r2, r3⟩ := run_append_out (ty := ty) hE t2' u2 hnd hei h0 h1 (base := some ⟨b, off, none⟩) (sLen := es.length) (cap := cap) hzs l1 d2 hoc (by rw [← li1.1, hecl]) hdl (by omega) hlim
                  obtain ⟨q1, q2⟩ := hW.drew.killed (x := x) k1
                  have hcat := cellsOfAll_length hall
                  rw [List.length_append] at hcat
                  have hLR : LR J (cellsOfAll (es ++ new)) (row.toList.take (cellsOfAll (es ++ new)).length) := by
                    rw [hcat, r1, cellsOfAll_append]; exact li1.append d3
                  obtain ⟨J', a1, a2, a3⟩ := row_tok (el := e') q1 hpos hall hLR r2 (by rw [List.length_append]; exact r3) (fun q => by simp [hne'] at q)
                  rw [List.length_append] at a1
                  exact ⟨J', _, _, by simp only [Sem.run_bind, hrun, Result.andThen_ok, Sem.run_pure, World.size_drew], .inl ⟨_, rfl, a1⟩, a2, ((Ext.drew J h w).trans q2).trans a3.weaken⟩
            · cases e
          · cases e
      · -- a row that may be written
        rename_i sz ag id off len
        split at e
        · rename_i hemp
          cases e
          have hn0 : new = [] := by simpa using hemp
          subst hn0
          have hl0 : l = [] := l3.nil_inv
          subst hl0
          cases hs with
          | sl hb hp hl hcap hext ha =>
            rename_i cap b ad
            have hrun := run_append_in (w' := w) (ty := ty) hE t2' u2 hnd hei h0 h1 (base := some ad) (sLen := len) (cap := cap) l1 l2 (by simpa using hcap) (fun a q => rfl) (fun q => by cases q)
            exact .quiet hW ⟨_, hrun, .sl hb hp hl hcap hext ha⟩
        · rename_i hne
          have hne' : new ≠ [] := by simpa using hne
          have hnpos : 0 < new.length := List.length_pos_iff.2 hne'
          split at e
          · rename_i hlim
            simp only [Option.bind_eq_some_iff] at e
            obtain ⟨c, hc, e⟩ := e
            split at e
            · rename_i hq
              obtain ⟨rfl, rfl, hclen, rfl⟩ := hq
              cases e
              have hget := H.cells?_eq.1 hc
              have hcat : (c.2 ++ cellsOfAll new).length = (len + new.length) * ei.size := by rw [List.length_append, hclen, hncl, Nat.add_mul]
              cases hs with
              | sl hb hp hl hcap hext ha =>
                rename_i cap b ad
                obtain ⟨ob, g1, cs, lo, hi', rfl, b1, b2, b3, b4, b5, b6, b7⟩ := hW.live hget hb
                by_cases hroom : len + new.length ≤ cap
                · have hae : ad = ⟨b, 0, none⟩ := ha.resolve_left (by omega)
                  subst hae
                  have hend : len * ei.size + new.length * ei.size ≤ cap * ei.size := by rw [← Nat.add_mul]; exact Nat.mul_le_mul_right _ hroom
                  have hst := run_storeCells_open P b (len * ei.size) c.1 lo hi' l 0 cs w g1 (fun k hk hk' => b5 k (by omega)) (by omega) hlone
                  simp only [Nat.add_zero] at hst
                  have hrun := run_append_in (ty := ty) hE t2' u2 hnd hei h0 h1 (base := some ⟨b, 0, none⟩) (sLen := len) (cap := cap) l1 l2 hroom (fun a q => by cases q; rw [add_none, Nat.zero_add]; exact hst) (fun q => by cases q)
                  have hrow := putList_get l cs.toList (len * ei.size) (by simp; omega)
                  have hrsz : (putList cs.toList (len * ei.size) l).toArray.size = cs.size := by simp [putList_length]
                  have hnewb := setRow_heap w b cs (putList cs.toList (len * ei.size) l).toArray c.1 (lo, hi') g1
                  have hle' : J.le (J.put h.next b (c.2 ++ cellsOfAll new).length cs.size noImm) := K.le_put (hW.fresh (Nat.le_refl _)) (fun o v e => by rw [b6] at e; cases e)
                  obtain ⟨n1, n2, n3⟩ := hW.renew (x := x) (w' := w.setRow b (putList cs.toList (len * ei.size) l).toArray) (len := (c.2 ++ cellsOfAll new).length) (ext := cs.size) (f := noImm) (o' := .cells c.1 (c.2 ++ cellsOfAll new)) hget hb rfl rfl rfl (by simp) (fun k hk => setRow_other w b k _ hk) hnewb
                    ⟨_, lo, hi', rfl, by rw [K.put_len], by rw [hrsz, hcat, Nat.add_mul]; omega, by rw [K.put_ext, hrsz], by
                      have hLR : LR J (c.2 ++ cellsOfAll new) (cs.toList.take c.2.length ++ l) := b4.append l3
                      have : (putList cs.toList (len * ei.size) l).toArray.toList.take (c.2 ++ cellsOfAll new).length = cs.toList.take c.2.length ++ l := by
                        apply List.ext_getElem?
                        intro j
                        rw [hcat]
                        simp only [List.toList_toArray] 
                        rw [List.getElem?_take, hrow j]
                        by_cases hj : j < (len + new.length) * ei.size
                        · rw [if_pos hj]
                          rw [Nat.add_mul] at hj
                          by_cases hj2 : len * ei.size ≤ j
                          · rw [if_pos (by omega), List.getElem?_append_right (by simp; omega)]
                            congr 1
                            simp; omega
                          · rw [if_neg (by omega), List.getElem?_append_left (by simp; omega), List.getElem?_take, if_pos (by omega)]
                        · rw [if_neg hj, List.getElem?_eq_none]
                          rw [Nat.add_mul] at hj
                          simp; omega
                      rw [this]
                      exact hLR.mono hle', by rw [hrsz]; exact b5, fun o => K.put_imm, b7⟩
                    (fun y u hy => by rw [b6] at hy; cases hy) (fun y u hy => by cases hy) b7
                  refine ⟨_, _, .value (.slice (some ⟨b, 0, none⟩) (len + new.length) cap), by simp only [Sem.run_bind, hrun, Result.andThen_ok, Sem.run_pure], .inl ⟨_, rfl, ?_⟩, n2, n3⟩
                  rw [n1]
                  exact .sl K.put_self hp (by rw [K.put_len, hcat]; omega) hroom (by rw [K.put_ext]; omega) (.inr rfl)
                · obtain ⟨lc, c1, c2⟩ := lies_obj hW hc hb
                  have hoc : (Builtin.firstCells ei.size len (.slice (some ad) len cap)).run P w.drew = .ok lc.toArray w.drew := by
                    by_cases h00 : len = 0
                    · subst h00
                      have : lc = [] := by
                        apply List.eq_nil_of_length_eq_zero
                        rw [← c1.1, hclen]; simp
                      subst this
                      simp [Builtin.firstCells, loadCells, loadCellsFrom]
                    · have hae : ad = ⟨b, 0, none⟩ := ha.resolve_left (by omega)
                      subst hae
                      exact run_loadCells_lies (w := w.drew) c2 (by rw [← c1.1, hclen])
                  obtain ⟨row, cap', hrun, r1, r2, r3⟩ := run_append_out (ty := ty) hE t2' u2 hnd hei h0 h1 (base := some ad) (sLen := len) (cap := cap) hzs l1 d2 hoc (by rw [← c1.1, hclen]) hdl (by omega) hlim
                  obtain ⟨q1, q2⟩ := hW.drew.killed (x := x) hb
                  have hLR : LR J (c.2 ++ cellsOfAll new) (row.toList.take (c.2 ++ cellsOfAll new).length) := by
                    rw [hcat, r1]; exact c1.append d3
                  obtain ⟨J', a1, a2, a3⟩ := row_cells (el := c.1) (ag := ag) q1 hpos hcat hLR r2 r3
                  exact ⟨J', _, _, by simp only [Sem.run_bind, hrun, Result.andThen_ok, Sem.run_pure, World.size_drew], .inl ⟨_, rfl, a1⟩, a2, ((Ext.drew J h w).trans q2).trans a3.weaken⟩
            · cases e
          · cases e
      · cases e
    · cases e
  · cases e
end
end Go.Kal
end

section
namespace Go.Kal
open Go

section
variable {E : Env} {P : Program} {G J : K} {h : H} {w : World} {fr : T AV} {nt : Nat} {a : Act} {x : Option Nat}

theorem H.set_self {h : H} {i : Nat} {o : Obj} (hi : h.get i = some o) (j : Nat) : (h.set i o).get j = h.get j := by
  rw [H.get_set]
  split
  · rename_i e; rw [e, hi]
  · rfl

theorem run_loadBytes_of : ∀ (ns : List Int) (b off : Nat) (acc : ByteArray), Lies w b off (ns.map (Value.int .u8)) →
    (loadBytes ⟨b, off, none⟩ acc ns.length).run P w = .ok ⟨acc.data ++ (ns.map fun n => UInt8.ofNat n.toNat).toArray⟩ w
  | [], b, off, acc, _ => by simp [loadBytes]
  | n :: ns, b, off, acc, h => by
    have h0 : w.cell? ⟨b, off, none⟩ = some (.int .u8 n) := by
      have := h 0 _ rfl
      simpa using this
    have ih := run_loadBytes_of ns b (off + 1) (acc.push n.toNat.toUInt8) (fun j v hj => by
      have := h (j + 1) v (by simpa using hj)
      rw [Nat.add_assoc, Nat.add_comm 1 j]; exact this)
    simp only [List.length_cons, loadBytes, Sem.run_bind, run_load, h0, Result.andThen, add_none]
    rw [ih]
    congr 1
    apply ByteArray.ext
    simp [ByteArray.push]

theorem lies_bytes (hc : P.cellsOf E.byteT = 1) (count off n : Nat) (hn : off + n ≤ count) : liesAt P P.depth E.byteT count off E.byteT n = true := by
  have hd : P.depth = (2 * (P.types.size + Made.depth) + 1) + 1 := rfl
  rw [hd]
  simp only [liesAt, Bool.or_eq_true]
  left
  rw [hd]
  simp [rowAt, hc, hn, sameLayout, Nat.mod_one]

theorem unsafeString_ok (hE : EnvOK E P G) (hW : W J h w) {tk : Nat} {cs : List AV} {p' n' : Value} (hp : VR J (.pel tk cs) p') {nv : AV} (hn : VR J nv n') {n : Nat} (en : asNat nv = some n) {t : TypeId} {ti : TI} (hti : E.ty t = some ti) (hd : ti.desc = .pointer E.byteT)
    (htok : h.tok? tk = some E.byteT) (h0 : 0 < n) (hle : n ≤ cs.length) {bs : List UInt8} (hbs : optAll byteOf (cs.take n) = some bs) (hbig : n ≤ 9223372036854775807) {ts : Array TypeId} {ty : TypeId} (ht : ts[0]? = some t) :
    Does P x J h w (do pure (.value (← Builtin.unsafeString_ ts ty #[p', n']))) (.str bs) h := by
  obtain ⟨_, _, t2, _⟩ := hE.ty hti
  obtain ⟨k, rfl, _⟩ := asNat_ok hn en
  cases hp with
  | pel f hb hi hv =>
    rename_i b off
    have hget := H.tok?_eq.1 htok
    obtain ⟨ob, g1, row, lo, hi', rfl, b1, b2, b3, b4, b5⟩ := hW.live hget hb
    obtain ⟨l1, l2⟩ := lies_imm hW hi hv
    have hlt : off + n ≤ J.ext tk := by
      rcases Nat.lt_or_ge (J.ext tk) (off + n) with hlt | hge
      · have := hi (n - 1) (by omega)
        rw [b4 (off + (n - 1)) (by omega)] at this
        cases this
      · exact hge
    obtain ⟨ns, e1, e2⟩ := bytes_ok (l1.take n) hbs
    have hnl : ns.length = n := by
      have := congrArg List.length e1
      simp at this
      omega
    have hload := run_loadBytes_of (P := P) (w := w) ns b off .empty (by rw [← e1]; exact l2.take n)
    rw [hnl] at hload
    have hsh : w.shape? b = some (E.byteT, row.size) := by simp [World.shape?, g1]
    have hlies := lies_bytes (P := P) hE.byte1 (row.size / P.cellsOf E.byteT) off n (by rw [hE.byte1]; simp; omega)
    have hmax : IntKind.i64.max = 9223372036854775807 := rfl
    have h63' : ¬ (9223372036854775807 : Int) < (n : Int) := by omega
    have hneg : ¬ (n : Int) < 0 := by omega
    have hnz : n ≠ 0 := by omega
    have hbs' : ByteArray.mk (ByteArray.empty.data ++ (ns.map fun n => UInt8.ofNat n.toNat).toArray) = ByteArray.mk ⟨bs⟩ := by
      rw [e2]; simp [ByteArray.empty, ByteArray.emptyWithCapacity]; rfl
    rw [hbs'] at hload
    have hrun : (Builtin.unsafeString_ ts ty #[.pointer (some ⟨b, off, none⟩), .int k n]).run P w = .ok (.string ⟨⟨bs⟩⟩) (w.freeze ⟨b, off, none⟩ n) := by
      have hdef : Builtin.unsafeString_ ts ty #[.pointer (some ⟨b, off, none⟩), .int k n] =
          (do
            let n ← asInt (.int k n)
            let some pt := ts[0]? | stuck "unsafe.String: no argument types"
            if n < 0 then runtimePanic (.error "unsafe.String: len out of range")
            if n > IntKind.i64.max then unsupported (.unsafePointer "String: a length above the largest int")
            if n = 0 then pure (.string .empty)
            else if ← variablesAt ⟨b, off, none⟩ (← elemOf pt) n.toNat then do
              let s ← loadBytes ⟨b, off, none⟩ .empty n.toNat
              Go.freeze ⟨b, off, none⟩ n.toNat
              pure (.string s)
            else unsupported (.unsafePointer "String: not so many bytes at ptr")) := rfl
      rw [hdef]
      simp [asInt, asIntOf, hmax, h63', hneg, hnz, variablesAt, hsh, elemOf, ht, run_underlying t2, hd, hlies, hload]
    have hfz : ∃ fz : Nat × Nat, (fz.1 = fz.2 ∨ fz.2 ≤ J.ext tk) ∧ (w.freeze ⟨b, off, none⟩ n).heap[b]? = some (.cells row E.byteT fz) := by
      unfold World.freeze
      rw [if_neg hnz]
      simp only [Array.getElem?_modify, g1, if_true, Option.map_some]
      refine ⟨_, ?_, rfl⟩
      right
      split
      · exact hlt
      · rename_i hne
        have : ¬ lo = hi' := by simpa using hne
        rcases b3 with b3 | b3
        · exact absurd b3 this
        · exact Nat.max_le.2 ⟨b3, hlt⟩
    obtain ⟨⟨flo, fhi⟩, fz1, fz2⟩ := hfz
    have hsame : ∀ q, q ≠ b → (w.freeze ⟨b, off, none⟩ n).heap[q]? = w.heap[q]? := fun q hq => by
      unfold World.freeze
      rw [if_neg hnz]
      simp only [Array.getElem?_modify]
      rw [if_neg (fun e => hq e.symm)]
    have hsz : (w.freeze ⟨b, off, none⟩ n).heap.size = w.heap.size := by unfold World.freeze; rw [if_neg hnz]; simp
    have hos : (w.freeze ⟨b, off, none⟩ n).os = w.os := by unfold World.freeze; rw [if_neg hnz]
    have htp : (w.freeze ⟨b, off, none⟩ n).tape = w.tape := by unfold World.freeze; rw [if_neg hnz]
    have hou : (w.freeze ⟨b, off, none⟩ n).output = w.output := by unfold World.freeze; rw [if_neg hnz]
    obtain ⟨t1, t2'⟩ := hW.turn (x := x) (o' := .tok E.byteT) hget hb hos htp hou hsz hsame fz2 ⟨row, flo, fhi, rfl, b1, b2, fz1, b4, b5⟩
      (fun y v hy => by
        obtain ⟨cs', el', fz', q1, q2⟩ := hW.imm hy
        rw [g1] at q1; cases q1
        exact ⟨_, _, _, rfl, q2⟩) b5
    refine ⟨J, _, .value (.string ⟨⟨bs⟩⟩), by simp only [Sem.run_bind, hrun, Result.andThen_ok, Sem.run_pure], .inl ⟨_, rfl, .str _⟩, t1.congr (fun i => (H.set_self hget i).symm) rfl, t2'.congr (fun i => (H.set_self hget i).symm) rfl⟩
end
end Go.Kal
end

section
namespace Go.Kal
open Go

section
variable {E : Env} {P : Program} {G J : K} {h : H} {w : World} {fr : T AV} {nt : Nat} {a : Act} {x : Option Nat}

def evP (a : Act) (p : Nat × Operand) : Nat × Value := (p.1, a.eval p.2)
theorem evP_eq (a : Act) (l : List (Nat × Operand)) : (l.map fun (i, x) => (i, a.eval x)) = l.map (evP a) := rfl

theorem parts_LR (hE : EnvOK E P G) (hG : G.le J) (hF : FR J fr nt a.tmps) : ∀ {l : List (Nat × Operand)} {r : List (Nat × AV)}, optAll (fun p => (ev E fr p.2).bind fun v => some (p.1, v)) l = some r →
    r.length = l.length ∧ ∀ j (h : j < r.length) (h' : j < (l.map (evP a)).length), r[j].1 = (l.map (evP a))[j].1 ∧ VR J r[j].2 (l.map (evP a))[j].2
  | [], r, e => by cases e; exact ⟨rfl, fun j h => absurd h (by simp)⟩
  | (i, o) :: l, r, e => by
    obtain ⟨b, y, h1, h2, rfl⟩ := optAll_cons.1 e
    simp only [Option.bind_eq_some_iff, Option.some.injEq] at h1
    obtain ⟨v, h3, rfl⟩ := h1
    obtain ⟨k1, k2⟩ := parts_LR hE hG hF h2
    refine ⟨by simp [k1], fun j h h' => ?_⟩
    cases j with
    | zero => exact ⟨rfl, ev_VR hE hG hF h3⟩
    | succ j => exact k2 j (by simpa using h) (by simpa using h')

theorem args1 {l : List AV} {as' : Array Value} {v : AV} (hl : LR J [v] as'.toList) : ∃ v', as' = #[v'] ∧ VR J v v' := by
  obtain ⟨v', t, e, h1, h2⟩ := hl.uncons
  have := h2.nil_inv
  subst this
  exact ⟨v', Array.ext' (by simpa using e), h1⟩
theorem args2 {as' : Array Value} {u v : AV} (hl : LR J [u, v] as'.toList) : ∃ u' v', as' = #[u', v'] ∧ VR J u u' ∧ VR J v v' := by
  obtain ⟨u', t, e, h1, h2⟩ := hl.uncons
  obtain ⟨v', t', e', h3, h4⟩ := h2.uncons
  have := h4.nil_inv
  subst this e'
  exact ⟨u', v', Array.ext' (by simpa using e), h1, h3⟩

theorem okBuiltin (hE : EnvOK E P G) (hW : W J h w) {wide : Bool} {b : Builtin} {ts : Array TypeId} {ty : TypeId} {cs : Array Bool} {as : List AV} {as' : Array Value} (hl : LR J as as'.toList) {r : AV × H} (e : Kal.builtin E wide h b ts.toList as = some r) :
    Does P x J h w (Go.builtin b ts ty cs as') r.1 r.2 := by
  unfold Kal.builtin at e
  split at e
  · rename_i t u tl s v hts
    obtain ⟨s', v', rfl, h1, h2⟩ := args2 hl
    have t0 : ts[0]? = some t := by rw [← Array.getElem?_toList, hts]; rfl
    have t1 : ts[1]? = some u := by rw [← Array.getElem?_toList, hts]; rfl
    exact append_ok hE hW h1 h2 e t0 t1
  · rename_i t tl v hts
    obtain ⟨v', rfl, h1⟩ := args1 (l := []) hl
    have t0 : ts[0]? = some t := by rw [← Array.getElem?_toList, hts]; rfl
    simp only [Option.bind_eq_some_iff, Option.some.injEq] at e
    obtain ⟨n, hn, rfl⟩ := e
    exact .quiet hW ⟨_, len_ok hE hW h1 hn t0, .int _ _⟩
  · rename_i v l
    obtain ⟨v', t', e', h1, h2⟩ := hl.uncons
    simp only [Option.bind_eq_some_iff, Option.some.injEq] at e
    obtain ⟨n, hn, rfl⟩ := e
    obtain ⟨u', g1, g2⟩ := fold_ok (P := P) (w := w) (g := Builtin.max2) (fun _ _ _ _ _ p q r => max2_ok p q r) h1 h2 hn
    refine .quiet hW ⟨u', ?_, g2⟩
    unfold Builtin.max_
    rw [e']
    exact g1
  · rename_i v l
    obtain ⟨v', t', e', h1, h2⟩ := hl.uncons
    simp only [Option.bind_eq_some_iff, Option.some.injEq] at e
    obtain ⟨n, hn, rfl⟩ := e
    obtain ⟨u', g1, g2⟩ := fold_ok (P := P) (w := w) (g := Builtin.min2) (fun _ _ _ _ _ p q r => min2_ok p q r) h1 h2 hn
    refine .quiet hW ⟨u', ?_, g2⟩
    unfold Builtin.min_
    rw [e']
    exact g1
  · rename_i t tl sz ag id off len hts
    obtain ⟨v', rfl, h1⟩ := args1 (l := []) hl
    have t0 : ts[0]? = some t := by rw [← Array.getElem?_toList, hts]; rfl
    simp only [Option.bind_eq_some_iff] at e
    obtain ⟨ti, hti, e⟩ := e
    split at e
    · rename_i el hd
      simp only [Option.bind_eq_some_iff] at e
      obtain ⟨ei, hei, e⟩ := e
      split at e
      · rename_i hq
        simp only [Option.bind_eq_some_iff, Option.some.injEq] at e
        obtain ⟨c, hc, c', hp, rfl⟩ := e
        exact clear_ok hE hW hti hd hei h1 hq.2.2 hq.2.1 hc hp t0
      · cases e
    · cases e
  · rename_i t tl hts
    obtain ⟨v', rfl, h1⟩ := args1 (l := []) hl
    have t0 : ts[0]? = some t := by rw [← Array.getElem?_toList, hts]; rfl
    simp only [Option.bind_eq_some_iff] at e
    obtain ⟨ti, hti, e⟩ := e
    obtain ⟨_, _, t2, _⟩ := hE.ty hti
    split at e
    · rename_i el hd
      cases e
      cases h1
      refine .quiet hW ⟨.tuple #[], ?_, undefR J⟩
      simp [Builtin.clear_, t0, run_underlying t2, hd]
    · cases e
  · rename_i t es
    obtain ⟨v', rfl, h1⟩ := args1 (l := []) hl
    split at e
    · cases e
    · rename_i hne
      cases e
      exact .quiet hW (sliceData_ok h1 (by simpa using hne))
  · obtain ⟨v', rfl, h1⟩ := args1 (l := []) hl
    cases e; cases h1
    exact .quiet hW ⟨.pointer none, rfl, .nilp⟩
  · rename_i t tl n hts
    obtain ⟨p', n', rfl, h1, h2⟩ := args2 hl
    simp only [Option.bind_eq_some_iff] at e
    obtain ⟨m, hm, e⟩ := e
    split at e
    · rename_i hz
      subst hz
      cases e
      cases h1
      obtain ⟨k, rfl, _⟩ := asNat_ok h2 hm
      have t0 : ts[0]? = some t := by rw [← Array.getElem?_toList, hts]; rfl
      refine .quiet hW ⟨.string ⟨⟨[]⟩⟩, ?_, .str _⟩
      have hdef : Builtin.unsafeString_ ts ty #[.pointer none, .int k (0 : Nat)] =
          (do
            let n ← asInt (.int k (0 : Nat))
            let some _ := ts[0]? | stuck "unsafe.String: no argument types"
            if n < 0 then runtimePanic (.error "unsafe.String: len out of range")
            if n > IntKind.i64.max then unsupported (.unsafePointer "String: a length above the largest int")
            if n = 0 then pure (.string .empty)
            else runtimePanic (.error "unsafe.String: ptr is nil and len is not zero")) := rfl
      rw [hdef]
      have hmax : IntKind.i64.max = 9223372036854775807 := rfl
      simp [asInt, asIntOf, hmax, t0]
      rfl
    · cases e
  · rename_i t tl tk l n hts
    obtain ⟨p', n', rfl, h1, h2⟩ := args2 hl
    have t0 : ts[0]? = some t := by rw [← Array.getElem?_toList, hts]; rfl
    simp only [Option.bind_eq_some_iff] at e
    obtain ⟨ti, hti, m, hm, e⟩ := e
    split at e
    · rename_i el hd
      simp only [Option.bind_eq_some_iff] at e
      obtain ⟨e', htok, e⟩ := e
      split at e
      · rename_i hq
        obtain ⟨rfl, rfl, q1, q2, q3⟩ := hq
        simp only [Option.bind_eq_some_iff, Option.some.injEq] at e
        obtain ⟨bs, hbs, rfl⟩ := e
        exact unsafeString_ok hE hW h1 h2 hm hti hd htok q1 q2 hbs q3 t0
      · cases e
    · cases e
  · cases e

theorem plain_ok (hE : EnvOK E P G) (hG : G.le J) (hW : W J h w) (hF : FR J fr nt a.tmps) (hp : Place J h x) {wide : Bool} {o : Oper} {r : AV × H} (e : plain E wide x fr h o = some r) : Does P x J h w (execOp a.eval o) r.1 r.2 := by
  have hev : ∀ y v, ev E fr y = some v → VR J v (a.eval y) := fun y v q => ev_VR hE hG hF q
  unfold plain at e
  unfold execOp
  split at e
  · -- move
    rename_i y ho
    simp only [ho]
    simp only [Option.bind_eq_some_iff, Option.some.injEq] at e
    obtain ⟨v, hv, rfl⟩ := e
    exact .quietN hW ⟨_, rfl, hev _ _ hv⟩
  · rename_i y ho
    simp only [ho]
    simp only [Option.bind_eq_some_iff, Option.some.injEq] at e
    obtain ⟨v, hv, rfl⟩ := e
    exact .quietN hW ⟨_, rfl, hev _ _ hv⟩
  · -- pick
    rename_i c y z ho
    simp only [ho]
    simp only [Option.bind_eq_some_iff] at e
    obtain ⟨cv, hc, e⟩ := e
    split at e
    · rename_i t
      simp only [Option.bind_eq_some_iff, Option.some.injEq] at e
      obtain ⟨v, hv, rfl⟩ := e
      have hc' := hev _ _ hc
      generalize a.eval c = c' at hc'
      cases hc'
      refine .quietN hW ⟨if t then a.eval y else a.eval z, by simp [asBool], ?_⟩
      cases t
      · exact hev _ _ hv
      · exact hev _ _ hv
    · cases e
  · -- alloc
    rename_i t ho
    simp only [ho]
    simp only [Option.bind_eq_some_iff, Option.some.injEq] at e
    obtain ⟨i, hi, rfl⟩ := e
    exact alloc_ok hE hW hp hi
  · -- box
    rename_i t y ho
    simp only [ho]
    simp only [Option.bind_eq_some_iff, Option.some.injEq] at e
    obtain ⟨v, hv, rfl⟩ := e
    exact box_ok hW hp (hev _ _ hv)
  · -- build
    rename_i t ps ho
    simp only [ho]
    simp only [Option.bind_eq_some_iff, Option.some.injEq] at e
    obtain ⟨ps', hps, v, hv, rfl⟩ := e
    obtain ⟨k1, k2⟩ := parts_LR hE hG hF hps
    exact .quiet hW (build_ok hE (by simpa using k1) (fun j h h' => by have := k2 j h (by simpa using h'); simpa [evP] using this) hv)
  · -- buildSlice
    rename_i t len ps ho
    simp only [ho]
    simp only [Option.bind_eq_some_iff] at e
    obtain ⟨ti, hti, e⟩ := e
    split at e
    · rename_i el hd
      simp only [Option.bind_eq_some_iff] at e
      obtain ⟨ei, hei, ps', hps, e⟩ := e
      split at e
      · rename_i hq
        obtain ⟨q1, q2, q3⟩ := hq
        simp only [Option.bind_eq_some_iff] at e
        obtain ⟨es, hes, e⟩ := e
        obtain ⟨k1, k2⟩ := parts_LR hE hG hF hps
        have := buildSlice_ok (x := x) (ps' := ps.map fun (i, x) => (i, a.eval x)) hE hW hp hti hd hei (len := len) (by simpa using k1) (fun j h h' => by have := k2 j h (by simpa using h'); simpa [evP] using this) q1 q2 q3 hes wide
        cases wide
        · cases e; exact this
        · cases e; exact this
      · cases e
    · cases e
  · -- load
    rename_i t y ho
    simp only [ho]
    simp only [Option.bind_eq_some_iff, Option.some.injEq] at e
    obtain ⟨p, hpv, v, hv, rfl⟩ := e
    exact .quiet hW (load_ok hE hW (hev _ _ hpv) hv)
  · -- store
    rename_i t y z ho
    simp only [ho]
    simp only [Option.bind_eq_some_iff, Option.some.injEq] at e
    obtain ⟨p, hpv, v, hv, h', hh, rfl⟩ := e
    exact store_ok hE hW (hev _ _ hpv) (hev _ _ hv) hh
  · -- nilCheck
    rename_i y ho
    simp only [Option.bind_eq_some_iff, Option.some.injEq] at e
    obtain ⟨v, hv, u, hu, rfl⟩ := e
    obtain ⟨g1, g2⟩ := nilCheck_ok (P := P) (w := w) (hev _ _ hv) hu ho rfl
    unfold execOp at g1
    subst g2
    exact .quietN hW ⟨_, g1, hev _ _ hv⟩
  · -- binOp
    rename_i op t y z yt ho
    simp only [ho]
    simp only [Option.bind_eq_some_iff, Option.some.injEq] at e
    obtain ⟨u, hu, v, hv, q, hq, rfl⟩ := e
    exact .quiet hW (binOp_ok hE (hev _ _ hu) (hev _ _ hv) hq)
  · rename_i op t y ho
    simp only [ho]
    simp only [Option.bind_eq_some_iff, Option.some.injEq] at e
    obtain ⟨u, hu, v, hv, rfl⟩ := e
    exact .quiet hW (unOp_ok (hev _ _ hu) hv)
  · rename_i s d y ho
    simp only [ho]
    simp only [Option.bind_eq_some_iff] at e
    obtain ⟨u, hu, e⟩ := e
    exact convert_ok hE hW (hev _ _ hu) e
  · -- makeInterface
    rename_i t y ho
    simp only [ho]
    simp only [Option.bind_eq_some_iff] at e
    obtain ⟨u, hu, i, hi, e⟩ := e
    split at e
    · cases e
    · rename_i hn
      cases e
      exact .quiet hW ⟨_, makeIface_ok hE hi hn (hev _ _ hu), .ifc (hev _ _ hu)⟩
  · -- makeFunc
    rename_i f y z ho
    simp only [ho]
    simp only [Option.bind_eq_some_iff] at e
    obtain ⟨u, hu, v, hv, e⟩ := e
    split at e
    · cases e
    · rename_i hn
      cases e
      have l1 := evs_LR hE hG hF hu
      have l2 := evs_LR hE hG hF hv
      refine .quiet hW ⟨.func f (y.map a.eval) (z.map a.eval), rfl, .fn (fun l q => hn l q) (by simpa using l1.1) (by simpa using l2.1) (fun j h h' => ?_) (fun j h h' => ?_)⟩
      · have := l1.2 j h (by simpa using h'); simpa using this
      · have := l2.2 j h (by simpa using h'); simpa using this
  · -- makeMap
    rename_i t r' ho
    simp only [ho]
    split at e
    · cases e
      exact makeMap_ok hW hp
    · cases e
  · -- makeSlice
    rename_i t y z ho
    simp only [ho]
    simp only [Option.bind_eq_some_iff] at e
    obtain ⟨ti, hti, e⟩ := e
    split at e
    · rename_i el hd
      simp only [Option.bind_eq_some_iff] at e
      obtain ⟨ei, hei, l, hl, c, hc, l', hl', c', hc', e⟩ := e
      split at e
      · rename_i hq
        obtain ⟨q1, q2, q3, q4⟩ := hq
        cases e
        obtain ⟨kl, e1, _⟩ := asNat_ok (hev _ _ hl) hl'
        obtain ⟨kc, e2, _⟩ := asNat_ok (hev _ _ hc) hc'
        rw [e1, e2]
        exact makeSlice_ok hE hW hp hti hd hei q1 q2 q3 q4
      · cases e
    · cases e
  · -- slice
    rename_i t y lo hi mx ho
    split at e
    · cases e
    · simp only [ho]
      simp only [Option.bind_eq_some_iff, Option.some.injEq] at e
      obtain ⟨u, hu, l, hl, v, hv, rfl⟩ := e
      exact .quiet hW (sliceOp_ok hE hW (hev _ _ hu) hev hl hv)
  · -- fieldAddr
    rename_i t y f ho
    simp only [ho]
    simp only [Option.bind_eq_some_iff, Option.some.injEq] at e
    obtain ⟨u, hu, v, hv, rfl⟩ := e
    exact .quiet hW (fieldAddr_ok hE (hev _ _ hu) hv)
  · -- field
    rename_i t y f ho
    simp only [ho]
    simp only [Option.bind_eq_some_iff] at e
    obtain ⟨u, hu, ti, hti, e⟩ := e
    split at e
    · rename_i fs cs hd
      simp only [Option.bind_eq_some_iff, Option.some.injEq] at e
      obtain ⟨fd, hfd, fi, hfi, v, hv, rfl⟩ := e
      exact .quiet hW (field_ok hE hti hd hfd hfi (hev _ _ hu) hv)
    · cases e
  · -- indexAddr
    rename_i t y i ho
    simp only [ho]
    simp only [Option.bind_eq_some_iff, Option.some.injEq] at e
    obtain ⟨u, hu, k, hk, v, hv, rfl⟩ := e
    exact .quiet hW (indexAddr_ok hE (hev _ _ hu) (hev _ _ hk) hv)
  · rename_i t y i ho
    simp only [ho]
    simp only [Option.bind_eq_some_iff, Option.some.injEq] at e
    obtain ⟨u, hu, k, hk, v, hv, rfl⟩ := e
    exact .quiet hW (indexOp_ok hE (hev _ _ hu) (hev _ _ hk) hv)
  · -- lookup
    rename_i t y i ok ho
    simp only [ho]
    simp only [Option.bind_eq_some_iff, Option.some.injEq] at e
    obtain ⟨u, hu, k, hk, v, hv, rfl⟩ := e
    exact .quiet hW (lookup_ok hE hW (hev _ _ hu) (hev _ _ hk) hv)
  · -- mapUpdate
    rename_i t m k y ho
    simp only [ho]
    simp only [Option.bind_eq_some_iff, Option.some.injEq] at e
    obtain ⟨u, hu, k, hk, v, hv, h', hh, rfl⟩ := e
    exact mapUpdate_ok hE hW (hev _ _ hu) (hev _ _ hk) (hev _ _ hv) hh
  · rename_i t m k y ho
    simp only [ho]
    simp only [Option.bind_eq_some_iff, Option.some.injEq] at e
    obtain ⟨u, hu, k, hk, v, hv, h', hh, rfl⟩ := e
    exact mapUpdate_ok hE hW (hev _ _ hu) (hev _ _ hk) (hev _ _ hv) hh
  · -- range
    rename_i t y ho
    simp only [ho]
    simp only [Option.bind_eq_some_iff] at e
    obtain ⟨u, hu, ti, hti, e⟩ := e
    split at e
    · rename_i s hd
      cases e
      exact rangeStr_ok hE hW hp hti hd (hev _ _ hu)
    · rename_i kt el m hd
      simp only [Option.bind_eq_some_iff] at e
      obtain ⟨es, hes, e⟩ := e
      split at e
      · rename_i hle
        cases e
        exact rangeMap_ok hE hW hp hti hd (hev _ _ hu) hes hle
      · cases e
    · cases e
  · -- next
    rename_i it isS ho
    simp only [ho]
    simp only [Option.bind_eq_some_iff] at e
    obtain ⟨u, hu, e⟩ := e
    split at e
    · rename_i q
      simp only [Option.bind_eq_some_iff] at e
      obtain ⟨ob, hob, e⟩ := e
      split at e
      · rename_i s pos
        have := nextStr_ok (P := P) (x := x) hW (hev _ _ hu) hob o.type
        split at e
        · rename_i hlt
          rw [if_pos hlt, if_pos hlt] at this
          cases e; exact this
        · rename_i hlt
          rw [if_neg hlt, if_neg hlt] at this
          cases e; exact this
      · rename_i m left
        simp only [Option.bind_eq_some_iff] at e
        obtain ⟨es, hes, e⟩ := e
        split at e
        · cases e
          exact nextMap_over hW (hev _ _ hu) hob hes (.inl ⟨rfl, rfl⟩) _
        · cases e
          exact nextMap_over hW (hev _ _ hu) hob hes (.inr ⟨rfl, _, rfl⟩) _
        · cases e
          exact nextMap_step hW (hev _ _ hu) hob hes _
        · cases e
      · cases e
    · cases e
  · -- entry
    rename_i it ho
    simp only [ho]
    simp only [Option.bind_eq_some_iff] at e
    obtain ⟨u, hu, e⟩ := e
    split at e
    · simp only [Option.bind_eq_some_iff] at e
      obtain ⟨ob, hob, e⟩ := e
      split at e
      · simp only [Option.bind_eq_some_iff] at e
        obtain ⟨es, hes, e⟩ := e
        split at e
        · cases e
          exact .quiet hW (entry_ok hW (hev _ _ hu) hob hes)
        · cases e
      · cases e
    · cases e
  · -- typeAssert
    rename_i y yt asserted ok ho
    simp only [ho]
    simp only [Option.bind_eq_some_iff] at e
    obtain ⟨u, hu, i, hi, e⟩ := e
    have he : assertA i asserted ok u = some r.1 ∧ r.2 = h := by
      unfold assertA
      split at e
      · cases e
      · rename_i hd hn
        split at e
        · rename_i hok
          cases e
          refine ⟨?_, rfl⟩
          cases hd' : i.desc <;> first | exact absurd hd' (hn _) | simp [hok]
        · cases e
      · rename_i t v hd hn
        split at e
        · rename_i ht
          cases e
          refine ⟨?_, rfl⟩
          cases hd' : i.desc <;> first | exact absurd hd' (hn _) | simp [ht]
        · rename_i ht
          split at e
          · rename_i hok
            cases e
            refine ⟨?_, rfl⟩
            cases hd' : i.desc <;> first | exact absurd hd' (hn _) | simp [ht, hok]
          · cases e
      · cases e
    obtain ⟨e1, e2⟩ := he
    rw [e2]
    exact .quiet hW (assert_ok hE hi (hev _ _ hu) e1)
  · -- extract
    rename_i t i ho
    simp only [ho]
    simp only [Option.bind_eq_some_iff] at e
    obtain ⟨u, hu, e⟩ := e
    split at e
    · simp only [Option.bind_eq_some_iff, Option.some.injEq] at e
      obtain ⟨v, hv, rfl⟩ := e
      exact .quiet hW (extract_ok (hev _ _ hu) hv)
    · cases e
  · -- builtin
    rename_i c ho
    simp only [ho]
    split at e
    · rename_i b hc
      simp only [Option.bind_eq_some_iff] at e
      obtain ⟨as, has, e⟩ := e
      have l1 := evs_LR hE hG hF has
      simp only [resolve, hc, pure_bind, invoke]
      exact okBuiltin hE hW (by simpa using l1) e
    · cases e
  · cases e
end
end Go.Kal
end
