/-
Regions that draw their order; the interpreter is sound.
-/
import Derived.Test.YtacoaajilnpeiaaGreatDoorKe
import Derived.Orders
import Derived.Test.YtacoaajilnpeiaaGreatDoorKd

set_option linter.unusedVariables false
set_option linter.unusedSimpArgs false

section
namespace Go.Kal
open Go

/-- a list that has each operation once, each behind those that it is to follow -/
inductive Sched (ops : Array Oper) : (Nat → Bool) → List Nat → Prop
  | nil {D : Nat → Bool} (h : ∀ i, i < ops.size → D i = true) : Sched ops D []
  | cons {D : Nat → Bool} {i : Nat} {o : Oper} {l : List Nat} (hi : D i = false) (ho : ops[i]? = some o) (he : ∀ e ∈ o.after, Region.binds .any e = true → D e.on = true) (t : Sched ops (fun j => decide (j = i) || D j) l) : Sched ops D (i :: l)

theorem sched_go {ops : Array Oper} (hback : ∀ i o, ops[i]? = some o → ∀ e ∈ o.after, Region.binds .any e = true → e.on < i) : ∀ (fuel t : Nat) (listed : Array Bool), listed.size = ops.size → listed.toList.count false = fuel → Sched ops (fun i => listed.getD i false) (Region.linearise.go .any ops fuel t listed [])
  | 0, t, listed, hs, hc => by
    simp only [Region.linearise.go, List.reverse_nil]
    refine .nil fun i hi => ?_
    have hi' : i < listed.size := by omega
    have hm : listed[i] ∈ listed.toList := by simp
    cases hq : listed[i] with
    | true => simp [hi', hq]
    | false =>
      rw [hq] at hm
      exact absurd hc (by have := List.count_pos_iff.2 hm; omega)
  | fuel + 1, t, listed, hs, hc => by
    have hne : Region.ready .any ops listed ≠ [] := by
      have hleast : ∀ i : Nat, listed[i]? = some false → ∃ j, j ∈ Region.ready .any ops listed := by
        intro i
        induction i using Nat.strongRecOn with
        | ind i ih =>
          intro hi
          have hlt : i < listed.size := (Array.getElem?_eq_some_iff.1 hi).1
          by_cases hall : ∀ e ∈ (ops[i]'(by omega)).after, Region.binds .any e = true → listed.getD e.on false = true
          · exact ⟨i, mem_ready.2 ⟨by simp [Array.getD_eq_getD_getElem?, hi], _, Array.getElem?_eq_getElem (by omega), hall⟩⟩
          · simp only [Classical.not_forall] at hall
            obtain ⟨e, he, hb, hf⟩ := hall
            have hlt' := hback i _ (Array.getElem?_eq_getElem (by omega)) e he hb
            refine ih e.on hlt' ?_
            rw [Array.getD_eq_getD_getElem?] at hf
            rw [Array.getElem?_eq_getElem (by omega)] at hf ⊢
            simpa using hf
      have hpos : 0 < listed.toList.count false := by omega
      obtain ⟨i, hi, hq⟩ := List.getElem_of_mem (List.count_pos_iff.1 hpos)
      obtain ⟨j, hj⟩ := hleast i (by rw [← Array.getElem?_toList, List.getElem?_eq_getElem hi, hq])
      intro h0
      rw [h0] at hj
      simp at hj
    simp only [Region.linearise.go]
    change Sched ops _ (match (Region.ready .any ops listed)[t % (Region.ready .any ops listed).length]? with
      | some i => Region.linearise.go .any ops fuel (t / (Region.ready .any ops listed).length) (listed.setIfInBounds i true) [i]
      | none => [].reverse)
    have hlt : t % (Region.ready .any ops listed).length < (Region.ready .any ops listed).length := Nat.mod_lt _ (List.length_pos_iff.2 hne)
    rw [List.getElem?_eq_getElem hlt]
    generalize hi : (Region.ready .any ops listed)[t % (Region.ready .any ops listed).length] = i
    have hmem : i ∈ Region.ready .any ops listed := by rw [← hi]; exact List.getElem_mem _
    obtain ⟨hl, o, ho, he⟩ := mem_ready.1 hmem
    have hilt : i < ops.size := (Array.getElem?_eq_some_iff.1 ho).1
    have hli : listed[i]'(by omega) = false := by
      rw [Array.getD_eq_getD_getElem?, Array.getElem?_eq_getElem (by omega)] at hl
      simpa using hl
    simp only []
    rw [linearise_go_acc, List.reverse_singleton, List.singleton_append]
    refine .cons (by rw [Array.getD_eq_getD_getElem?, Array.getElem?_eq_getElem (by omega)]; simpa using hli) ho he ?_
    have := sched_go hback fuel (t / (Region.ready .any ops listed).length) (listed.setIfInBounds i true) (by simp [hs]) (by
      have hpos : 0 < listed.toList.count false := by omega
      rw [Array.toList_setIfInBounds, List.count_set (by simp; omega)]
      have e1 : listed.toList[i]'(by simp; omega) = false := by simpa using hli
      rw [e1]
      simp only [beq_self_eq_true, if_true]
      rw [if_neg (by simp)]
      omega)
    have hD : (fun j => (listed.setIfInBounds i true).getD j false) = (fun j => decide (j = i) || listed.getD j false) := by
      funext j
      rw [Array.getD_eq_getD_getElem?, Array.getD_eq_getD_getElem?, Array.getElem?_setIfInBounds]
      by_cases hj : i = j
      · subst hj
        simp [show i < listed.size by omega]
      · simp [hj, show ¬ j = i from fun q => hj q.symm]
    rw [← hD]
    exact this

theorem sched_schedule {ops : Array Oper} (hback : ∀ i o, ops[i]? = some o → ∀ e ∈ o.after, Region.binds .any e = true → e.on < i) (t : Nat) : Sched ops (fun _ => false) (Region.schedule true ops t) := by
  have := sched_go hback ops.size t (Array.replicate ops.size false) (by simp) (by simp [List.count_replicate])
  have hD : (fun i => (Array.replicate ops.size false).getD i false) = (fun _ => false) := by
    funext i
    rw [Array.getD_eq_getD_getElem?, Array.getElem?_replicate]
    split <;> rfl
  rw [hD] at this
  exact this

/-- the operations that one is to follow, as bits -/
def edgeMask (prev : List Nat) : List Edge → Nat
  | [] => 0
  | e :: es => if Region.binds .any e then edgeMask prev es ||| (2 ^ e.on ||| prev.getD e.on 0) else edgeMask prev es
def masks : List Oper → List Nat → List Nat
  | [], prev => prev
  | o :: os, prev => masks os (prev ++ [edgeMask prev o.after.toList])

theorem edgeMask_bit {prev : List Nat} {j : Nat} : ∀ {es : List Edge}, (edgeMask prev es).testBit j = true → ∃ e ∈ es, Region.binds .any e = true ∧ (e.on = j ∨ (prev.getD e.on 0).testBit j = true)
  | [], h => by simp [edgeMask] at h
  | e :: es, h => by
    simp only [edgeMask] at h
    split at h
    · rename_i hb
      rw [Nat.testBit_or, Nat.testBit_or, Nat.testBit_two_pow] at h
      simp only [Bool.or_eq_true, decide_eq_true_eq] at h
      rcases h with h | h | h
      · obtain ⟨e', a, b⟩ := edgeMask_bit h; exact ⟨e', by simp [a], b⟩
      · exact ⟨e, by simp, hb, .inl h⟩
      · exact ⟨e, by simp, hb, .inr h⟩
    · obtain ⟨e', a, b⟩ := edgeMask_bit h; exact ⟨e', by simp [a], b⟩

theorem masks_at : ∀ (os : List Oper) (prev : List Nat), (masks os prev).take prev.length = prev ∧ ∀ i o, os[i]? = some o → (masks os prev).getD (prev.length + i) 0 = edgeMask ((masks os prev).take (prev.length + i)) o.after.toList
  | [], prev => ⟨by simp [masks], fun i o h => by simp at h⟩
  | o :: os, prev => by
    obtain ⟨h1, h2⟩ := masks_at os (prev ++ [edgeMask prev o.after.toList])
    simp only [List.length_append, List.length_cons, List.length_nil, Nat.zero_add] at h1 h2
    have h0 : (masks os (prev ++ [edgeMask prev o.after.toList])).take prev.length = prev := by
      have := congrArg (·.take prev.length) h1
      simp only [List.take_take] at this
      rw [show min prev.length (prev.length + 1) = prev.length by omega] at this
      rw [this]
      simp
    refine ⟨h0, fun i o' ho => ?_⟩
    cases i with
    | zero =>
      simp only [List.getElem?_cons_zero, Option.some.injEq] at ho
      subst ho
      simp only [Nat.add_zero, masks]
      rw [h0]
      have := congrArg (·[prev.length]?) h1
      simp only [List.getElem?_take] at this
      rw [if_pos (by omega)] at this
      simp only [List.getElem?_append_right (Nat.le_refl _), Nat.sub_self, List.getElem?_cons_zero] at this
      rw [List.getD_eq_getElem?_getD, this]
      rfl
    | succ i =>
      simp only [List.getElem?_cons_succ] at ho
      have := h2 i o' ho
      simp only [masks]
      rw [show prev.length + (i + 1) = prev.length + 1 + i by omega]
      exact this

def namesOf (ops : Array Oper) (o : Oper) : List Nat := o.dst.toList ++ o.looksAt ops
def ordB (B : List Nat) (i j : Nat) : Bool := (B.getD (max i j) 0).testBit (min i j)
/-- what a region's text is to show: each edge leads back; who names a temporary is ordered to who lays it; what acts is ordered to what acts; who reads, too, or the pair is listed -/
def drawB (inc : List (Nat × Nat)) (ops : Array Oper) : Bool :=
  let B := masks ops.toList []
  let l := ops.toList.zipIdx
  l.all fun p =>
    p.1.after.toList.all (fun e => !Region.binds .any e || decide (e.on < p.2)) &&
    l.all fun q =>
      decide (p.2 = q.2) ||
       ((match q.1.dst with | some t => !((namesOf ops p.1).contains t) || ordB B p.2 q.2 | none => true) &&
        (!(actOp q.1) || ((!(actOp p.1) || ordB B p.2 q.2) && (!(isRange p.1) || ordB B p.2 q.2) && (!(readsOp p.1) || ordB B p.2 q.2 || inc.contains (p.2, q.2)))))

/-- the same, as laws: 'dep i j': i is to come ahead of j -/
structure Stat (inc : List (Nat × Nat)) (ops : Array Oper) (dep : Nat → Nat → Prop) : Prop where
  back : ∀ i o, ops[i]? = some o → ∀ e ∈ o.after, Region.binds .any e = true → e.on < i
  lt : ∀ {i j}, dep i j → i < j
  cl : ∀ {D : Nat → Bool} {i j}, (∀ i o, D i = true → ops[i]? = some o → ∀ e ∈ o.after, Region.binds .any e = true → D e.on = true) → dep i j → D j = true → D i = true
  rdy : ∀ {D : Nat → Bool} {i j o}, (∀ i o, D i = true → ops[i]? = some o → ∀ e ∈ o.after, Region.binds .any e = true → D e.on = true) → ops[j]? = some o → (∀ e ∈ o.after, Region.binds .any e = true → D e.on = true) → dep i j → D i = true
  tmp : ∀ {i j o q t}, ops[i]? = some o → ops[j]? = some q → i ≠ j → q.dst = some t → t ∈ namesOf ops o → dep i j ∨ dep j i
  act : ∀ {i j o q}, ops[i]? = some o → ops[j]? = some q → i ≠ j → actOp o = true → actOp q = true → dep i j ∨ dep j i
  rng : ∀ {i j o q}, ops[i]? = some o → ops[j]? = some q → i ≠ j → isRange o = true → actOp q = true → dep i j ∨ dep j i
  rd : ∀ {i j o q}, ops[i]? = some o → ops[j]? = some q → i ≠ j → readsOp o = true → actOp q = true → (dep i j ∨ dep j i) ∨ (i, j) ∈ inc

theorem stat_of {inc : List (Nat × Nat)} {ops : Array Oper} (h : drawB inc ops = true) : ∃ dep, Stat inc ops dep := by
  obtain ⟨_, hB⟩ := masks_at ops.toList []
  simp only [List.length_nil, Nat.zero_add] at hB
  unfold drawB at h
  generalize hb : masks ops.toList [] = B at h hB
  simp only [List.all_eq_true] at h
  have mem : ∀ {i o}, ops[i]? = some o → (o, i) ∈ ops.toList.zipIdx := fun {i o} ho => by
    rw [List.mem_zipIdx_iff_getElem?]; simpa using ho
  have hback : ∀ i o, ops[i]? = some o → ∀ e ∈ o.after, Region.binds .any e = true → e.on < i := fun i o ho e he hbn => by
    have := h _ (mem ho)
    simp only [Bool.and_eq_true, List.all_eq_true] at this
    have := this.1 e (by simpa using he)
    simpa [hbn] using this
  have hpair : ∀ {i j o q}, ops[i]? = some o → ops[j]? = some q → i ≠ j → _ := fun {i j o q} ho hq hne => by
    have := h _ (mem ho)
    simp only [Bool.and_eq_true, List.all_eq_true] at this
    have := this.2 _ (mem hq)
    simp only [hne, decide_false, Bool.false_or] at this
    exact this
  have hBlen : ∀ i, ops[i]? = none → ∀ k, ((B.getD i 0).testBit k) = false := by
    intro i hi k
    have hlen : ∀ (os : List Oper) (prev : List Nat), (masks os prev).length = prev.length + os.length := by
      intro os
      induction os with
      | nil => intro prev; simp [masks]
      | cons o os ih => intro prev; simp [masks, ih]; omega
    have : B.length = ops.size := by rw [← hb, hlen]; simp
    rw [List.getD_eq_getElem?_getD, List.getElem?_eq_none (by rw [this]; simpa using hi)]
    simp
  have step : ∀ {i j : Nat}, (B.getD j 0).testBit i = true → ∃ o, ops[j]? = some o ∧ ∃ e ∈ o.after, Region.binds .any e = true ∧ (e.on = i ∨ (B.getD e.on 0).testBit i = true) := by
    intro i j hbit
    cases ho : ops[j]? with
    | none => rw [hBlen j ho] at hbit; cases hbit
    | some o =>
      rw [hB j o (by simpa using ho)] at hbit
      obtain ⟨e, he, hbn, hor⟩ := edgeMask_bit hbit
      have hlt := hback j o ho e (by simpa using he) hbn
      refine ⟨o, rfl, e, by simpa using he, hbn, ?_⟩
      rcases hor with hor | hor
      · exact .inl hor
      · right
        rw [List.getD_eq_getElem?_getD, List.getElem?_take, if_pos hlt] at hor
        rw [List.getD_eq_getElem?_getD]
        exact hor
  have hcl : ∀ {D : Nat → Bool}, (∀ i o, D i = true → ops[i]? = some o → ∀ e ∈ o.after, Region.binds .any e = true → D e.on = true) → ∀ {j i : Nat}, (B.getD j 0).testBit i = true → D j = true → D i = true := by
    intro D hD j
    induction j using Nat.strongRecOn with
    | ind j ih =>
      intro i hbit hj
      obtain ⟨o, ho, e, he, hbn, hor⟩ := step hbit
      have hlt := hback j o ho e he hbn
      have he' := hD j o hj ho e he hbn
      rcases hor with rfl | hor
      · exact he'
      · exact ih _ hlt hor he'
  have hord : ∀ {i j : Nat}, ordB B i j = true → i ≠ j → (B.getD j 0).testBit i = true ∨ (B.getD i 0).testBit j = true := by
    intro i j ho hne
    unfold ordB at ho
    rcases Nat.lt_or_gt_of_ne hne with hlt | hlt
    · rw [Nat.max_eq_right (by omega), Nat.min_eq_left (by omega)] at ho; exact .inl ho
    · rw [Nat.max_eq_left (by omega), Nat.min_eq_right (by omega)] at ho; exact .inr ho
  refine ⟨fun i j => (B.getD j 0).testBit i = true, hback, ?_, ?_, ?_, ?_, ?_, ?_, ?_⟩
  · intro i j
    induction j using Nat.strongRecOn with
    | ind j ih =>
      intro hbit
      obtain ⟨o, ho, e, he, hbn, hor⟩ := step hbit
      have hlt := hback j o ho e he hbn
      rcases hor with rfl | hor
      · exact hlt
      · have := ih _ hlt hor; omega
  · intro D i j hD hbit hj
    exact hcl hD hbit hj
  · intro D i j o hD ho hr hbit
    obtain ⟨o', ho', e, he, hbn, hor⟩ := step hbit
    rw [ho] at ho'
    cases ho'
    have he' := hr e he hbn
    rcases hor with rfl | hor
    · exact he'
    · exact hcl hD hor he'
  · intro i j o q t ho hq hne ht hn
    have := hpair ho hq hne
    simp only [ht, Bool.and_eq_true] at this
    have h1 := this.1
    have hc : (namesOf ops o).contains t = true := by simpa using hn
    rw [hc] at h1
    exact hord (by simpa using h1) hne
  · intro i j o q ho hq hne ha hb
    have := hpair ho hq hne
    simp only [Bool.and_eq_true] at this
    have h1 := this.2
    rw [hb, ha] at h1
    simp only [Bool.not_true, Bool.false_or, Bool.and_eq_true] at h1
    exact hord h1.1.1 hne
  · intro i j o q ho hq hne ha hb
    have := hpair ho hq hne
    simp only [Bool.and_eq_true] at this
    have h1 := this.2
    rw [hb, ha] at h1
    simp only [Bool.not_true, Bool.false_or, Bool.and_eq_true] at h1
    exact hord h1.1.2 hne
  · intro i j o q ho hq hne ha hb
    have := hpair ho hq hne
    simp only [Bool.and_eq_true] at this
    have h1 := this.2
    rw [hb, ha] at h1
    simp only [Bool.not_true, Bool.false_or, Bool.and_eq_true, Bool.or_eq_true] at h1
    rcases h1.2 with h2 | h2
    · exact .inl (hord h2 hne)
    · exact .inr (by simpa using h2)
end Go.Kal
end

section
namespace Go.Kal
open Go

theorem H.sub.refl (h : H) : h.sub h := fun _ _ e => e

section
variable {E : Env} {cv : Cv} {wide : Bool} {rd : Option Nat} {nt : Nat} {ops : Array Oper} {base : Nat}

def trF (l : List Tr) (d : T AV) (i : Nat) : T AV := match l[i]? with | some t => t.fr | none => d
def trH (l : List Tr) (d : H) (i : Nat) : H := match l[i]? with | some t => t.h | none => d

def StepOK (E : Env) (cv : Cv) (wide : Bool) (rd : Option Nat) (ops : Array Oper) (place : Nat) (o : Oper) (t : Tr) : Prop :=
  (t.ran = true ∧ wantedA ops t.fr o = true ∧ (∀ c, o.op ≠ .defer c) ∧ oneOp E cv wide rd (some place) t.fr t.h o = some (.val t.v, t.h')) ∨
  (t.ran = false ∧ wantedA ops t.fr o = false ∧ t.v = undefA ∧ t.h' = t.h)

theorem draw_at : ∀ (os : List Oper) (i0 : Nat) (fr : T AV) (h : H) (tr : List Tr) (r : T AV × H × List Tr), drawList E cv wide rd nt ops base i0 os fr h tr = some r →
    ∃ l : List Tr, r.2.2 = l.reverse ++ tr ∧ l.length = os.length ∧ trF l r.1 0 = fr ∧ trH l r.2.1 0 = h ∧
      ∀ i o, os[i]? = some o → ∃ t, l[i]? = some t ∧ StepOK E cv wide rd ops (base + (i0 + i)) o t ∧ putDst nt t.fr o.dst t.v = some (trF l r.1 (i + 1)) ∧ t.h' = trH l r.2.1 (i + 1)
  | [], i0, fr, h, tr, r, e => by
    simp only [drawList, Option.some.injEq] at e
    subst e
    exact ⟨[], by simp, rfl, rfl, rfl, fun i o ho => by simp at ho⟩
  | o :: os, i0, fr, h, tr, r, e => by
    simp only [drawList] at e
    by_cases hw : wantedA ops fr o = true
    · rw [if_pos hw] at e
      split at e
      · cases e
      · rename_i hnd
        simp only [Option.bind_eq_some_iff] at e
        obtain ⟨q, hq, e⟩ := e
        split at e
        · rename_i v hv
          simp only [Option.bind_eq_some_iff] at e
          obtain ⟨fr', hfr, e⟩ := e
          obtain ⟨l, h1, h2, h3, h4, h5⟩ := draw_at os (i0 + 1) fr' q.2 _ r e
          refine ⟨⟨fr, h, q.2, v, true⟩ :: l, by simp [h1], by simp [h2], rfl, rfl, fun i o' ho => ?_⟩
          cases i with
          | zero =>
            simp only [List.getElem?_cons_zero, Option.some.injEq] at ho
            subst ho
            refine ⟨_, rfl, .inl ⟨rfl, hw, fun c hc => hnd c hc, ?_⟩, ?_, ?_⟩
            · rw [Nat.add_zero, hq, ← hv]
            · rw [hfr]; exact congrArg some h3.symm
            · exact h4.symm
          | succ i =>
            simp only [List.getElem?_cons_succ] at ho
            obtain ⟨t, t1, t2, t3, t4⟩ := h5 i o' ho
            refine ⟨t, by simpa using t1, by rw [show i0 + (i + 1) = i0 + 1 + i by omega]; exact t2, ?_, ?_⟩
            · rw [t3]; rfl
            · rw [t4]; rfl
        · cases e
    · rw [if_neg hw] at e
      simp only [Option.bind_eq_some_iff] at e
      obtain ⟨fr', hfr, e⟩ := e
      obtain ⟨l, h1, h2, h3, h4, h5⟩ := draw_at os (i0 + 1) fr' h _ r e
      refine ⟨⟨fr, h, h, undefA, false⟩ :: l, by simp [h1], by simp [h2], rfl, rfl, fun i o' ho => ?_⟩
      cases i with
      | zero =>
        simp only [List.getElem?_cons_zero, Option.some.injEq] at ho
        subst ho
        refine ⟨_, rfl, .inr ⟨rfl, by simpa using hw, rfl, rfl⟩, ?_, ?_⟩
        · rw [hfr]; exact congrArg some h3.symm
        · exact h4.symm
      | succ i =>
        simp only [List.getElem?_cons_succ] at ho
        obtain ⟨t, t1, t2, t3, t4⟩ := h5 i o' ho
        refine ⟨t, by simpa using t1, by rw [show i0 + (i + 1) = i0 + 1 + i by omega]; exact t2, ?_, ?_⟩
        · rw [t3]; rfl
        · rw [t4]; rfl

/-- what the run in the text's order shows: frames, heaps, values, what ran, what was made -/
structure TraceF (E : Env) (cv : Cv) (wide : Bool) (rd : Option Nat) (nt : Nat) (ops : Array Oper) (base : Nat) (inc : List (Nat × Nat)) (F : Nat → T AV) (Hh : Nat → H) (V : Nat → AV) (Rn : Nat → Bool) (mk : Nat → Option Obj) : Prop where
  ran : ∀ {i o}, ops[i]? = some o → Rn i = true → wantedA ops (F i) o = true ∧ (∀ c, o.op ≠ .defer c) ∧ oneOp E cv wide rd (some (base + i)) (F i) (Hh i) o = some (.val (V i), Hh (i + 1))
  idle : ∀ {i o}, ops[i]? = some o → Rn i = false → wantedA ops (F i) o = false ∧ V i = undefA ∧ Hh (i + 1) = Hh i ∧ mk i = none
  put : ∀ {i o}, ops[i]? = some o → putDst nt (F i) o.dst (V i) = some (F (i + 1))
  mkAct : ∀ {i o}, ops[i]? = some o → actOp o = true → mk i = none
  made : ∀ {i o}, ops[i]? = some o → actOp o = false → Rn i = true → Hh (i + 1) = madeIn (Hh i) (base + i) (mk i)
  read : ∀ {i o}, ops[i]? = some o → actOp o = false → readsOp o = true → Rn i = true → mk i = none ∧ ∀ h2, (Hh i).sub h2 → ∀ x, plain E wide x (F i) h2 o = some (V i, h2)
  make : ∀ {i o}, ops[i]? = some o → actOp o = false → readsOp o = false → Rn i = true → (∀ h2, (isRange o = false ∨ (Hh i).sub h2) → plain E wide (some (base + i)) (F i) h2 o = some (V i, madeIn h2 (base + i) (mk i))) ∧ (mk i = none → ∀ x h2, plain E wide x (F i) h2 o = some (V i, h2))
  same : ∀ {i j o q}, ops[i]? = some o → ops[j]? = some q → (i, j) ∈ inc → readsOp o = true → Rn i = true → Rn j = true → ∀ h2, ((Hh j).sub h2 ∨ (Hh (j + 1)).sub h2) → ∀ x, plain E wide x (F i) h2 o = some (V i, h2)

theorem trace_of {f id : Nat} {fr : T AV} {h : H} {r : T AV × H × List Tr} (e : drawList E cv wide rd nt ops base 0 ops.toList fr h [] = some r) (hs : (E.inc f id).all (sameRead E ops r.2.2) = true) :
    ∃ F Hh V Rn mk, TraceF E cv wide rd nt ops base (E.inc f id) F Hh V Rn mk ∧ F 0 = fr ∧ Hh 0 = h ∧ F ops.size = r.1 ∧ Hh ops.size = r.2.1 := by
  obtain ⟨l, h1, h2, h3, h4, h5⟩ := draw_at _ _ _ _ _ _ e
  simp only [List.append_nil] at h1
  have hlen : l.length = ops.size := by simpa using h2
  have h5' : ∀ {i o}, ops[i]? = some o → ∃ t, l[i]? = some t ∧ StepOK E cv wide rd ops (base + i) o t ∧ putDst nt t.fr o.dst t.v = some (trF l r.1 (i + 1)) ∧ t.h' = trH l r.2.1 (i + 1) := fun {i o} ho => by
    have := h5 i o (by simpa using ho)
    simpa using this
  -- what each operation made
  have hmk : ∀ i, ∃ mo : Option Obj, ∀ o t, ops[i]? = some o → l[i]? = some t → (t.ran = false → mo = none) ∧ (actOp o = true → mo = none) ∧
      (actOp o = false → t.ran = true → t.h' = madeIn t.h (base + i) mo ∧ (readsOp o = true → mo = none ∧ ∀ h2, t.h.sub h2 → ∀ x, plain E wide x t.fr h2 o = some (t.v, h2)) ∧
        (readsOp o = false → (∀ h2, (isRange o = false ∨ t.h.sub h2) → plain E wide (some (base + i)) t.fr h2 o = some (t.v, madeIn h2 (base + i) mo)) ∧ (mo = none → ∀ x h2, plain E wide x t.fr h2 o = some (t.v, h2)))) := by
    intro i
    cases ho : ops[i]? with
    | none => exact ⟨none, fun o t a => by cases a⟩
    | some o =>
      obtain ⟨t, t1, t2, t3, t4⟩ := h5' ho
      by_cases ha : actOp o = true
      · exact ⟨none, fun o' t' a b => by cases a; rw [t1] at b; cases b; exact ⟨fun _ => rfl, fun _ => rfl, fun q => by rw [ha] at q; cases q⟩⟩
      · have ha' : actOp o = false := by simpa using ha
        rcases t2 with ⟨g1, g2, g3, g4⟩ | ⟨g1, g2, g3, g4⟩
        · rw [oneOp_still ha'] at g4
          simp only [Option.bind_eq_some_iff, Option.some.injEq, Prod.mk.injEq, CR.val.injEq] at g4
          obtain ⟨q, hq, hv, hh⟩ := g4
          by_cases hr : readsOp o = true
          · obtain ⟨m1, m2⟩ := reader_mono hr hq
            refine ⟨none, fun o' t' a b => ?_⟩
            cases a; rw [t1] at b; cases b
            refine ⟨fun _ => rfl, fun _ => rfl, fun _ _ => ⟨by rw [← hh, m1]; rfl, fun _ => ⟨rfl, fun h2 hsub x => ?_⟩, fun q' => by rw [hr] at q'; cases q'⟩⟩
            rw [m2 h2 hsub wide x, hv]
          · have hr' : readsOp o = false := by simpa using hr
            obtain ⟨mo, m1, m2, m3⟩ := maker_mono ha' hr' hq
            refine ⟨mo, fun o' t' a b => ?_⟩
            cases a; rw [t1] at b; cases b
            refine ⟨fun q' => (by rw [g1] at q'; cases q'), fun q' => absurd q' ha, fun _ _ => ⟨by rw [← hh, m1], fun q' => absurd q' hr, fun _ => ⟨fun h2 hsub => ?_, fun q' x h2 => ?_⟩⟩⟩
            · rw [m2 h2 hsub, hv]
            · rw [m3 q' x h2, hv]
        · refine ⟨none, fun o' t' a b => ?_⟩
          cases a; rw [t1] at b; cases b
          exact ⟨fun _ => rfl, fun _ => rfl, fun _ q => by rw [g1] at q; cases q⟩
  obtain ⟨mkf, hmk⟩ := Classical.axiomOfChoice hmk
  refine ⟨trF l r.1, trH l r.2.1, fun i => match l[i]? with | some t => t.v | none => undefA, fun i => match l[i]? with | some t => t.ran | none => false, mkf, ?_, h3, h4, ?_, ?_⟩
  · have F_at : ∀ {i t}, l[i]? = some t → trF l r.1 i = t.fr := fun {i t} q => by simp [trF, q]
    have H_at : ∀ {i t}, l[i]? = some t → trH l r.2.1 i = t.h := fun {i t} q => by simp [trH, q]
    refine ⟨?_, ?_, ?_, ?_, ?_, ?_, ?_, ?_⟩
    · intro i o ho hr
      obtain ⟨t, t1, t2, t3, t4⟩ := h5' ho
      simp only [t1] at hr ⊢
      rw [F_at t1, H_at t1]
      rcases t2 with ⟨g1, g2, g3, g4⟩ | ⟨g1, _⟩
      · exact ⟨g2, g3, by rw [g4, t4]⟩
      · rw [hr] at g1; cases g1
    · intro i o ho hr
      obtain ⟨t, t1, t2, t3, t4⟩ := h5' ho
      have hm := (hmk i o t ho t1).1
      simp only [t1] at hr ⊢
      rw [F_at t1, H_at t1]
      rcases t2 with ⟨g1, _⟩ | ⟨g1, g2, g3, g4⟩
      · rw [hr] at g1; cases g1
      · exact ⟨g2, g3, by rw [← t4, g4], hm g1⟩
    · intro i o ho
      obtain ⟨t, t1, t2, t3, t4⟩ := h5' ho
      simp only [t1]
      rw [F_at t1]
      exact t3
    · intro i o ho ha
      obtain ⟨t, t1, t2, t3, t4⟩ := h5' ho
      exact (hmk i o t ho t1).2.1 ha
    · intro i o ho ha hr
      obtain ⟨t, t1, t2, t3, t4⟩ := h5' ho
      simp only [t1] at hr
      rw [H_at t1, ← t4]
      exact ((hmk i o t ho t1).2.2 ha hr).1
    · intro i o ho ha hrd hr
      obtain ⟨t, t1, t2, t3, t4⟩ := h5' ho
      simp only [t1] at hr ⊢
      rw [F_at t1, H_at t1]
      exact ((hmk i o t ho t1).2.2 ha hr).2.1 hrd
    · intro i o ho ha hrd hr
      obtain ⟨t, t1, t2, t3, t4⟩ := h5' ho
      simp only [t1] at hr ⊢
      rw [F_at t1, H_at t1]
      exact ((hmk i o t ho t1).2.2 ha hr).2.2 hrd
    · intro i j o q ho hq hin hrd hri hrj h2 hsub x
      obtain ⟨t, t1, t2, t3, t4⟩ := h5' ho
      obtain ⟨u, u1, u2, u3, u4⟩ := h5' hq
      simp only [t1] at hri ⊢
      simp only [u1] at hrj
      rw [F_at t1]
      rw [H_at u1, ← u4] at hsub
      have hsr := List.all_eq_true.1 hs _ hin
      unfold sameRead at hsr
      have hi : i < ops.size := (Array.getElem?_eq_some_iff.1 ho).1
      have hj : j < ops.size := (Array.getElem?_eq_some_iff.1 hq).1
      have ei : r.2.2[r.2.2.length - 1 - i]? = some t := by
        rw [h1, List.length_reverse, List.getElem?_reverse (by omega), ← t1]
        congr 1
        omega
      have ej : r.2.2[r.2.2.length - 1 - j]? = some u := by
        rw [h1, List.length_reverse, List.getElem?_reverse (by omega), ← u1]
        congr 1
        omega
      simp only [ho, ei, ej, hri, hrj, Bool.and_self, if_true] at hsr
      split at hsr
      · rename_i a b ha hb
        simp only [Bool.and_eq_true] at hsr
        obtain ⟨a1, a2⟩ := reader_mono hrd ha
        obtain ⟨b1, b2⟩ := reader_mono hrd hb
        rcases hsub with hsub | hsub
        · rw [a2 h2 hsub wide x, AV.beq_eq hsr.1]
        · rw [b2 h2 hsub wide x, AV.beq_eq hsr.2]
      · cases hsr
  · simp [trF, List.getElem?_eq_none (show l.length ≤ ops.size by omega)]
  · simp [trH, List.getElem?_eq_none (show l.length ≤ ops.size by omega)]
end
end Go.Kal
end

section
namespace Go.Kal
open Go

/-- memory with fewer objects -/
theorem W.sub {J : K} {h h' : H} {w : World} (hW : W J h w) (hs : ∀ i o, h'.get i = some o → h.get i = some o) (hn : h'.next = h.next) : W J h' w := by
  have hs' : ∀ {i}, (h'.get i).isSome → (h.get i).isSome := by
    intro i e
    obtain ⟨o, ho⟩ := Option.isSome_iff_exists.1 e
    rw [hs _ _ ho]; rfl
  exact ⟨hW.imm, hW.immM, fun a b => hW.live (hs _ _ a) b, fun a b => hW.apart (hs' a) (hs' b), fun a => by rw [hn]; exact hW.ids (hs' a), fun a => hW.fresh (by rw [← hn]; exact a), hW.lt, hW.pin⟩

theorem Ext.sub {x : Option Nat} {J J' : K} {h h1 h2 : H} {w w' : World} (hx : Ext x J h w J' h1 w') (hs : ∀ i, (h2.get i).isSome → (h1.get i).isSome) (hn : h2.next = h1.next) (hsame : ∀ i, i < h.next → h2.get i = h1.get i) : Ext x J h w J' h2 w' :=
  ⟨hx.le, hx.os, hx.tape, hx.output, hx.size, hx.keep, fun a b => hx.own (hs _ a) b, by rw [hn]; exact hx.next, hx.newImm, hx.newImmM, fun a b c => ⟨(hx.still a b c).1, by rw [hsame _ c]; exact (hx.still a b c).2⟩⟩

theorem Ext.trans' {J : K} {h : H} {w : World} {J1 : K} {h1 : H} {w1 : World} {J2 : K} {h2 : H} {w2 : World} {y : Nat} (a : Ext none J h w J1 h1 w1) (b : Ext (some y) J1 h1 w1 J2 h2 w2) (hy : h.next ≤ y) : Ext none J h w J2 h2 w2 where
  le := a.le.trans b.le
  os := b.os.trans a.os
  tape := b.tape.trans a.tape
  output := b.output.trans a.output
  size := Nat.le_trans a.size b.size
  keep := fun {x} hx hn => by
    rw [b.keep (Nat.lt_of_lt_of_le hx a.size) ?_, a.keep hx hn]
    intro id hid e
    rcases a.own hid e with h | ⟨i, h, k⟩
    · omega
    · exact hn i h k
  own := fun {id x} hid e => by
    rcases b.own hid e with h | ⟨i, h, k⟩
    · exact .inl (Nat.le_trans a.size h)
    · exact a.own h k
  next := Nat.le_trans a.next b.next
  newImm := fun x o => by
    rcases b.newImm x o with h | h | ⟨i, h, k⟩
    · rcases a.newImm x o with g | g | g
      · exact .inl (h.trans g)
      · exact .inr (.inl g)
      · exact .inr (.inr g)
    · exact .inr (.inl (Nat.le_trans a.size h))
    · exact .inr (a.own h k)
  newImmM := fun x => by
    rcases b.newImmM x with h | h | ⟨i, h, k⟩
    · rcases a.newImmM x with g | g | g
      · exact .inl (h.trans g)
      · exact .inr (.inl g)
      · exact .inr (.inr g)
    · exact .inr (.inl (Nat.le_trans a.size h))
    · exact .inr (a.own h k)
  still := fun {i} hx hj hlt => by
    obtain ⟨j1, g1⟩ := a.still hx hj hlt
    obtain ⟨j2, g2⟩ := b.still (id := i) (by intro q; cases q; omega) j1 (Nat.lt_of_lt_of_le hlt a.next)
    exact ⟨j2, g2.trans g1⟩

/-- the heap at p, with all that is made from p on -/
def HB (base n : Nat) (mk : Nat → Option Obj) (p : Nat) (g : H) (id : Nat) : Option Obj := if base + p ≤ id ∧ id < base + n then mk (id - base) else g.get id

theorem HB_is (base : Nat) (mk : Nat → Option Obj) (p : Nat) (g : H) : ∀ n, ∃ h : H, h.next = g.next ∧ ∀ id, h.get id = HB base n mk p g id
  | 0 => ⟨g, rfl, fun id => by rw [HB, if_neg (by omega)]⟩
  | n + 1 => by
    obtain ⟨h, h1, h2⟩ := HB_is base mk p g n
    by_cases hp : p ≤ n
    · refine ⟨⟨h.next, h.objs.set (base + n) (mk n)⟩, h1, fun id => ?_⟩
      show (h.objs.set (base + n) (mk n)).get id = _
      rw [T.get_set]
      by_cases hid : id = base + n
      · subst hid
        rw [if_pos rfl, HB, if_pos (by omega)]
        congr 1; omega
      · rw [if_neg hid]
        have := h2 id
        rw [show h.objs.get id = h.get id from rfl, this, HB, HB]
        by_cases hc : base + p ≤ id ∧ id < base + n
        · rw [if_pos hc, if_pos (by omega)]
        · rw [if_neg hc, if_neg (by omega)]
    · refine ⟨h, h1, fun id => ?_⟩
      rw [h2, HB, HB, if_neg (by omega), if_neg (by omega)]

/-- a slot, by what was carried out -/
def fval (ops : Array Oper) (V : Nat → AV) (fr0 : T AV) (D : Nat → Bool) : Nat → Nat → AV
  | 0, t => slot fr0 t
  | k + 1, t => if D k = true ∧ (ops[k]?).bind (·.dst) = some t then V k else fval ops V fr0 D k t

section
variable {ops : Array Oper} {V : Nat → AV} {fr0 : T AV}
theorem fval_congr {D D' : Nat → Bool} {t : Nat} : ∀ {k : Nat}, (∀ j, j < k → (ops[j]?).bind (·.dst) = some t → D j = D' j) → fval ops V fr0 D k t = fval ops V fr0 D' k t
  | 0, _ => rfl
  | k + 1, h => by
    simp only [fval]
    rw [fval_congr fun j hj => h j (by omega)]
    by_cases hd : (ops[k]?).bind (·.dst) = some t
    · rw [h k (by omega) hd]
    · simp [hd]
theorem fval_cut {D : Nat → Bool} {t a : Nat} : ∀ {b : Nat}, a ≤ b → (∀ j, a ≤ j → j < b → (ops[j]?).bind (·.dst) = some t → D j = false) → fval ops V fr0 D b t = fval ops V fr0 D a t
  | 0, hab, _ => by rw [show a = 0 by omega]
  | b + 1, hab, h => by
    by_cases he : a = b + 1
    · rw [he]
    · simp only [fval]
      rw [if_neg, fval_cut (by omega) fun j h1 h2 => h j h1 (by omega)]
      rintro ⟨h1, h2⟩
      rw [h b (by omega) (by omega) h2] at h1
      cases h1
end

section
variable {E : Env} {P : Program} {G : K} {cv : Cv} {wide : Bool} {rd : Option Nat} {nt : Nat} {ops : Array Oper} {base : Nat} {inc : List (Nat × Nat)} {F : Nat → T AV} {Hh : Nat → H} {V : Nat → AV} {Rn : Nat → Bool} {mk : Nat → Option Obj}

theorem trace_slot (hT : TraceF E cv wide rd nt ops base inc F Hh V Rn mk) : ∀ {i : Nat}, i ≤ ops.size → ∀ t, slot (F i) t = fval ops V (F 0) (fun _ => true) i t
  | 0, _, t => rfl
  | i + 1, hi, t => by
    have ho : ops[i]? = some ops[i] := Array.getElem?_eq_getElem (by omega)
    have hput := hT.put ho
    have ih := trace_slot hT (i := i) (by omega) t
    simp only [fval, ho, Option.bind_some, true_and]
    cases hd : ops[i].dst with
    | none =>
      rw [hd] at hput
      simp only [putDst, Option.some.injEq] at hput
      rw [← hput, if_neg (by simp)]
      exact ih
    | some d =>
      rw [hd] at hput
      simp only [putDst] at hput
      split at hput
      · have hput' := Option.some.inj hput
        rw [← hput', slot_set]
        by_cases ht : t = d
        · subst ht; simp
        · rw [if_neg ht, if_neg (fun q => ht (by cases q; rfl))]
          exact ih
      · cases hput

/-- nothing acts from a to b -/
def quietR (ops : Array Oper) (Rn : Nat → Bool) (a b : Nat) : Prop := ∀ j o, a ≤ j → j < b → ops[j]? = some o → actOp o = true → Rn j = false

theorem madeIn_next (h : H) (id : Nat) (mo : Option Obj) : (madeIn h id mo).next = h.next := by cases mo <;> rfl
theorem madeIn_get (h : H) (id : Nat) (mo : Option Obj) (i : Nat) : (madeIn h id mo).get i = if i = id ∧ mo.isSome then mo else h.get i := by
  cases mo with
  | none => simp [madeIn]
  | some ob =>
    show (h.objs.set id (some ob)).get i = _
    rw [T.get_set]
    by_cases hi : i = id
    · simp [hi]
    · simp [hi]; rfl

/-- heaps where nothing acts -/
theorem grow (hT : TraceF E cv wide rd nt ops base inc F Hh V Rn mk) {a : Nat} (hf : ∀ j, a ≤ j → j < ops.size → (Hh a).get (base + j) = none) : ∀ {b : Nat}, a ≤ b → b ≤ ops.size → quietR ops Rn a b →
    (Hh b).next = (Hh a).next ∧ ∀ id, (Hh b).get id = HB base b mk a (Hh a) id
  | 0, hab, _, _ => by
    have : a = 0 := by omega
    subst this
    exact ⟨rfl, fun id => by rw [HB, if_neg (by omega)]⟩
  | b + 1, hab, hb, hq => by
    by_cases he : a = b + 1
    · subst he
      exact ⟨rfl, fun id => by rw [HB, if_neg (by omega)]⟩
    · obtain ⟨h1, h2⟩ := grow hT hf (b := b) (by omega) (by omega) (fun j o x y => hq j o x (by omega))
      have ho : ops[b]? = some ops[b] := Array.getElem?_eq_getElem (by omega)
      have key : (Hh (b + 1)).next = (Hh b).next ∧ ∀ id, (Hh (b + 1)).get id = if id = base + b ∧ (mk b).isSome then mk b else (Hh b).get id := by
        by_cases hr : Rn b = true
        · have ha : actOp ops[b] = false := by
            cases hact : actOp ops[b] with
            | false => rfl
            | true => rw [hq b _ (by omega) (by omega) ho hact] at hr; cases hr
          rw [hT.made ho ha hr]
          exact ⟨madeIn_next _ _ _, madeIn_get _ _ _⟩
        · obtain ⟨_, _, q1, q2⟩ := hT.idle ho (by simpa using hr)
          rw [q1, q2]
          exact ⟨rfl, fun id => by simp⟩
      refine ⟨key.1.trans h1, fun id => ?_⟩
      rw [key.2]
      by_cases hid : id = base + b
      · subst hid
        have e1 : HB base (b + 1) mk a (Hh a) (base + b) = mk b := by
          rw [HB, if_pos (by omega), show base + b - base = b by omega]
        rw [e1]
        cases hm : mk b with
        | some ob => simp
        | none =>
          rw [if_neg (by simp), h2, HB, if_neg (by omega)]
          exact hf b (by omega) (by omega)
      · rw [if_neg (fun q => hid q.1), h2, HB, HB]
        by_cases hc : base + a ≤ id ∧ id < base + b
        · rw [if_pos hc, if_pos (by omega)]
        · rw [if_neg hc, if_neg (by omega)]

/-- what holds while the region is carried out: D: what was carried out; ahead of p all that acts was, from p on none -/
structure Inv (J0 : K) (h0 : H) (w0 : World) (ops : Array Oper) (base nt : Nat) (F : Nat → T AV) (Hh : Nat → H) (V : Nat → AV) (Rn : Nat → Bool) (mk : Nat → Option Obj) (dl : List Deferred) (D : Nat → Bool) (p : Nat) (J : K) (h : H) (fr : T AV) (a : Act) (w : World) : Prop where
  closed : ∀ i o, D i = true → ops[i]? = some o → ∀ e ∈ o.after, Region.binds .any e = true → D e.on = true
  inD : ∀ i, D i = true → i < ops.size
  le : p ≤ ops.size
  lo : ∀ i o, ops[i]? = some o → actOp o = true → i < p → D i = true
  hi : ∀ i o, ops[i]? = some o → actOp o = true → p ≤ i → D i = false
  free : ∀ q, q ≤ p → ∀ j, q ≤ j → j < ops.size → (Hh q).get (base + j) = none
  nexts : base + ops.size ≤ (Hh p).next
  hget : ∀ id, h.get id = HB base ops.size mk p (Hh p) id
  hnext : h.next = (Hh p).next
  mem : W J h w
  obj : ∀ i, i < ops.size → J.obj (base + i) = none ∨ (D i = true ∧ (mk i).isSome)
  ghost : ∀ i, i < p → D i = false → (Hh p).get (base + i) = mk i
  frm : FR J fr nt a.tmps
  slots : ∀ t, slot fr t = fval ops V (F 0) D ops.size t
  ext : Ext none J0 h0 w0 J h w
  dl : a.defers = dl

variable {J0 : K} {h0 : H} {w0 : World} {dl : List Deferred} {dep : Nat → Nat → Prop}

theorem sub_HB (hT : TraceF E cv wide rd nt ops base inc F Hh V Rn mk) {a p : Nat} (hap : a ≤ p) (hp : p ≤ ops.size) (hf : ∀ j, a ≤ j → j < ops.size → (Hh a).get (base + j) = none) (hq : quietR ops Rn a p) :
    ∀ id o, (Hh a).get id = some o → HB base ops.size mk p (Hh p) id = some o := by
  intro id o ho
  obtain ⟨_, g2⟩ := grow hT hf hap hp hq
  have hno : ¬ (base + a ≤ id ∧ id < base + ops.size) := fun q => by
    have := hf (id - base) (by omega) (by omega)
    rw [show base + (id - base) = id by omega, ho] at this
    cases this
  rw [HB, if_neg (by omega), g2, HB, if_neg (by omega)]
  exact ho

/-- the same from p's heap on to a later one's -/
theorem sub_HB' (hT : TraceF E cv wide rd nt ops base inc F Hh V Rn mk) {a p : Nat} (hpa : p ≤ a) (ha : a ≤ ops.size) (hf : ∀ j, p ≤ j → j < ops.size → (Hh p).get (base + j) = none) (hq : quietR ops Rn p a) :
    ∀ id o, (Hh a).get id = some o → HB base ops.size mk p (Hh p) id = some o := by
  intro id o ho
  obtain ⟨_, g2⟩ := grow hT hf hpa ha hq
  rw [g2, HB] at ho
  by_cases hc : base + p ≤ id ∧ id < base + a
  · rw [if_pos hc] at ho
    rw [HB, if_pos (by omega)]
    exact ho
  · rw [if_neg hc] at ho
    have hno : ¬ (base + p ≤ id ∧ id < base + ops.size) := fun q => by
      have := hf (id - base) (by omega) (by omega)
      rw [show base + (id - base) = id by omega, ho] at this
      cases this
    rw [HB, if_neg hno]
    exact ho

/-- the least of what acts, or none -/
theorem quiet_or_first (a : Nat) : ∀ b, a ≤ b → quietR ops Rn a b ∨ ∃ q o, a ≤ q ∧ q < b ∧ ops[q]? = some o ∧ actOp o = true ∧ Rn q = true ∧ quietR ops Rn a q
  | 0, h => .inl fun j o h1 h2 => by omega
  | b + 1, h => by
    by_cases he : a = b + 1
    · subst he; exact .inl fun j o h1 h2 => by omega
    · rcases quiet_or_first a b (by omega) with hq | ⟨q, o, h1, h2, h3⟩
      · by_cases hb : ∃ o, ops[b]? = some o ∧ actOp o = true ∧ Rn b = true
        · obtain ⟨o, g1, g2, g3⟩ := hb
          exact .inr ⟨b, o, by omega, by omega, g1, g2, g3, hq⟩
        · left
          intro j o h1 h2 h3 h4
          by_cases hj : j = b
          · subst hj
            cases hr : Rn j with
            | false => rfl
            | true => exact absurd ⟨o, h3, h4, hr⟩ hb
          · exact hq j o h1 (by omega) h3 h4
      · exact .inr ⟨q, o, h1, by omega, h3⟩
/-- the last of what acts, or none -/
theorem quiet_or_last (a : Nat) : ∀ b, a ≤ b → quietR ops Rn a b ∨ ∃ q o, a ≤ q ∧ q < b ∧ ops[q]? = some o ∧ actOp o = true ∧ Rn q = true ∧ quietR ops Rn (q + 1) b
  | 0, h => .inl fun j o h1 h2 => by omega
  | b + 1, h => by
    by_cases he : a = b + 1
    · subst he; exact .inl fun j o h1 h2 => by omega
    · by_cases hb : ∃ o, ops[b]? = some o ∧ actOp o = true ∧ Rn b = true
      · obtain ⟨o, g1, g2, g3⟩ := hb
        exact .inr ⟨b, o, by omega, by omega, g1, g2, g3, fun j o h1 h2 => by omega⟩
      · have hb' : ∀ o, ops[b]? = some o → actOp o = true → Rn b = false := fun o h3 h4 => by
          cases hr : Rn b with
          | false => rfl
          | true => exact absurd ⟨o, h3, h4, hr⟩ hb
        rcases quiet_or_last a b (by omega) with hq | ⟨q, o, h1, h2, h3, h4, h5, h6⟩
        · left
          intro j o h1 h2 h3 h4
          by_cases hj : j = b
          · subst hj; exact hb' o h3 h4
          · exact hq j o h1 (by omega) h3 h4
        · refine .inr ⟨q, o, h1, by omega, h3, h4, h5, fun j o h1 h2 h3 h4 => ?_⟩
          by_cases hj : j = b
          · subst hj; exact hb' o h3 h4
          · exact h6 j o h1 (by omega) h3 h4

section step
variable {D : Nat → Bool} {p : Nat} {J : K} {h : H} {fr : T AV} {a : Act} {w : World} {i : Nat} {o : Oper}

/-- what the operation looks at is as in the text's order -/
theorem Inv.looks (hI : Inv J0 h0 w0 ops base nt F Hh V Rn mk dl D p J h fr a w) (hT : TraceF E cv wide rd nt ops base inc F Hh V Rn mk) (hS : Stat inc ops dep) (hi : D i = false) (ho : ops[i]? = some o) (he : ∀ e ∈ o.after, Region.binds .any e = true → D e.on = true) {t : Nat} (ht : t ∈ namesOf ops o) :
    slot fr t = slot (F i) t := by
  have hlt : i < ops.size := (Array.getElem?_eq_some_iff.1 ho).1
  have hw : ∀ {j q}, ops[j]? = some q → j ≠ i → q.dst = some t → (j < i → D j = true) ∧ (i < j → D j = false) := by
    intro j q hq hne hd
    rcases hS.tmp ho hq (fun x => hne x.symm) hd ht with hdep | hdep
    · have := hS.lt hdep
      refine ⟨fun _ => by omega, fun _ => ?_⟩
      cases hDj : D j with
      | false => rfl
      | true => rw [hS.cl hI.closed hdep hDj] at hi; cases hi
    · have := hS.lt hdep
      exact ⟨fun _ => hS.rdy hI.closed ho he hdep, fun _ => by omega⟩
  have hdst : ∀ {j : Nat}, (ops[j]?).bind (·.dst) = some t → ∃ q, ops[j]? = some q ∧ q.dst = some t := fun {j} hb => by
    cases hq : ops[j]? with
    | none => rw [hq] at hb; cases hb
    | some q => rw [hq] at hb; exact ⟨q, rfl, hb⟩
  rw [hI.slots, trace_slot hT (by omega), fval_cut (a := i) (by omega)]
  · refine fval_congr fun j hj hb => ?_
    obtain ⟨q, hq, hd⟩ := hdst hb
    exact (hw hq (by omega) hd).1 hj
  · intro j h1 h2 hb
    obtain ⟨q, hq, hd⟩ := hdst hb
    by_cases hj : j = i
    · subst hj; exact hi
    · exact (hw hq hj hd).2 (by omega)

theorem Inv.evs (hI : Inv J0 h0 w0 ops base nt F Hh V Rn mk dl D p J h fr a w) (hT : TraceF E cv wide rd nt ops base inc F Hh V Rn mk) (hS : Stat inc ops dep) (hi : D i = false) (ho : ops[i]? = some o) (he : ∀ e ∈ o.after, Region.binds .any e = true → D e.on = true) :
    ∀ y ∈ o.op.operands, ev E fr y = ev E (F i) y := by
  intro y hy
  cases y with
  | tmp t =>
    simp only [ev]
    rw [hI.looks hT hS hi ho he (t := t) ?_]
    unfold namesOf Oper.looksAt
    refine List.mem_append_right _ (List.mem_append_left _ (List.mem_filterMap.2 ⟨.tmp t, by simpa using hy, rfl⟩))
  | _ => rfl

theorem Inv.wants (hI : Inv J0 h0 w0 ops base nt F Hh V Rn mk dl D p J h fr a w) (hT : TraceF E cv wide rd nt ops base inc F Hh V Rn mk) (hS : Stat inc ops dep) (hi : D i = false) (ho : ops[i]? = some o) (he : ∀ e ∈ o.after, Region.binds .any e = true → D e.on = true) :
    wantedA ops fr o = wantedA ops (F i) o := by
  unfold wantedA
  cases hg : o.guard with
  | none => rfl
  | some g =>
    obtain ⟨j, want⟩ := g
    simp only []
    cases hd : (ops[j]?).bind (·.dst) with
    | none => rfl
    | some d =>
      simp only []
      rw [hI.looks hT hS hi ho he (t := d) ?_]
      unfold namesOf Oper.looksAt
      refine List.mem_append_right _ (List.mem_append_right _ ?_)
      simp [hg, hd]

/-- the frame behind an operation -/
theorem Inv.after (hI : Inv J0 h0 w0 ops base nt F Hh V Rn mk dl D p J h fr a w) (hT : TraceF E cv wide rd nt ops base inc F Hh V Rn mk) (hS : Stat inc ops dep) (hi : D i = false) (ho : ops[i]? = some o) (he : ∀ e ∈ o.after, Region.binds .any e = true → D e.on = true) {J' : K} (hJ : J.le J') {v' : Value} (hv : VR J' (V i) v') :
    ∃ fr', FR J' fr' nt (a.put o.dst v').tmps ∧ ∀ t, slot fr' t = fval ops V (F 0) (fun j => decide (j = i) || D j) ops.size t := by
  have hlt : i < ops.size := (Array.getElem?_eq_some_iff.1 ho).1
  have hput := hT.put ho
  obtain ⟨fr', hfr⟩ : ∃ fr', putDst nt fr o.dst (V i) = some fr' := by
    cases hd : o.dst with
    | none => exact ⟨fr, rfl⟩
    | some d =>
      rw [hd] at hput
      simp only [putDst] at hput ⊢
      split at hput
      · rename_i hn; rw [if_pos hn]; exact ⟨_, rfl⟩
      · cases hput
  refine ⟨fr', put_FR (hI.frm.mono hJ) hv hfr, fun t => ?_⟩
  by_cases hd : o.dst = some t
  · have hs : slot fr' t = V i := by
      rw [hd] at hfr
      simp only [putDst] at hfr
      split at hfr
      · cases hfr; rw [slot_set, if_pos rfl]
      · cases hfr
    rw [hs, fval_cut (a := i + 1) (by omega)]
    · simp [fval, ho, hd]
    · intro j h1 h2 hb
      cases hq : ops[j]? with
      | none => rw [hq] at hb; cases hb
      | some q =>
        rw [hq] at hb
        have hne : ¬ j = i := by omega
        simp only [hne, decide_false, Bool.false_or]
        rcases hS.tmp ho hq (fun x => hne x.symm) hb (by simp [namesOf, hd]) with hdep | hdep
        · cases hDj : D j with
          | false => rfl
          | true => rw [hS.cl hI.closed hdep hDj] at hi; cases hi
        · have := hS.lt hdep; omega
  · have hs : slot fr' t = slot fr t := by
      cases hdd : o.dst with
      | none => rw [hdd] at hfr; cases hfr; rfl
      | some d =>
        rw [hdd] at hfr hd
        simp only [putDst] at hfr
        split at hfr
        · cases hfr; rw [slot_set, if_neg (fun q => hd (by rw [q]))]
        · cases hfr
    rw [hs, hI.slots]
    refine fval_congr fun j hj hb => ?_
    by_cases hji : j = i
    · subst hji; rw [ho] at hb; exact absurd hb hd
    · simp [hji]

theorem Inv.closed' (hI : Inv J0 h0 w0 ops base nt F Hh V Rn mk dl D p J h fr a w) (ho : ops[i]? = some o) (he : ∀ e ∈ o.after, Region.binds .any e = true → D e.on = true) :
    ∀ j q, (decide (j = i) || D j) = true → ops[j]? = some q → ∀ e ∈ q.after, Region.binds .any e = true → (decide (e.on = i) || D e.on) = true := by
  intro j q hj hq e heq hb
  by_cases hji : j = i
  · subst hji
    rw [ho] at hq; cases hq
    simp [he e heq hb]
  · simp only [hji, decide_false, Bool.false_or] at hj
    simp [hI.closed j q hj hq e heq hb]

/-- p goes on to what acts next -/
theorem Inv.move (hI : Inv J0 h0 w0 ops base nt F Hh V Rn mk dl D p J h fr a w) (hT : TraceF E cv wide rd nt ops base inc F Hh V Rn mk) (hS : Stat inc ops dep) (hi : D i = false) (ho : ops[i]? = some o) (he : ∀ e ∈ o.after, Region.binds .any e = true → D e.on = true) (ha : actOp o = true) :
    Inv J0 h0 w0 ops base nt F Hh V Rn mk dl D i J h fr a w := by
  have hlt : i < ops.size := (Array.getElem?_eq_some_iff.1 ho).1
  have hpi : p ≤ i := by
    refine Nat.le_of_not_lt fun hq => ?_
    rw [hI.lo i o ho ha hq] at hi
    cases hi
  have hbelow : ∀ j q, ops[j]? = some q → actOp q = true → j < i → D j = true := fun j q hq hqa hji => by
    rcases hS.act hq ho (by omega) hqa ha with hdep | hdep
    · exact hS.rdy hI.closed ho he hdep
    · have := hS.lt hdep; omega
  have hnone : ∀ j q, p ≤ j → j < i → ops[j]? = some q → actOp q = false := fun j q h1 h2 hq => by
    cases hqa : actOp q with
    | false => rfl
    | true => have := hbelow j q hq hqa h2; rw [hI.hi j q hq hqa h1] at this; cases this
  have hquiet : ∀ b, b ≤ i → quietR ops Rn p b := fun b hb j q h1 h2 hq hqa => by rw [hnone j q h1 (by omega) hq] at hqa; cases hqa
  have hf := hI.free p (Nat.le_refl _)
  obtain ⟨g1, g2⟩ := grow hT hf hpi (by omega) (hquiet i (Nat.le_refl _))
  refine { hI with le := by omega, lo := fun j q hq hqa hji => hbelow j q hq hqa hji, hi := fun j q hq hqa hij => hI.hi j q hq hqa (by omega), free := ?_, nexts := by rw [g1]; exact hI.nexts, hget := ?_, hnext := by rw [g1]; exact hI.hnext, ghost := ?_ }
  · intro q hq j hj hjs
    by_cases hqp : q ≤ p
    · exact hI.free q hqp j hj hjs
    · obtain ⟨_, k2⟩ := grow hT hf (b := q) (by omega) (by omega) (hquiet q hq)
      rw [k2, HB, if_neg (by omega)]
      exact hf j (by omega) hjs
  · intro id
    rw [hI.hget, HB, HB, g2, HB]
    by_cases h1 : base + p ≤ id ∧ id < base + ops.size
    · rw [if_pos h1]
      by_cases h2 : base + i ≤ id ∧ id < base + ops.size
      · rw [if_pos h2]
      · rw [if_neg h2, if_pos (by omega)]
    · rw [if_neg h1, if_neg (by omega), if_neg (by omega)]
  · intro j hj hD
    rw [g2, HB]
    by_cases hjp : j < p
    · rw [if_neg (by omega)]
      exact hI.ghost j hjp hD
    · rw [if_pos (by omega), show base + j - base = j by omega]

/-- an operation that acts on nothing -/
theorem Inv.still (hI : Inv J0 h0 w0 ops base nt F Hh V Rn mk dl D p J h fr a w) (hT : TraceF E cv wide rd nt ops base inc F Hh V Rn mk) (hS : Stat inc ops dep) (hi : D i = false) (ho : ops[i]? = some o) (he : ∀ e ∈ o.after, Region.binds .any e = true → D e.on = true) (ha : actOp o = false) (hr : Rn i = true)
    {h2 : H} (hh2 : ∀ id, h2.get id = if id = base + i then none else h.get id) :
    (mk i = none → ∀ x, plain E wide x (F i) h2 o = some (V i, h2)) ∧ plain E wide (some (base + i)) (F i) h2 o = some (V i, madeIn h2 (base + i) (mk i)) := by
  have hlt : i < ops.size := (Array.getElem?_eq_some_iff.1 ho).1
  have hup : ∀ {b : Nat}, p ≤ b → b ≤ ops.size → quietR ops Rn p b → ∀ j, b ≤ j → j < ops.size → (Hh b).get (base + j) = none := fun {b} h1 h2 hq j h3 h4 => by
    obtain ⟨_, k2⟩ := grow hT (hI.free p (Nat.le_refl _)) h1 h2 hq
    rw [k2, HB, if_neg (by omega)]
    exact hI.free p (Nat.le_refl _) j (by omega) h4
  have tosub : ∀ {X : H}, (∀ id q, X.get id = some q → HB base ops.size mk p (Hh p) id = some q) → X.get (base + i) = none → X.sub h2 := fun {X} hX hn id q hq => by
    rw [hh2, if_neg (fun z => by rw [z, hn] at hq; cases hq), hI.hget]
    exact hX id q hq
  have Hi_sub : quietR ops Rn (min i p) (max i p) → (Hh i).sub h2 := fun hq => by
    rcases Nat.le_total i p with hip | hip
    · rw [Nat.min_eq_left hip, Nat.max_eq_right hip] at hq
      exact tosub (sub_HB hT hip hI.le (hI.free i hip) hq) (hI.free i hip i (Nat.le_refl _) hlt)
    · rw [Nat.min_eq_right hip, Nat.max_eq_left hip] at hq
      exact tosub (sub_HB' hT hip (by omega) (hI.free p (Nat.le_refl _)) hq) (hup hip (by omega) hq i (Nat.le_refl _) hlt)
  -- what acts between i and p is not ordered to i
  have hunord : ∀ {q o'}, ops[q]? = some o' → actOp o' = true → ((i ≤ q ∧ q < p) ∨ (p ≤ q ∧ q < i)) → ¬ (dep i q ∨ dep q i) := by
    intro q o' hq hqa hcase hdep
    rcases hcase with ⟨h1, h3⟩ | ⟨h1, h3⟩
    · rcases hdep with hdep | hdep
      · have := hI.lo q o' hq hqa h3
        rw [hS.cl hI.closed hdep this] at hi; cases hi
      · have := hS.lt hdep; omega
    · rcases hdep with hdep | hdep
      · have := hS.lt hdep; omega
      · have := hS.rdy hI.closed ho he hdep
        rw [hI.hi q o' hq hqa h1] at this; cases this
  by_cases hrd : readsOp o = true
  · obtain ⟨hm, hread⟩ := hT.read ho ha hrd hr
    have key : ∀ x, plain E wide x (F i) h2 o = some (V i, h2) := by
      rcases Nat.le_total i p with hip | hip
      · rcases quiet_or_last (ops := ops) (Rn := Rn) i p hip with hq | ⟨q, o', q1, q2, q3, q4, q5, q6⟩
        · exact hread h2 (Hi_sub (by rw [Nat.min_eq_left hip, Nat.max_eq_right hip]; exact hq))
        · have hne : i ≠ q := fun z => by subst z; rw [ho] at q3; cases q3; rw [ha] at q4; cases q4
          have hin := (hS.rd ho q3 hne hrd q4).resolve_left (hunord q3 q4 (.inl ⟨q1, q2⟩))
          refine hT.same ho q3 hin hrd hr q5 h2 (.inr ?_)
          refine tosub (sub_HB hT (by omega) hI.le (hI.free (q + 1) (by omega)) q6) ?_
          have := hI.ghost i (by omega) hi
          obtain ⟨_, k2⟩ := grow hT (hI.free (q + 1) (by omega)) (b := p) (by omega) hI.le q6
          rw [k2, HB, if_neg (by omega), hm] at this
          exact this
      · rcases quiet_or_first (ops := ops) (Rn := Rn) p i hip with hq | ⟨q, o', q1, q2, q3, q4, q5, q6⟩
        · exact hread h2 (Hi_sub (by rw [Nat.min_eq_right hip, Nat.max_eq_left hip]; exact hq))
        · have hne : i ≠ q := by omega
          have hin := (hS.rd ho q3 hne hrd q4).resolve_left (hunord q3 q4 (.inr ⟨q1, q2⟩))
          refine hT.same ho q3 hin hrd hr q5 h2 (.inl ?_)
          exact tosub (sub_HB' hT q1 (by omega) (hI.free p (Nat.le_refl _)) q6) (hup q1 (by omega) q6 i (by omega) hlt)
    exact ⟨fun _ => key, by rw [hm]; exact key _⟩
  · obtain ⟨m1, m2⟩ := hT.make ho ha (by simpa using hrd) hr
    refine ⟨fun hm x => m2 hm x h2, m1 h2 ?_⟩
    cases hrg : isRange o with
    | false => exact .inl rfl
    | true =>
      right
      refine Hi_sub fun j o' h1 h3 hj hja => ?_
      have hne : i ≠ j := fun z => by subst z; rw [ho] at hj; cases hj; rw [ha] at hja; cases hja
      refine absurd (hS.rng ho hj hne hrg hja) (hunord hj hja ?_)
      rcases Nat.le_total i p with hip | hip
      · rw [Nat.min_eq_left hip] at h1; rw [Nat.max_eq_right hip] at h3; exact .inl ⟨h1, h3⟩
      · rw [Nat.min_eq_right hip] at h1; rw [Nat.max_eq_left hip] at h3; exact .inr ⟨h1, h3⟩
end step
end
end Go.Kal
end

section
namespace Go.Kal
open Go

/-- what was made ahead of an acting operation that stands ahead of it in the text comes back behind it -/
theorem add_back {J0 J J' : K} {h0 h h' g g' : H} {w0 w w' : World} {base n i : Nat} {mk : Nat → Option Obj} (hin : i < n) (hb0 : h0.next ≤ base) (hW : W J h w) (hget : ∀ id, h.get id = HB base n mk i g id) (hfree : ∀ j, i ≤ j → j < n → g.get (base + j) = none)
    (hW' : W J' g' w') (hx : Ext none J g w J' g' w') (hobj : ∀ j, j < n → J.obj (base + j) = none ∨ (mk j).isSome) (hnext : base + n ≤ g.next) (hget' : ∀ id, h'.get id = HB base n mk (i + 1) g' id) (hnext' : h'.next = g'.next)
    (e0 : Ext none J0 h0 w0 J h w) (e1 : Ext none J0 h0 w0 J g w) :
    (∀ j, i + 1 ≤ j → j < n → g'.get (base + j) = none) ∧ W J' h' w' ∧ Ext none J0 h0 w0 J' h' w' := by
  have hglive : ∀ {id}, (g.get id).isSome → (h.get id).isSome := fun {id} hl => by
    rw [hget, HB]
    split
    · rename_i hr
      have := hfree (id - base) (by omega) (by omega)
      rw [show base + (id - base) = id by omega] at this
      rw [this] at hl; cases hl
    · exact hl
  have hobj' : ∀ j, j < n → ∀ b, J'.obj (base + j) = some b → J.obj (base + j) = some b := fun j hj b e => by
    cases hJ : J.obj (base + j) with
    | none => rw [(hx.still (by simp) hJ (by omega)).1] at e; cases e
    | some b1 => rw [(hx.le.obj hJ).1] at e; cases e; rfl
  have hlive : ∀ j, i ≤ j → j < n → ∀ b, J.obj (base + j) = some b → ∃ ob, mk j = some ob ∧ h.get (base + j) = some ob := fun j h1 h2 b e => by
    rcases hobj j h2 with q | q
    · rw [q] at e; cases e
    · obtain ⟨ob, hob⟩ := Option.isSome_iff_exists.1 q
      refine ⟨ob, hob, ?_⟩
      rw [hget, HB, if_pos (by omega), show base + j - base = j by omega, hob]
  have hnot : ∀ j, i ≤ j → j < n → ∀ b, J.obj (base + j) = some b → ∀ id, (g.get id).isSome → J.obj id ≠ some b := fun j h1 h2 b e id hl q => by
    obtain ⟨ob, _, ho⟩ := hlive j h1 h2 b e
    have := hW.apart (hglive hl) (by rw [ho]; rfl) q e
    rw [this, hfree j h1 h2] at hl
    cases hl
  have hfree' : ∀ j, i + 1 ≤ j → j < n → g'.get (base + j) = none := fun j h1 h2 => by
    cases hJ : J.obj (base + j) with
    | none => rw [(hx.still (by simp) hJ (by omega)).2]; exact hfree j (by omega) h2
    | some b =>
      cases hq : g'.get (base + j) with
      | none => rfl
      | some o' =>
        rcases hx.own (by rw [hq]; rfl) (hx.le.obj hJ).1 with q | ⟨i2, q1, q2⟩
        · have := hW.lt hJ; omega
        · exact absurd q2 (hnot j (by omega) h2 b hJ i2 q1)
  refine ⟨hfree', ⟨hW'.imm, hW'.immM, ?_, ?_, ?_, fun q => hW'.fresh (by rw [← hnext']; exact q), hW'.lt, hW'.pin⟩, ?_⟩
  · intro id ob b hg hb
    rw [hget', HB] at hg
    split at hg
    · rename_i hr
      obtain ⟨j, rfl⟩ : ∃ j, id = base + j := ⟨id - base, by omega⟩
      have hJ := hobj' j (by omega) b hb
      obtain ⟨ob2, q1, q2⟩ := hlive j (by omega) (by omega) b hJ
      rw [show base + j - base = j by omega, q1] at hg
      cases hg
      obtain ⟨gob, k1, k2⟩ := hW.live q2 hJ
      have hlt := hW.lt hJ
      have hnt := hnot j (by omega) (by omega) b hJ
      refine ⟨gob, by rw [hx.keep hlt hnt]; exact k1, k2.mono hx.le hJ (fun y => ?_) ?_⟩
      · rcases hx.newImm b y with q | q | ⟨i2, q, q'⟩
        · exact q
        · omega
        · exact absurd q' (hnt i2 q)
      · rcases hx.newImmM b with q | q | ⟨i2, q, q'⟩
        · exact q
        · omega
        · exact absurd q' (hnt i2 q)
    · exact hW'.live hg hb
  · intro id id' b h1 h2 e1 e2
    rw [hget', HB] at h1 h2
    have cross : ∀ {j id2}, i + 1 ≤ j → j < n → J'.obj (base + j) = some b → (g'.get id2).isSome → J'.obj id2 = some b → False := fun {j id2} k1 k2 k3 k4 k5 => by
      have hJ := hobj' j k2 b k3
      rcases hx.own k4 k5 with q | ⟨i2, q1, q2⟩
      · have := hW.lt hJ; omega
      · exact hnot j (by omega) k2 b hJ i2 q1 q2
    split at h1
    · rename_i hr
      obtain ⟨j, rfl⟩ : ∃ j, id = base + j := ⟨id - base, by omega⟩
      split at h2
      · rename_i hr'
        obtain ⟨j', rfl⟩ : ∃ j', id' = base + j' := ⟨id' - base, by omega⟩
        have hJ := hobj' j (by omega) b e1
        have hJ' := hobj' j' (by omega) b e2
        obtain ⟨ob, _, q2⟩ := hlive j (by omega) (by omega) b hJ
        obtain ⟨ob', _, q2'⟩ := hlive j' (by omega) (by omega) b hJ'
        exact hW.apart (by rw [q2]; rfl) (by rw [q2']; rfl) hJ hJ'
      · exact (cross (j := j) (by omega) (by omega) e1 h2 e2).elim
    · split at h2
      · rename_i hr'
        obtain ⟨j', rfl⟩ : ∃ j', id' = base + j' := ⟨id' - base, by omega⟩
        exact (cross (j := j') (by omega) (by omega) e2 h1 e1).elim
      · exact hW'.apart h1 h2 e1 e2
  · intro id hl
    rw [hnext']
    rw [hget', HB] at hl
    split at hl
    · have := hx.next; omega
    · exact hW'.ids hl
  · have e2 := e1.trans hx
    refine ⟨e2.le, e2.os, e2.tape, e2.output, e2.size, e2.keep, ?_, by rw [hnext']; exact e2.next, e2.newImm, e2.newImmM, ?_⟩
    · intro id b hl hb
      rw [hget', HB] at hl
      split at hl
      · rename_i hr
        obtain ⟨j, rfl⟩ : ∃ j, id = base + j := ⟨id - base, by omega⟩
        have hJ := hobj' j (by omega) b hb
        obtain ⟨ob, _, q2⟩ := hlive j (by omega) (by omega) b hJ
        exact e0.own (by rw [q2]; rfl) hJ
      · exact e2.own hl hb
    · intro id hxx hJ hlt
      rw [hget', HB, if_neg (by omega)]
      exact e2.still hxx hJ hlt

section
variable {E : Env} {P : Program} {G : K} {cv : Cv} {wide : Bool} {rd : Option Nat} {nt : Nat} {ops : Array Oper} {base : Nat} {inc : List (Nat × Nat)} {F : Nat → T AV} {Hh : Nat → H} {V : Nat → AV} {Rn : Nat → Bool} {mk : Nat → Option Obj}
variable {J0 : K} {h0 : H} {w0 : World} {dl : List Deferred} {dep : Nat → Nat → Prop}
variable {D : Nat → Bool} {p : Nat} {J : K} {h : H} {fr : T AV} {a : Act} {w : World} {i : Nat} {o : Oper} {b : Frame} {cs : List Frame} {k : List Item} {rest : List Nat}

theorem Inv.step (hc : CvOK E P G cv) (hE : EnvOK E P G) (hG : G.le J0) (hb0 : h0.next = base) (hI : Inv J0 h0 w0 ops base nt F Hh V Rn mk dl D p J h fr a w) (hT : TraceF E cv wide rd nt ops base inc F Hh V Rn mk) (hS : Stat inc ops dep) (hi : D i = false) (ho : ops[i]? = some o) (he : ∀ e ∈ o.after, Region.binds .any e = true → D e.on = true) (hb : BOK b rd cs) :
    ∃ p' J' h' fr' a' w', Inv J0 h0 w0 ops base nt F Hh V Rn mk dl (fun j => decide (j = i) || D j) p' J' h' fr' a' w' ∧ Steps P (lone (fat b a (.inRegion ops (i :: rest) :: k)) cs w) (lone (fat b a' (.inRegion ops rest :: k)) cs w') := by
  have hlt : i < ops.size := (Array.getElem?_eq_some_iff.1 ho).1
  have hGJ : G.le J := hG.trans hI.ext.le
  have hinD : ∀ j, (decide (j = i) || D j) = true → j < ops.size := fun j hj => by
    by_cases hji : j = i
    · subst hji; exact hlt
    · simp only [hji, decide_false, Bool.false_or] at hj; exact hI.inD j hj
  have hD' : ∀ {j}, D j = true → (decide (j = i) || D j) = true := fun {j} q => by simp [q]
  have hD0 : ∀ {j}, (decide (j = i) || D j) = false → D j = false ∧ j ≠ i := fun {j} q => by
    simp only [Bool.or_eq_false_iff, decide_eq_false_iff_not] at q; exact ⟨q.2, q.1⟩
  have hwants := hI.wants hT hS hi ho he
  have hevs := hI.evs hT hS hi ho he
  have hJi : J.obj (base + i) = none := (hI.obj i hlt).resolve_right fun q => by rw [q.1] at hi; cases hi
  by_cases hr : Rn i = true
  · obtain ⟨t1, t2, t3⟩ := hT.ran ho hr
    have hw : Region.wanted o (yielded ops a.tmps) = true := by rw [← wanted_eq hI.frm, hwants]; exact t1
    by_cases ha : actOp o = true
    · -- what acts
      have hM := hI.move hT hS hi ho he ha
      have hfree := hM.free i (Nat.le_refl _)
      have hWg : W J (Hh i) w := hM.mem.sub (fun id ob q => by
        rw [hM.hget, HB, if_neg (fun z => by
          have := hfree (id - base) (by omega) (by omega)
          rw [show base + (id - base) = id by omega, q] at this; cases this)]
        exact q) hM.hnext.symm
      have hXg : Ext none J0 h0 w0 J (Hh i) w := hM.ext.sub (fun id q => by
        rw [hM.hget, HB, if_neg (fun z => by
          have := hfree (id - base) (by omega) (by omega)
          rw [show base + (id - base) = id by omega] at this; rw [this] at q; cases q)]
        exact q) hM.hnext.symm (fun id hid => by rw [hM.hget, HB, if_neg (by omega)])
      rw [oneOp_act (y := none) ha, ← oneOp_congr hevs] at t3
      obtain ⟨out, w', J', h1, h2, h3, h4⟩ := one_ok (x := none) (k := k) (rest := rest) (b := b) (cs := cs) hc hE hGJ hI.frm hWg trivial t3 ho hw t2 hb.calm hb.rd
      cases out with
      | pan v' => exact h1.elim
      | val v' =>
        obtain ⟨fr', f1, f2⟩ := hI.after hT hS hi ho he h3.le h1
        obtain ⟨h', g1, g2⟩ := HB_is base mk (i + 1) (Hh (i + 1)) ops.size
        have hmk := hT.mkAct ho ha
        obtain ⟨b1, b2, b3⟩ := add_back hlt (by omega) hM.mem hM.hget hfree h2 h3 (fun j hj => (hM.obj j hj).imp id And.right) hM.nexts g2 g1 hM.ext hXg
        have hsteps : Steps P (lone (fat b a (.inRegion ops (i :: rest) :: k)) cs w) (lone (fat b (a.put o.dst v') (.inRegion ops rest :: k)) cs w') := by
          have := h4
          simp only [Lands, finish_fat, ho, Option.bind_some] at this
          exact this
        refine ⟨i + 1, J', h', fr', a.put o.dst v', w', ⟨hI.closed' ho he, hinD, by omega, ?_, ?_, ?_, ?_, g2, g1, b2, ?_, ?_, f1, f2, b3, by rw [put_defers]; exact hI.dl⟩, hsteps⟩
        · intro j q hq hqa hji
          by_cases hj : j = i
          · simp [hj]
          · exact hD' (hM.lo j q hq hqa (by omega))
        · intro j q hq hqa hji
          have hj : ¬ j = i := by omega
          simp only [hj, decide_false, Bool.false_or]
          exact hM.hi j q hq hqa (by omega)
        · intro q hq j hj hjs
          by_cases hqi : q ≤ i
          · exact hM.free q hqi j hj hjs
          · have : q = i + 1 := by omega
            subst this
            exact b1 j hj hjs
        · have h5 : (Hh i).next ≤ (Hh (i + 1)).next := h3.next
          have := hM.nexts; omega
        · intro j hj
          cases hJj : J.obj (base + j) with
          | none => exact .inl (h3.still (by simp) hJj (by have := hM.nexts; omega)).1
          | some b1 =>
            rcases hI.obj j hj with q | q
            · rw [q] at hJj; cases hJj
            · exact .inr ⟨hD' q.1, q.2⟩
        · intro j hj hDj
          obtain ⟨d1, d2⟩ := hD0 hDj
          have hj' : j < i := by omega
          have hJj : J.obj (base + j) = none := (hI.obj j (by omega)).resolve_right fun q => by rw [q.1] at d1; cases d1
          rw [(h3.still (by simp) hJj (by have := hM.nexts; omega)).2]
          exact hM.ghost j hj' d1
    · -- what acts on nothing
      have ha' : actOp o = false := by simpa using ha
      have hh2 : ∀ id, (h.kill (base + i)).get id = if id = base + i then none else h.get id := H.get_kill h (base + i)
      obtain ⟨s1, s2⟩ := hI.still hT hS hi ho he ha' hr hh2
      have hW2 : W J (h.kill (base + i)) w := hI.mem.sub (fun id ob q => by
        rw [hh2] at q
        split at q
        · cases q
        · exact q) rfl
      have hX2 : Ext none J0 h0 w0 J (h.kill (base + i)) w := hI.ext.sub (fun id q => by
        rw [hh2] at q
        split at q
        · cases q
        · exact q) rfl (fun id hid => by rw [hh2, if_neg (by omega)])
      have hgi : HB base ops.size mk p (Hh p) (base + i) = mk i := by
        rw [HB]
        split
        · rw [show base + i - base = i by omega]
        · rename_i hn
          exact hI.ghost i (by omega) hi
      have hn2 : base + i < (h.kill (base + i)).next := by
        show base + i < h.next
        rw [hI.hnext]
        have := hI.nexts
        omega
      have hhi : ∀ j q, ops[j]? = some q → actOp q = true → p ≤ j → (decide (j = i) || D j) = false := fun j q hq hqa hpj => by
        have hj : ¬ j = i := fun z => by subst z; rw [ho] at hq; cases hq; exact ha hqa
        simp only [hj, decide_false, Bool.false_or]
        exact hI.hi j q hq hqa hpj
      cases hm : mk i with
      | none =>
        have hone : oneOp E cv wide rd none fr (h.kill (base + i)) o = some (.val (V i), h.kill (base + i)) := by
          rw [oneOp_congr hevs, oneOp_still ha', s1 hm none]; rfl
        obtain ⟨out, w', J', h1, h2, h3, h4⟩ := one_ok (x := none) (k := k) (rest := rest) (b := b) (cs := cs) hc hE hGJ hI.frm hW2 trivial hone ho hw t2 hb.calm hb.rd
        cases out with
        | pan v' => exact h1.elim
        | val v' =>
          obtain ⟨fr', f1, f2⟩ := hI.after hT hS hi ho he h3.le h1
          have hsteps : Steps P (lone (fat b a (.inRegion ops (i :: rest) :: k)) cs w) (lone (fat b (a.put o.dst v') (.inRegion ops rest :: k)) cs w') := by
            have := h4
            simp only [Lands, finish_fat, ho, Option.bind_some] at this
            exact this
          refine ⟨p, J', h.kill (base + i), fr', a.put o.dst v', w', ⟨hI.closed' ho he, hinD, hI.le, fun j q hq hqa hji => hD' (hI.lo j q hq hqa hji), hhi, hI.free, hI.nexts, ?_, hI.hnext, h2, ?_, fun j hj hDj => hI.ghost j hj (hD0 hDj).1, f1, f2, hX2.trans h3, by rw [put_defers]; exact hI.dl⟩, hsteps⟩
          · intro id
            rw [hh2]
            split
            · rename_i hid
              rw [hid, hgi, hm]
            · exact hI.hget id
          · intro j hj
            cases hJj : J.obj (base + j) with
            | none => exact .inl (h3.still (by simp) hJj (by show base + j < h.next; rw [hI.hnext]; have := hI.nexts; omega)).1
            | some b1 =>
              rcases hI.obj j hj with q | q
              · rw [q] at hJj; cases hJj
              · exact .inr ⟨hD' q.1, q.2⟩
      | some ob =>
        rw [hm] at s2
        have hone : oneOp E cv wide rd (some (base + i)) fr (h.kill (base + i)) o = some (.val (V i), madeIn (h.kill (base + i)) (base + i) (some ob)) := by
          rw [oneOp_congr hevs, oneOp_still ha', s2]; rfl
        obtain ⟨out, w', J', h1, h2, h3, h4⟩ := one_ok (x := some (base + i)) (k := k) (rest := rest) (b := b) (cs := cs) hc hE hGJ hI.frm hW2 ⟨hn2, hJi, by rw [hh2, if_pos rfl]⟩ hone ho hw t2 hb.calm hb.rd
        cases out with
        | pan v' => exact h1.elim
        | val v' =>
          obtain ⟨fr', f1, f2⟩ := hI.after hT hS hi ho he h3.le h1
          have hsteps : Steps P (lone (fat b a (.inRegion ops (i :: rest) :: k)) cs w) (lone (fat b (a.put o.dst v') (.inRegion ops rest :: k)) cs w') := by
            have := h4
            simp only [Lands, finish_fat, ho, Option.bind_some] at this
            exact this
          refine ⟨p, J', madeIn (h.kill (base + i)) (base + i) (some ob), fr', a.put o.dst v', w', ⟨hI.closed' ho he, hinD, hI.le, fun j q hq hqa hji => hD' (hI.lo j q hq hqa hji), hhi, hI.free, hI.nexts, ?_, hI.hnext, h2, ?_, fun j hj hDj => hI.ghost j hj (hD0 hDj).1, f1, f2, hX2.trans' h3 (by omega), by rw [put_defers]; exact hI.dl⟩, hsteps⟩
          · intro id
            rw [madeIn_get]
            by_cases hid : id = base + i
            · rw [if_pos ⟨hid, rfl⟩, hid, hgi, hm]
            · rw [if_neg (fun q => hid q.1), hh2, if_neg hid]
              exact hI.hget id
          · intro j hj
            by_cases hji : j = i
            · subst hji
              exact .inr ⟨by simp, by rw [hm]; rfl⟩
            · cases hJj : J.obj (base + j) with
              | none => exact .inl (h3.still (fun q => hji (by have := Option.some.inj q; omega)) hJj (by show base + j < h.next; rw [hI.hnext]; have := hI.nexts; omega)).1
              | some b1 =>
                rcases hI.obj j hj with q | q
                · rw [q] at hJj; cases hJj
                · exact .inr ⟨hD' q.1, q.2⟩
  · -- what is passed over
    have hr' : Rn i = false := by simpa using hr
    obtain ⟨t1, t2, t3, t4⟩ := hT.idle ho hr'
    have hw : Region.wanted o (yielded ops a.tmps) = false := by rw [← wanted_eq hI.frm, hwants]; exact t1
    obtain ⟨fr', f1, f2⟩ := hI.after hT hS hi ho he (K.le.refl J) (v' := undef) (by rw [t2]; exact undefR J)
    have hstep : Steps P (lone (fat b a (.inRegion ops (i :: rest) :: k)) cs w) (lone (fat b (a.put o.dst undef) (.inRegion ops rest :: k)) cs w) := by
      have := st_op_skip (P := P) (b := b) (a := a) (k := k) (cs := cs) (w := w) (ops := ops) (i := i) (rest := rest) (by simp [ho, hw])
      exact .one (by simpa [ho] using this)
    by_cases ha : actOp o = true
    · have hM := hI.move hT hS hi ho he ha
      refine ⟨i + 1, J, h, fr', a.put o.dst undef, w, ⟨hI.closed' ho he, hinD, by omega, ?_, ?_, ?_, by rw [t3]; exact hM.nexts, ?_, by rw [t3]; exact hM.hnext, hM.mem, ?_, ?_, f1, f2, hM.ext, by rw [put_defers]; exact hI.dl⟩, hstep⟩
      · intro j q hq hqa hji
        by_cases hj : j = i
        · simp [hj]
        · exact hD' (hM.lo j q hq hqa (by omega))
      · intro j q hq hqa hji
        have hj : ¬ j = i := by omega
        simp only [hj, decide_false, Bool.false_or]
        exact hM.hi j q hq hqa (by omega)
      · intro q hq j hj hjs
        by_cases hqi : q ≤ i
        · exact hM.free q hqi j hj hjs
        · have : q = i + 1 := by omega
          subst this
          rw [t3]
          exact hM.free i (Nat.le_refl _) j (by omega) hjs
      · intro id
        rw [hM.hget, HB, HB, t3]
        by_cases hid : id = base + i
        · rw [hid, if_pos (by omega), if_neg (by omega), show base + i - base = i by omega, t4]
          exact (hM.free i (Nat.le_refl _) i (Nat.le_refl _) hlt).symm
        · by_cases hc : base + i ≤ id ∧ id < base + ops.size
          · rw [if_pos hc, if_pos (by omega)]
          · rw [if_neg hc, if_neg (by omega)]
      · intro j hj
        exact (hI.obj j hj).imp id fun q => ⟨hD' q.1, q.2⟩
      · intro j hj hDj
        obtain ⟨d1, d2⟩ := hD0 hDj
        rw [t3]
        exact hM.ghost j (by omega) d1
    · refine ⟨p, J, h, fr', a.put o.dst undef, w, ⟨hI.closed' ho he, hinD, hI.le, fun j q hq hqa hji => hD' (hI.lo j q hq hqa hji), ?_, hI.free, hI.nexts, hI.hget, hI.hnext, hI.mem, fun j hj => (hI.obj j hj).imp id fun q => ⟨hD' q.1, q.2⟩, fun j hj hDj => hI.ghost j hj (hD0 hDj).1, f1, f2, hI.ext, by rw [put_defers]; exact hI.dl⟩, hstep⟩
      intro j q hq hqa hpj
      have hj : ¬ j = i := fun z => by subst z; rw [ho] at hq; cases hq; exact ha hqa
      simp only [hj, decide_false, Bool.false_or]
      exact hI.hi j q hq hqa hpj

theorem draw_run (hc : CvOK E P G cv) (hE : EnvOK E P G) (hG : G.le J0) (hb0 : h0.next = base) (hT : TraceF E cv wide rd nt ops base inc F Hh V Rn mk) (hS : Stat inc ops dep) (hb : BOK b rd cs) : ∀ {l : List Nat} {D : Nat → Bool}, Sched ops D l → ∀ {p : Nat} {J : K} {h : H} {fr : T AV} {a : Act} {w : World}, Inv J0 h0 w0 ops base nt F Hh V Rn mk dl D p J h fr a w →
    ∃ D' p' J' h' fr' a' w', (∀ i, i < ops.size → D' i = true) ∧ Inv J0 h0 w0 ops base nt F Hh V Rn mk dl D' p' J' h' fr' a' w' ∧ Steps P (lone (fat b a (.inRegion ops l :: k)) cs w) (lone (fat b a' k) cs w') := by
  intro l D hs
  induction hs with
  | nil hall =>
    intro p J h fr a w hI
    exact ⟨_, p, J, h, fr, a, w, hall, hI, .one st_region_end⟩
  | @cons D i o l hi ho he _ ih =>
    intro p J h fr a w hI
    obtain ⟨p', J', h', fr', a', w', h1, h2⟩ := hI.step (rest := l) (k := k) hc hE hG hb0 hT hS hi ho he hb
    obtain ⟨D2, p2, J2, h3, fr2, a2, w2, g1, g2, g3⟩ := ih h1
    exact ⟨D2, p2, J2, h3, fr2, a2, w2, g1, g2, h2.trans g3⟩

/-- **EVERY ORDER.** -/
theorem draw_ok (hc : CvOK E P G cv) (hE : EnvOK E P G) : DrawOK E P G (fun f id ops => drawB (E.inc f id) ops = true) cv := by
  intro B f id ops nt rd J s a w r b k cs hR hG hS hb hbf e hall
  obtain ⟨dep, hSt⟩ := stat_of hR
  obtain ⟨F, Hh, V, Rn, mk, hT, f0, g0, fn, gn⟩ := trace_of e hall
  obtain ⟨h, n1, n2⟩ := HB_is s.h.next mk 0 (Hh 0) ops.size
  have hget0 : ∀ id, id < s.h.next → h.get id = s.h.get id := fun id hid => by
    rw [n2, HB, if_neg (by omega), g0]; rfl
  have hge : ∀ id, s.h.next ≤ id → s.h.get id = none := fun id hid => by
    cases hq : s.h.get id with
    | none => rfl
    | some o => have := hS.mem.ids (show (s.h.get id).isSome by rw [hq]; rfl); omega
  have hnext0 : h.next = s.h.next + ops.size := by rw [n1, g0]
  have hW0 : W J h w.drew := by
    have hW := hS.mem.drew
    refine ⟨hW.imm, hW.immM, ?_, ?_, ?_, fun q => hW.fresh (by omega), hW.lt, hW.pin⟩
    · intro id o b hg hb
      have hlt : id < s.h.next := Nat.lt_of_not_le fun q => by rw [hW.fresh q] at hb; cases hb
      rw [hget0 id hlt] at hg
      exact hW.live hg hb
    · intro id id' b h1 h2 e1 e2
      have hlt : id < s.h.next := Nat.lt_of_not_le fun q => by rw [hW.fresh q] at e1; cases e1
      have hlt' : id' < s.h.next := Nat.lt_of_not_le fun q => by rw [hW.fresh q] at e2; cases e2
      rw [hget0 id hlt] at h1
      rw [hget0 id' hlt'] at h2
      exact hW.apart h1 h2 e1 e2
    · intro id hl
      rw [hnext0]
      by_cases hlt : id < s.h.next
      · omega
      · rw [n2, HB, g0] at hl
        split at hl
        · omega
        · have : s.h.get id = none := hge id (by omega)
          rw [show (H.get ⟨s.h.next + ops.size, s.h.objs⟩ id) = s.h.get id from rfl, this] at hl
          cases hl
  have hX0 : Ext none J s.h w J h w.drew := by
    have hX := Ext.drew (x := none) J s.h w
    refine ⟨hX.le, hX.os, hX.tape, hX.output, hX.size, hX.keep, ?_, by omega, hX.newImm, hX.newImmM, fun {id} _ q hlt => ⟨q, hget0 id hlt⟩⟩
    intro id b hl hb
    have hlt : id < s.h.next := Nat.lt_of_not_le fun q => by rw [hS.mem.fresh q] at hb; cases hb
    rw [hget0 id hlt] at hl
    exact .inr ⟨id, hl, hb⟩
  have hI : Inv J s.h w ops s.h.next nt F Hh V Rn mk a.defers (fun _ => false) 0 J h s.fr a w.drew := by
    refine ⟨fun i o q => (by cases q), fun i q => (by cases q), Nat.zero_le _, fun i o _ _ q => (by omega), fun _ _ _ _ _ => rfl, ?_, by rw [g0]; exact Nat.le_refl _, n2, n1, hW0, fun i _ => .inl (hS.mem.fresh (by omega)), fun i q => (by omega), hS.fr, ?_, hX0, rfl⟩
    · intro q hq j hj hjs
      have : q = 0 := by omega
      subst this
      rw [g0]
      exact hge (s.h.next + j) (by omega)
    · intro t
      rw [f0, fval_cut (a := 0) (by omega) (fun _ _ _ _ => rfl)]
      rfl
  obtain ⟨D', p', J', h', fr', a', w', d1, d2, d3⟩ := draw_run (k := k) hc hE hG rfl hT hSt hb (sched_schedule hSt.back (w.tape w.drawn (.order b.fn id))) hI
  -- all is carried out
  have hp : ∀ id, h'.get id = r.2.1.get id := by
    have hM : ∀ q, q ≤ ops.size → p' ≤ q → quietR ops Rn p' q := fun q hq hpq j o h1 h2 ho ha => by
      have := d2.hi j o ho ha h1
      rw [d1 j (by omega)] at this
      cases this
    obtain ⟨k1, k2⟩ := grow hT (d2.free p' (Nat.le_refl _)) (b := ops.size) d2.le (Nat.le_refl _) (hM _ (Nat.le_refl _) d2.le)
    intro id
    rw [d2.hget, ← gn, k2]
  have hnx : h'.next = r.2.1.next := by
    have hM : quietR ops Rn p' ops.size := fun j o h1 h2 ho ha => by
      have := d2.hi j o ho ha h1
      rw [d1 j (by omega)] at this
      cases this
    obtain ⟨k1, k2⟩ := grow hT (d2.free p' (Nat.le_refl _)) (b := ops.size) d2.le (Nat.le_refl _) hM
    rw [d2.hnext, ← gn, k1]
  have hXf : Ext none J s.h w J' r.2.1 w' := d2.ext.congr (fun id => (hp id).symm) hnx.symm
  refine ⟨J', a', w', ⟨⟨d2.frm.size, fun t => ?_⟩, d2.mem.congr (fun id => (hp id).symm) hnx.symm, ?_, Nat.le_trans hS.base hXf.size⟩, hXf, ?_⟩
  · have h1 := d2.frm.val t
    rw [d2.slots, fval_congr (D' := fun _ => true) (fun j hj _ => d1 j hj), ← trace_slot hT (Nat.le_refl _), fn] at h1
    exact h1
  · rw [d2.dl]
    exact hS.ds.mono hXf
  · refine Steps.trans (.one st_region_draw) ?_
    rw [hE.mixed]
    exact d3

/-- **CALLS AT EVERY DEPTH.** -/
theorem calls_ok (hC : CallEnv E P G (fun f id ops => drawB (E.inc f id) ops = true)) (hE : EnvOK E P G) {N : Nat} (n : Nat) : CvOK E P G (callV E N n) :=
  callV_ok hC hE (fun n hc => draw_ok hc hE) n
end
end Go.Kal
end

section
namespace Go.Kal
open Go
theorem intr_gen {E : Env} {P : Program} {G : K} (hC : CallEnv E P G (fun f id ops => drawB (E.inc f id) ops = true)) (hE : EnvOK E P G) {f : Nat} {fn : Func} {c : Code} (hfn : E.fn f = some fn) (hbody : fn.body = some c) {N n : Nat} {g : List AV → Option AV}
    (hg : ∀ args v, g args = some v → ∀ h, callF E (callV E N n) N f args h = some (.val v, h))
    {args : List AV} {args' : Array Value} {v : AV} {J : K} {h : H} {w : World} (hga : g args = some v) (hl : LR J args args'.toList) (hG : G.le J) (hW : W J h w) :
    (callFunc f args').run P w = .ok (.enter f args') w ∧ CallK P f args' .normal w (fun out w' => ∃ J', OutR J' (.val v) out ∧ W J' h w' ∧ Ext none J h w J' h w') := by
  have hc : CvOK E P G (callV E N n) := calls_ok hC hE n
  have hdr : DrawOK E P G (fun f id ops => drawB (E.inc f id) ops = true) (callV E N n) := draw_ok hc hE
  have h1 := callF_ok hC hc hE hdr (N := N) (kind := .normal) (.inl rfl) hG hW hl (hg args v hga h)
  obtain ⟨hP, hname, _⟩ := hC.fn hfn
  have hen : (callFunc f args').run P w = .ok (.enter f args') w := callFunc_enter hP hname hbody
  unfold CallF at h1
  rw [hen] at h1
  exact ⟨hen, h1⟩
end Go.Kal
end
