/-
DeskRequests: the walk.
-/
import Derived.Test.YtacoaajilnpeiaaGreatDoorSh
import Derived.KernelRfl

set_option linter.unusedVariables false
set_option linter.unusedSimpArgs false

section
namespace Go.Kal
open Go Go.Proofs
set_option maxRecDepth 100000

noncomputable def E6 : Env := mkE I6
theorem ty9 : E6.ty 9 = some ⟨.string, 1, 16, .str []⟩ := by kernel_rfl
theorem ty28 : E6.ty 28 = some ⟨.slice 9, 1, 24, .nils⟩ := by kernel_rfl
theorem ty48 : E6.ty 48 = some ⟨.func #[9] #[4] false, 1, 8, .nilf⟩ := by kernel_rfl
theorem ty3 : E6.ty 3 = some ⟨.int .i64, 1, 8, .int .i64 0⟩ := by kernel_rfl
theorem fn47 : E6.fn 47 = some Tryz.f47 := by kernel_rfl
theorem wide47 : E6.wide 47 = true := by kernel_rfl
theorem wide45 : E6.wide 45 = false := by kernel_rfl

/-- one round of a loop over a function, by its parts -/
theorem round_eq {E : Env} {cv : Cv} {N l : Nat} {args : List AV} {h h1 h2 : H} {lp lp1 lp2 : Lp} {fr1 fr2 : T AV} {x : Ex} (h0 : h.get l = some (.loop lp)) (hst : lp.st = .ready) (hlen : args.length = lp.params.length) (hps : lp.params.all (fun p => decide (p < lp.nt)) = true)
    (e1 : exec E cv N lp.fn lp.nt (some l) lp.assign ⟨setParams lp.params args lp.fr, h, []⟩ = some (.normal, ⟨fr1, h1, []⟩)) (g1 : h1.get l = some (.loop lp1)) (s1 : lp1.st = .ready)
    (e2 : exec E cv N lp.fn lp.nt (some l) lp.body ⟨fr1, h1.set l (.loop { lp1 with st := .busy }), []⟩ = some (x, ⟨fr2, h2, []⟩)) (hx : exOf x = some x) (g2 : h2.get l = some (.loop lp2)) :
    round E cv N l args h = some (.val (.bool x.isNormal), h2.set l (.loop { lp2 with st := if x.isNormal then .ready else .done, pending := x })) := by
  unfold round
  simp only [loop?_get, h0, loopObj_loop, Option.bind_some, hst, hlen, hps, and_self, if_true, e1, g1, s1, List.isEmpty_nil, e2, hx, g2]

noncomputable def asg47 : Code := match Tryz.f47.body with
  | some (.seq _ (.seq (.seq _ (.block _ (.rangeFunc _ _ a _))) _)) => a
  | _ => .skip
noncomputable def bod47 : Code := match Tryz.f47.body with
  | some (.seq _ (.seq (.seq _ (.block _ (.rangeFunc _ _ _ b))) _)) => b
  | _ => .skip

/-- the row that AppendSeq has made -/
def Row (h : H) (v : AV) (ρ : Option Nat) (acc : List (List UInt8)) : Prop :=
  match ρ with
  | none => acc = [] ∧ v = .nils
  | some r => acc ≠ [] ∧ r < h.next ∧ v = .sl 1 false r 0 acc.length ∧ h.get r = some (.cells 9 (acc.map .str))

/-- AppendSeq's loop, between two rounds -/
structure A0 (h : H) (l c : Nat) (ρ : Option Nat) (acc : List (List UInt8)) : Prop where
  lp : ∃ fr pd, h.get l = some (.loop ⟨.ready, pd, fr, [7], asg47, bod47, 47, 13⟩) ∧ slot fr 2 = .ptr c 0 ∧ pd = .normal
  ll : l < h.next
  cl : c < h.next
  cell : ∃ v, h.get c = some (.cells 28 [v]) ∧ Row h v ρ acc

theorem asg47_ok {cv : Cv} {N l : Nat} {fr : T AV} {h : H} {x : List UInt8} : exec E6 cv N 47 13 (some l) asg47 ⟨setParams [7] [.str x] fr, h, []⟩ = some (.normal, ⟨(fr.set 7 (some (.str x))).set 5 (some (.str x)), h, []⟩) := by
  simp only [asg47, Tryz.f47, setParams_cons, setParams_nil]
  simp only [exec_seq, seqR_normal, seqR_ret, seqR_exit, seqR_ite, exec_block, blockR_normal, blockR_ret, blockR_exit, blockR_ite, exec_skip, exec_exit, exec_ret, exec_region, exec_cond, condR_bool, opList_nil, opList_bare, opList_guardO, guardO_some, dstOf_list, guardR_true, guardR_false, drawFin_some, drawL_nil, drawL_cons, drawS_val, drawS_val0, boolIs_t, boolIs_f, isDef_move, isDef_assign, isDef_pick, isDef_alloc, isDef_box, isDef_build, isDef_buildSlice, isDef_load, isDef_store, isDef_nilCheck, isDef_binOp, isDef_unOp, isDef_convert, isDef_makeInterface, isDef_makeFunc, isDef_makeMap, isDef_makeSlice, isDef_slice, isDef_fieldAddr, isDef_field, isDef_indexAddr, isDef_index, isDef_lookup, isDef_mapUpdate, isDef_insert, isDef_range, isDef_next, isDef_entry, isDef_typeAssert, isDef_extract, isDef_call, isDef_panic, stepR_val, stepR_val0, stepR_ite, one_move, one_assign, one_bin, one_un, one_pick, one_load, one_indexAddr, one_index, one_fieldAddr, one_call, one_box, one_store, one_builtin, one_buildSlice, one_slice, one_makeFunc, one_extract, callR3_some, valR_some, valR_ite, b1_some, b2_some, b2h_some, newR_some, memR_some, resR_some, resR_ite, pickR_bool, ev_tmp, ev_func, ev_global, ev_int, ev_bool, ev_str, ev_slice, ev_nilFunc, slot_set2, slot_frame0, optAll_nil, optAll_step, consO_some, Option.bind_some, intOp, bin_int, bin_str, strOp, unOp, ne_eq, reduceCtorEq, not_false_eq_true, Nat.reduceLT, Nat.reduceEqDiff, Nat.reduceAdd, Nat.reduceSub, Nat.reduceMul, reduceIte, Nat.max_def, Nat.reduceLeDiff, List.length_cons, List.length_nil, List.getElem?_cons_succ, List.getElem?_cons_zero, beq_self_eq_true, Bool.not_true, Bool.not_false, List.cons_append, List.nil_append, List.append_nil, get_push, next_push, next_set', next_kill', cells?_get, tok?_get, loop?_get, cellsObj_cells, tokObj_tok, loopObj_loop, H.get_set, H.get_kill, new_none, List.size_toArray, List.drop_zero, List.drop_succ_cons, List.take_succ_cons, List.take_zero, List.take_nil, List.drop_nil, List.head?_cons, List.isEmpty_nil, List.isEmpty_cons, cellsOfAll, List.flatMap_cons, List.flatMap_nil, AV.cells, ones, oneC, uniform, List.all_cons, List.all_nil, chunks, elemVal, buildEs, setNth, List.replicate_succ, List.replicate_zero, putCells, elemsOf, rowLike, Bool.and_true, Bool.true_and, decide_true, and_self, and_true, true_and, Bool.false_eq_true, Nat.mul_one, Nat.one_mul, if_true, if_false, Prod.fst, Prod.snd, plain, builtin, appendOp, storeVar, loadVar, part, TI.ag]

theorem bod47_nil {cv : Cv} {N l c : Nat} {fr : T AV} {h : H} {x : List UInt8} (hc : h.get c = some (.cells 28 [.nils])) (hn : c < h.next) (h5 : slot fr 5 = .str x) (h2 : slot fr 2 = .ptr c 0) :
    ∃ fr', exec E6 cv N 47 13 (some l) bod47 ⟨fr, h, []⟩ = some (.normal, ⟨fr', ((h.push (.cells 9 [.str x])).push (.cells 9 [.str x])).set c (.cells 28 [.sl 1 false (h.next + 1) 0 1]), []⟩) := by
  have n1 : c ≠ h.next := by omega
  have n2 : c ≠ h.next + 1 := by omega
  simp only [bod47, Tryz.f47, wide47, exec_seq, seqR_normal, seqR_ret, seqR_exit, seqR_ite, exec_block, blockR_normal, blockR_ret, blockR_exit, blockR_ite, exec_skip, exec_exit, exec_ret, exec_region, exec_cond, condR_bool, opList_nil, opList_bare, opList_guardO, guardO_some, dstOf_list, guardR_true, guardR_false, drawFin_some, drawL_nil, drawL_cons, drawS_val, drawS_val0, boolIs_t, boolIs_f, isDef_move, isDef_assign, isDef_pick, isDef_alloc, isDef_box, isDef_build, isDef_buildSlice, isDef_load, isDef_store, isDef_nilCheck, isDef_binOp, isDef_unOp, isDef_convert, isDef_makeInterface, isDef_makeFunc, isDef_makeMap, isDef_makeSlice, isDef_slice, isDef_fieldAddr, isDef_field, isDef_indexAddr, isDef_index, isDef_lookup, isDef_mapUpdate, isDef_insert, isDef_range, isDef_next, isDef_entry, isDef_typeAssert, isDef_extract, isDef_call, isDef_panic, stepR_val, stepR_val0, stepR_ite, one_move, one_assign, one_bin, one_un, one_pick, one_load, one_indexAddr, one_index, one_fieldAddr, one_call, one_box, one_store, one_builtin, one_buildSlice, one_slice, one_makeFunc, one_extract, callR3_some, valR_some, valR_ite, b1_some, b2_some, b2h_some, newR_some, memR_some, resR_some, resR_ite, pickR_bool, ev_tmp, ev_func, ev_global, ev_int, ev_bool, ev_str, ev_slice, ev_nilFunc, slot_set2, slot_frame0, optAll_nil, optAll_step, consO_some, Option.bind_some, intOp, bin_int, bin_str, strOp, unOp, ne_eq, reduceCtorEq, not_false_eq_true, Nat.reduceLT, Nat.reduceEqDiff, Nat.reduceAdd, Nat.reduceSub, Nat.reduceMul, reduceIte, Nat.max_def, Nat.reduceLeDiff, List.length_cons, List.length_nil, List.getElem?_cons_succ, List.getElem?_cons_zero, beq_self_eq_true, Bool.not_true, Bool.not_false, List.cons_append, List.nil_append, List.append_nil, get_push, next_push, next_set', next_kill', cells?_get, tok?_get, loop?_get, cellsObj_cells, tokObj_tok, loopObj_loop, H.get_set, H.get_kill, new_none, List.size_toArray, List.drop_zero, List.drop_succ_cons, List.take_succ_cons, List.take_zero, List.take_nil, List.drop_nil, List.head?_cons, List.isEmpty_nil, List.isEmpty_cons, cellsOfAll, List.flatMap_cons, List.flatMap_nil, AV.cells, ones, oneC, uniform, List.all_cons, List.all_nil, chunks, elemVal, buildEs, setNth, List.replicate_succ, List.replicate_zero, putCells, elemsOf, rowLike, Bool.and_true, Bool.true_and, decide_true, and_self, and_true, true_and, Bool.false_eq_true, Nat.mul_one, Nat.one_mul, if_true, if_false, Prod.fst, Prod.snd, plain, builtin, appendOp, storeVar, loadVar, part, TI.ag, h5, h2, hc, n1, n2, ty9, ty28, ty48]
  exact ⟨_, rfl⟩
theorem cellsOfAll_strs : ∀ l : List (List UInt8), cellsOfAll (l.map .str) = l.map .str
  | [] => rfl
  | x :: l => by
    have := cellsOfAll_strs l
    simp only [List.map_cons]
    show (AV.str x).cells ++ cellsOfAll (l.map .str) = _
    rw [this]
    rfl
theorem bod47_cons {cv : Cv} {N l c r : Nat} {fr : T AV} {h : H} {x : List UInt8} {cs : List (List UInt8)} (hc : h.get c = some (.cells 28 [.sl 1 false r 0 cs.length])) (hr : h.get r = some (.cells 9 (cs.map .str))) (hn : c < h.next) (hrn : r < h.next) (h5 : slot fr 5 = .str x) (h2 : slot fr 2 = .ptr c 0)
    (hb : (cs.length + 1) * 17 ≤ 35184372088832) :
    ∃ fr', exec E6 cv N 47 13 (some l) bod47 ⟨fr, h, []⟩ = some (.normal, ⟨fr', (((h.push (.cells 9 [.str x])).kill r).push (.cells 9 (cs.map .str ++ [.str x]))).set c (.cells 28 [.sl 1 false (h.next + 1) 0 (cs.length + 1)]), []⟩) := by
  have n1 : c ≠ h.next := by omega
  have n2 : c ≠ h.next + 1 := by omega
  have n3 : r ≠ h.next := by omega
  have n4 : r ≠ h.next + 1 := by omega
  have n5 : c ≠ r := fun e => by rw [e, hr] at hc; cases hc
  simp only [bod47, Tryz.f47, wide47, exec_seq, seqR_normal, seqR_ret, seqR_exit, seqR_ite, exec_block, blockR_normal, blockR_ret, blockR_exit, blockR_ite, exec_skip, exec_exit, exec_ret, exec_region, exec_cond, condR_bool, opList_nil, opList_bare, opList_guardO, guardO_some, dstOf_list, guardR_true, guardR_false, drawFin_some, drawL_nil, drawL_cons, drawS_val, drawS_val0, boolIs_t, boolIs_f, isDef_move, isDef_assign, isDef_pick, isDef_alloc, isDef_box, isDef_build, isDef_buildSlice, isDef_load, isDef_store, isDef_nilCheck, isDef_binOp, isDef_unOp, isDef_convert, isDef_makeInterface, isDef_makeFunc, isDef_makeMap, isDef_makeSlice, isDef_slice, isDef_fieldAddr, isDef_field, isDef_indexAddr, isDef_index, isDef_lookup, isDef_mapUpdate, isDef_insert, isDef_range, isDef_next, isDef_entry, isDef_typeAssert, isDef_extract, isDef_call, isDef_panic, stepR_val, stepR_val0, stepR_ite, one_move, one_assign, one_bin, one_un, one_pick, one_load, one_indexAddr, one_index, one_fieldAddr, one_call, one_box, one_store, one_builtin, one_buildSlice, one_slice, one_makeFunc, one_extract, callR3_some, valR_some, valR_ite, b1_some, b2_some, b2h_some, newR_some, memR_some, resR_some, resR_ite, pickR_bool, ev_tmp, ev_func, ev_global, ev_int, ev_bool, ev_str, ev_slice, ev_nilFunc, slot_set2, slot_frame0, optAll_nil, optAll_step, consO_some, Option.bind_some, intOp, bin_int, bin_str, strOp, unOp, ne_eq, reduceCtorEq, not_false_eq_true, Nat.reduceLT, Nat.reduceEqDiff, Nat.reduceAdd, Nat.reduceSub, Nat.reduceMul, reduceIte, Nat.max_def, Nat.reduceLeDiff, List.length_cons, List.length_nil, List.getElem?_cons_succ, List.getElem?_cons_zero, beq_self_eq_true, Bool.not_true, Bool.not_false, List.cons_append, List.nil_append, List.append_nil, get_push, next_push, next_set', next_kill', cells?_get, tok?_get, loop?_get, cellsObj_cells, tokObj_tok, loopObj_loop, H.get_set, H.get_kill, new_none, List.size_toArray, List.drop_zero, List.drop_succ_cons, List.take_succ_cons, List.take_zero, List.take_nil, List.drop_nil, List.head?_cons, List.isEmpty_nil, List.isEmpty_cons, cellsOfAll, List.flatMap_cons, List.flatMap_nil, AV.cells, ones, oneC, uniform, List.all_cons, List.all_nil, chunks, elemVal, buildEs, setNth, List.replicate_succ, List.replicate_zero, putCells, elemsOf, rowLike, Bool.and_true, Bool.true_and, decide_true, and_self, and_true, true_and, Bool.false_eq_true, Nat.mul_one, Nat.one_mul, if_true, if_false, Prod.fst, Prod.snd, plain, builtin, appendOp, storeVar, loadVar, part, TI.ag, h5, h2, hc, n1, n2, n3, n4, n5, hr, ty9, ty28, ty48, hb, List.length_map]
  exact ⟨_, rfl⟩

theorem Row.frame {h h' : H} {v : AV} {ρ : Option Nat} {acc : List (List UInt8)} (hr : Row h v ρ acc) (hn : h.next ≤ h'.next) (hk : ∀ r, ρ = some r → h'.get r = h.get r) : Row h' v ρ acc := by
  cases ρ with
  | none => exact hr
  | some r =>
    obtain ⟨a, b, c, d⟩ := hr
    exact ⟨a, by omega, c, by rw [hk r rfl]; exact d⟩
theorem A0.frame {h h' : H} {l c : Nat} {ρ : Option Nat} {acc : List (List UInt8)} (hA : A0 h l c ρ acc) (hn : h.next ≤ h'.next) (hl : h'.get l = h.get l) (hc : h'.get c = h.get c) (hk : ∀ r, ρ = some r → h'.get r = h.get r) : A0 h' l c ρ acc := by
  obtain ⟨⟨fr, pd, a, b⟩, d, e, v, f, g⟩ := hA
  exact ⟨⟨fr, pd, by rw [hl]; exact a, b⟩, by omega, by omega, v, by rw [hc]; exact f, g.frame hn hk⟩
/-- nothing else is the loop, the cell or the row -/
theorem A0.other {h : H} {l c : Nat} {ρ : Option Nat} {acc : List (List UInt8)} (hA : A0 h l c ρ acc) {i : Nat} {o : Obj} (hi : h.get i = some o) (h1 : ∀ p, o ≠ .loop p) (h2 : ∀ v, o ≠ .cells 28 [v]) (h3 : ∀ v, o ≠ .cells 9 v) : i ≠ l ∧ i ≠ c ∧ ρ ≠ some i := by
  obtain ⟨⟨fr, pd, a, b⟩, d, e, v, f, g⟩ := hA
  refine ⟨fun q => ?_, fun q => ?_, fun q => ?_⟩
  · subst q; rw [a] at hi; exact h1 _ (Option.some.inj hi).symm
  · subst q; rw [f] at hi; exact h2 _ (Option.some.inj hi).symm
  · subst q
    obtain ⟨_, _, _, g⟩ := g
    rw [g] at hi; exact h3 _ (Option.some.inj hi).symm

theorem A0_round {n N : Nat} {h : H} {l c : Nat} {ρ : Option Nat} {acc : List (List UInt8)} (hA : A0 h l c ρ acc) (x : List UInt8) (hb : (acc.length + 1) * 17 ≤ 35184372088832) :
    ∃ h' r, callV E6 N (n + 1) (.fn (.yield l) [] []) [.str x] h = some (.val (.bool true), h') ∧ A0 h' l c (some r) (acc ++ [x]) ∧ h.next ≤ r ∧ h.next ≤ h'.next ∧ ∀ i, i < h.next → i ≠ l → i ≠ c → ρ ≠ some i → h'.get i = h.get i := by
  obtain ⟨⟨fr, pd, hl, hs, hpd⟩, hll, hcl, v, hc, hr⟩ := hA
  have hlc : l ≠ c := fun e => by rw [e, hc] at hl; cases hl
  have hcl' : c ≠ l := fun e => hlc e.symm
  have e1 : l ≠ h.next := by omega
  have e2 : c ≠ h.next := by omega
  have e3 : l ≠ h.next + 1 := by omega
  have e4 : c ≠ h.next + 1 := by omega
  have e5 : h.next + 1 ≠ l := by omega
  have e6 : h.next + 1 ≠ c := by omega
  rw [callV_yield]
  cases ρ with
  | none =>
    obtain ⟨rfl, rfl⟩ := hr
    obtain ⟨fr', hx⟩ := bod47_nil (cv := callV E6 N n) (N := N) (l := l) (c := c) (fr := (fr.set 7 (some (.str x))).set 5 (some (.str x))) (h := h.set l (.loop ⟨.busy, pd, fr, [7], asg47, bod47, 47, 13⟩)) (x := x)
      (by rw [H.get_set, if_neg hcl']; exact hc) hcl (by simp only [slot_set2, if_true]) (by simp only [slot_set2, Nat.reduceEqDiff, if_false]; exact hs)
    refine ⟨_, h.next + 1, round_eq hl rfl rfl rfl (asg47_ok (h := h)) hl rfl hx rfl (by simp only [H.get_set, get_push, next_push, next_set', hlc, e1, e3, if_false, if_true]; rfl), ?_, by omega, by simp only [next_set', next_push]; omega, fun i hi a b d => ?_⟩
    · refine ⟨⟨fr, .normal, by simp only [H.get_set, if_true, Ex.isNormal], hs, rfl⟩, by simp only [next_set', next_push]; omega, by simp only [next_set', next_push]; omega, _, by simp only [H.get_set, hcl', if_false, if_true]; rfl, ?_⟩
      exact ⟨by simp, by simp only [next_set', next_push]; omega, rfl, by simp only [H.get_set, get_push, next_set', next_push, e5, e6, if_false, if_true]; rfl⟩
    · have : i ≠ h.next := by omega
      have : i ≠ h.next + 1 := by omega
      simp only [H.get_set, get_push, next_push, next_set', a, b, ‹i ≠ h.next›, ‹i ≠ h.next + 1›, if_false]
  | some r =>
    obtain ⟨hne, hrn, rfl, hr⟩ := hr
    have hrl : r ≠ l := fun e => by rw [e, hl] at hr; cases hr
    have hlr : l ≠ r := fun e => hrl e.symm
    have hrc : c ≠ r := fun e => by rw [e, hr] at hc; cases hc
    obtain ⟨fr', hx⟩ := bod47_cons (cv := callV E6 N n) (N := N) (l := l) (c := c) (r := r) (cs := acc) (fr := (fr.set 7 (some (.str x))).set 5 (some (.str x))) (h := h.set l (.loop ⟨.busy, pd, fr, [7], asg47, bod47, 47, 13⟩)) (x := x)
      (by rw [H.get_set, if_neg hcl']; exact hc) (by rw [H.get_set, if_neg hrl]; exact hr) hcl hrn (by simp only [slot_set2, if_true]) (by simp only [slot_set2, Nat.reduceEqDiff, if_false]; exact hs) hb
    refine ⟨_, h.next + 1, round_eq hl rfl rfl rfl (asg47_ok (h := h)) hl rfl hx rfl (by simp only [H.get_set, H.get_kill, get_push, next_push, next_set', next_kill', hlc, hlr, e1, e3, if_false, if_true]; rfl), ?_, by omega, by simp only [next_set', next_push, next_kill']; omega, fun i hi a b d => ?_⟩
    · refine ⟨⟨fr, .normal, by simp only [H.get_set, if_true, Ex.isNormal], hs, rfl⟩, by simp only [next_set', next_push, next_kill']; omega, by simp only [next_set', next_push, next_kill']; omega, _, by simp only [H.get_set, hcl', if_false, if_true]; rfl, ?_⟩
      exact ⟨by simp, by simp only [next_set', next_push, next_kill']; omega, by rw [List.length_append]; rfl, by simp only [H.get_set, get_push, next_set', next_push, next_kill', e5, e6, if_false, if_true, List.map_append]; rfl⟩
    · have : i ≠ h.next := by omega
      have : i ≠ h.next + 1 := by omega
      have : i ≠ r := fun e => d (by rw [e])
      simp only [H.get_set, H.get_kill, get_push, next_push, next_set', next_kill', a, b, ‹i ≠ h.next›, ‹i ≠ h.next + 1›, ‹i ≠ r›, if_false]

/-! desk.Requests: its loop over SplitSeq -/
noncomputable def asg45 : Code := match Tryz.f45.body with
  | some (.seq _ (.seq _ (.block _ (.rangeFunc _ _ a _)))) => a
  | _ => .skip
noncomputable def bod45 : Code := match Tryz.f45.body with
  | some (.seq _ (.seq _ (.block _ (.rangeFunc _ _ _ b)))) => b
  | _ => .skip
theorem asg45_ok {cv : Cv} {N l : Nat} {fr : T AV} {h : H} {x : List UInt8} : exec E6 cv N 45 15 (some l) asg45 ⟨setParams [6] [.str x] fr, h, []⟩ = some (.normal, ⟨(fr.set 6 (some (.str x))).set 3 (some (.str x)), h, []⟩) := by
  simp only [asg45, Tryz.f45, setParams_cons, setParams_nil]
  simp only [exec_seq, seqR_normal, seqR_ret, seqR_exit, seqR_ite, exec_block, blockR_normal, blockR_ret, blockR_exit, blockR_ite, exec_skip, exec_exit, exec_ret, exec_region, exec_cond, condR_bool, opList_nil, opList_bare, opList_guardO, guardO_some, dstOf_list, guardR_true, guardR_false, drawFin_some, drawL_nil, drawL_cons, drawS_val, drawS_val0, boolIs_t, boolIs_f, isDef_move, isDef_assign, isDef_pick, isDef_alloc, isDef_box, isDef_build, isDef_buildSlice, isDef_load, isDef_store, isDef_nilCheck, isDef_binOp, isDef_unOp, isDef_convert, isDef_makeInterface, isDef_makeFunc, isDef_makeMap, isDef_makeSlice, isDef_slice, isDef_fieldAddr, isDef_field, isDef_indexAddr, isDef_index, isDef_lookup, isDef_mapUpdate, isDef_insert, isDef_range, isDef_next, isDef_entry, isDef_typeAssert, isDef_extract, isDef_call, isDef_panic, stepR_val, stepR_val0, stepR_ite, one_move, one_assign, one_bin, one_un, one_pick, one_load, one_indexAddr, one_index, one_fieldAddr, one_call, one_box, one_store, one_builtin, one_buildSlice, one_slice, one_makeFunc, one_extract, callR3_some, valR_some, valR_ite, b1_some, b2_some, b2h_some, newR_some, memR_some, resR_some, resR_ite, pickR_bool, ev_tmp, ev_func, ev_global, ev_int, ev_bool, ev_str, ev_slice, ev_nilFunc, slot_set2, slot_frame0, optAll_nil, optAll_step, consO_some, Option.bind_some, intOp, bin_int, bin_str, strOp, unOp, ne_eq, reduceCtorEq, not_false_eq_true, Nat.reduceLT, Nat.reduceEqDiff, Nat.reduceAdd, Nat.reduceSub, Nat.reduceMul, reduceIte, Nat.max_def, Nat.reduceLeDiff, List.length_cons, List.length_nil, List.getElem?_cons_succ, List.getElem?_cons_zero, beq_self_eq_true, Bool.not_true, Bool.not_false, List.cons_append, List.nil_append, List.append_nil, get_push, next_push, next_set', next_kill', cells?_get, tok?_get, loop?_get, cellsObj_cells, tokObj_tok, loopObj_loop, H.get_set, H.get_kill, new_none, List.size_toArray, List.drop_zero, List.drop_succ_cons, List.take_succ_cons, List.take_zero, List.take_nil, List.drop_nil, List.head?_cons, List.isEmpty_nil, List.isEmpty_cons, cellsOfAll, List.flatMap_cons, List.flatMap_nil, AV.cells, ones, oneC, uniform, List.all_cons, List.all_nil, chunks, elemVal, buildEs, setNth, List.replicate_succ, List.replicate_zero, putCells, elemsOf, rowLike, Bool.and_true, Bool.true_and, decide_true, and_self, and_true, true_and, Bool.false_eq_true, Nat.mul_one, Nat.one_mul, if_true, if_false, Prod.fst, Prod.snd, plain, builtin, appendOp, storeVar, loadVar, part, TI.ag]
theorem bod45_nil {cv : Cv} {N l : Nat} {fr : T AV} {h : H} (h3 : slot fr 3 = .str []) : ∃ fr', exec E6 cv N 45 15 (some l) bod45 ⟨fr, h, []⟩ = some (.normal, ⟨fr', h, []⟩) := by
  simp only [bod45, Tryz.f45, wide45, exec_seq, seqR_normal, seqR_ret, seqR_exit, seqR_ite, exec_block, blockR_normal, blockR_ret, blockR_exit, blockR_ite, exec_skip, exec_exit, exec_ret, exec_region, exec_cond, condR_bool, opList_nil, opList_bare, opList_guardO, guardO_some, dstOf_list, guardR_true, guardR_false, drawFin_some, drawL_nil, drawL_cons, drawS_val, drawS_val0, boolIs_t, boolIs_f, isDef_move, isDef_assign, isDef_pick, isDef_alloc, isDef_box, isDef_build, isDef_buildSlice, isDef_load, isDef_store, isDef_nilCheck, isDef_binOp, isDef_unOp, isDef_convert, isDef_makeInterface, isDef_makeFunc, isDef_makeMap, isDef_makeSlice, isDef_slice, isDef_fieldAddr, isDef_field, isDef_indexAddr, isDef_index, isDef_lookup, isDef_mapUpdate, isDef_insert, isDef_range, isDef_next, isDef_entry, isDef_typeAssert, isDef_extract, isDef_call, isDef_panic, stepR_val, stepR_val0, stepR_ite, one_move, one_assign, one_bin, one_un, one_pick, one_load, one_indexAddr, one_index, one_fieldAddr, one_call, one_box, one_store, one_builtin, one_buildSlice, one_slice, one_makeFunc, one_extract, callR3_some, valR_some, valR_ite, b1_some, b2_some, b2h_some, newR_some, memR_some, resR_some, resR_ite, pickR_bool, ev_tmp, ev_func, ev_global, ev_int, ev_bool, ev_str, ev_slice, ev_nilFunc, slot_set2, slot_frame0, optAll_nil, optAll_step, consO_some, Option.bind_some, intOp, bin_int, bin_str, strOp, unOp, ne_eq, reduceCtorEq, not_false_eq_true, Nat.reduceLT, Nat.reduceEqDiff, Nat.reduceAdd, Nat.reduceSub, Nat.reduceMul, reduceIte, Nat.max_def, Nat.reduceLeDiff, List.length_cons, List.length_nil, List.getElem?_cons_succ, List.getElem?_cons_zero, beq_self_eq_true, Bool.not_true, Bool.not_false, List.cons_append, List.nil_append, List.append_nil, get_push, next_push, next_set', next_kill', cells?_get, tok?_get, loop?_get, cellsObj_cells, tokObj_tok, loopObj_loop, H.get_set, H.get_kill, new_none, List.size_toArray, List.drop_zero, List.drop_succ_cons, List.take_succ_cons, List.take_zero, List.take_nil, List.drop_nil, List.head?_cons, List.isEmpty_nil, List.isEmpty_cons, cellsOfAll, List.flatMap_cons, List.flatMap_nil, AV.cells, ones, oneC, uniform, List.all_cons, List.all_nil, chunks, elemVal, buildEs, setNth, List.replicate_succ, List.replicate_zero, putCells, elemsOf, rowLike, Bool.and_true, Bool.true_and, decide_true, and_self, and_true, true_and, Bool.false_eq_true, Nat.mul_one, Nat.one_mul, if_true, if_false, Prod.fst, Prod.snd, plain, builtin, appendOp, storeVar, loadVar, part, TI.ag, h3, List.toList_toArray]
  exact ⟨_, rfl⟩
theorem bod45_cons {cv : Cv} {N l y l0 : Nat} {fr : T AV} {h h' : H} {x : List UInt8} (hx : (x == []) = false) (h3 : slot fr 3 = .str x) (h2 : slot fr 2 = .ptr y 0) (hy : h.get y = some (.cells 48 [.fn (.yield l0) [] []])) (hcv : cv (.fn (.yield l0) [] []) [.str x] h = some (.val (.bool true), h')) :
    ∃ fr', exec E6 cv N 45 15 (some l) bod45 ⟨fr, h, []⟩ = some (.normal, ⟨fr', h', []⟩) := by
  simp only [bod45, Tryz.f45, wide45, exec_seq, seqR_normal, seqR_ret, seqR_exit, seqR_ite, exec_block, blockR_normal, blockR_ret, blockR_exit, blockR_ite, exec_skip, exec_exit, exec_ret, exec_region, exec_cond, condR_bool, opList_nil, opList_bare, opList_guardO, guardO_some, dstOf_list, guardR_true, guardR_false, drawFin_some, drawL_nil, drawL_cons, drawS_val, drawS_val0, boolIs_t, boolIs_f, isDef_move, isDef_assign, isDef_pick, isDef_alloc, isDef_box, isDef_build, isDef_buildSlice, isDef_load, isDef_store, isDef_nilCheck, isDef_binOp, isDef_unOp, isDef_convert, isDef_makeInterface, isDef_makeFunc, isDef_makeMap, isDef_makeSlice, isDef_slice, isDef_fieldAddr, isDef_field, isDef_indexAddr, isDef_index, isDef_lookup, isDef_mapUpdate, isDef_insert, isDef_range, isDef_next, isDef_entry, isDef_typeAssert, isDef_extract, isDef_call, isDef_panic, stepR_val, stepR_val0, stepR_ite, one_move, one_assign, one_bin, one_un, one_pick, one_load, one_indexAddr, one_index, one_fieldAddr, one_call, one_box, one_store, one_builtin, one_buildSlice, one_slice, one_makeFunc, one_extract, callR3_some, valR_some, valR_ite, b1_some, b2_some, b2h_some, newR_some, memR_some, resR_some, resR_ite, pickR_bool, ev_tmp, ev_func, ev_global, ev_int, ev_bool, ev_str, ev_slice, ev_nilFunc, slot_set2, slot_frame0, optAll_nil, optAll_step, consO_some, Option.bind_some, intOp, bin_int, bin_str, strOp, unOp, ne_eq, reduceCtorEq, not_false_eq_true, Nat.reduceLT, Nat.reduceEqDiff, Nat.reduceAdd, Nat.reduceSub, Nat.reduceMul, reduceIte, Nat.max_def, Nat.reduceLeDiff, List.length_cons, List.length_nil, List.getElem?_cons_succ, List.getElem?_cons_zero, beq_self_eq_true, Bool.not_true, Bool.not_false, List.cons_append, List.nil_append, List.append_nil, get_push, next_push, next_set', next_kill', cells?_get, tok?_get, loop?_get, cellsObj_cells, tokObj_tok, loopObj_loop, H.get_set, H.get_kill, new_none, List.size_toArray, List.drop_zero, List.drop_succ_cons, List.take_succ_cons, List.take_zero, List.take_nil, List.drop_nil, List.head?_cons, List.isEmpty_nil, List.isEmpty_cons, cellsOfAll, List.flatMap_cons, List.flatMap_nil, AV.cells, ones, oneC, uniform, List.all_cons, List.all_nil, chunks, elemVal, buildEs, setNth, List.replicate_succ, List.replicate_zero, putCells, elemsOf, rowLike, Bool.and_true, Bool.true_and, decide_true, and_self, and_true, true_and, Bool.false_eq_true, Nat.mul_one, Nat.one_mul, if_true, if_false, Prod.fst, Prod.snd, plain, builtin, appendOp, storeVar, loadVar, part, TI.ag, h3, h2, hy, hx, hcv, ty48]
  exact ⟨_, rfl⟩

/-- desk.Requests' loop, between two rounds: 'y' holds its yield -/
structure A1 (h : H) (l y l0 c : Nat) (ρ : Option Nat) (acc : List (List UInt8)) : Prop where
  lp : ∃ fr pd, h.get l = some (.loop ⟨.ready, pd, fr, [6], asg45, bod45, 45, 15⟩) ∧ slot fr 2 = .ptr y 0 ∧ pd = .normal
  ll : l < h.next
  yl : y < h.next
  cell : h.get y = some (.cells 48 [.fn (.yield l0) [] []])
  a0 : A0 h l0 c ρ acc
  apart : l ≠ l0

def nonE (x : List UInt8) : List (List UInt8) := if x = [] then [] else [x]

theorem A0.ids {h : H} {l c : Nat} {ρ : Option Nat} {acc : List (List UInt8)} (hA : A0 h l c ρ acc) : ∀ r, ρ = some r → r < h.next := by
  obtain ⟨_, _, _, v, _, g⟩ := hA
  intro r e
  subst e
  exact g.2.1

theorem A1_round {n N : Nat} {h : H} {l y l0 c : Nat} {ρ : Option Nat} {acc : List (List UInt8)} (hA : A1 h l y l0 c ρ acc) (x : List UInt8) (hb : (acc.length + 1) * 17 ≤ 35184372088832) :
    ∃ h' ρ', callV E6 N (n + 2) (.fn (.yield l) [] []) [.str x] h = some (.val (.bool true), h') ∧ A1 h' l y l0 c ρ' (acc ++ nonE x) ∧ h.next ≤ h'.next ∧ (∀ i, i < h.next → i ≠ l → i ≠ l0 → i ≠ c → ρ ≠ some i → h'.get i = h.get i) ∧ (ρ' = ρ ∨ ∃ r, ρ' = some r ∧ h.next ≤ r) := by
  obtain ⟨⟨fr, pd, hl, hs, hpd⟩, hll, hyl, hy, h0, hap⟩ := hA
  have hly : l ≠ y := fun e => by rw [e, hy] at hl; cases hl
  have hyl' : y ≠ l := fun e => hly e.symm
  obtain ⟨fr0, pd0, hl0, _⟩ := h0.lp
  have hlc : l ≠ c := fun e => by
    obtain ⟨v, q, _⟩ := h0.cell
    rw [e, q] at hl; cases hl
  have hlr : ∀ r, ρ = some r → r ≠ l := fun r e q => by
    subst e q
    obtain ⟨v, _, _, _, _, q⟩ := h0.cell
    rw [q] at hl; cases hl
  obtain ⟨yo1, yo2, yo3⟩ := h0.other hy (fun p => by simp) (fun v => by simp) (fun v => by simp)
  have h0' : A0 (h.set l (.loop ⟨.busy, pd, fr, [6], asg45, bod45, 45, 15⟩)) l0 c ρ acc := h0.frame (Nat.le_refl _) (by rw [H.get_set, if_neg (fun e => hap e.symm)]) (by rw [H.get_set, if_neg (fun e => hlc e.symm)]) (fun r e => by rw [H.get_set, if_neg (hlr r e)])
  rw [callV_yield]
  by_cases hx : x = []
  · subst hx
    obtain ⟨fr', hx⟩ := bod45_nil (cv := callV E6 N (n + 1)) (N := N) (l := l) (fr := (fr.set 6 (some (.str []))).set 3 (some (.str []))) (h := h.set l (.loop ⟨.busy, pd, fr, [6], asg45, bod45, 45, 15⟩)) (by simp only [slot_set2, if_true])
    refine ⟨_, ρ, round_eq hl rfl rfl rfl (asg45_ok (h := h)) hl rfl hx rfl (by simp only [H.get_set, if_true]; rfl), ?_, Nat.le_refl _, fun i hi a b d e => ?_, .inl rfl⟩
    · refine ⟨⟨fr, .normal, by simp only [H.get_set, if_true, Ex.isNormal], hs, rfl⟩, hll, hyl, by simp only [H.get_set, hyl', if_false]; exact hy, ?_, hap⟩
      simp only [nonE, if_true, List.append_nil]
      exact h0'.frame (Nat.le_refl _) (by simp only [H.get_set, fun e => hap (Eq.symm e), if_false]; rw [if_neg (fun e => hap e.symm), if_neg (fun e => hap e.symm)]) (by rw [H.get_set, if_neg (fun e => hlc e.symm)]) (fun r e => by rw [H.get_set, if_neg (hlr r e)])
    · simp only [H.get_set, a, if_false]
  · obtain ⟨h', r, e1, e2, e3, e4, e5⟩ := A0_round (n := n) (N := N) h0' x hb
    obtain ⟨fr', hx'⟩ := bod45_cons (cv := callV E6 N (n + 1)) (N := N) (l := l) (y := y) (l0 := l0) (fr := (fr.set 6 (some (.str x))).set 3 (some (.str x))) (h := h.set l (.loop ⟨.busy, pd, fr, [6], asg45, bod45, 45, 15⟩)) (x := x) (by simpa using hx)
      (by simp only [slot_set2, if_true]) (by simp only [slot_set2, Nat.reduceEqDiff, if_false]; exact hs) (by rw [H.get_set, if_neg hyl']; exact hy) e1
    have hn : (h.set l (.loop ⟨.busy, pd, fr, [6], asg45, bod45, 45, 15⟩)).next = h.next := rfl
    rw [hn] at e3 e4 e5
    refine ⟨_, some r, round_eq hl rfl rfl rfl (asg45_ok (h := h)) hl rfl hx' rfl (by rw [e5 l hll hap hlc (fun e => hlr l e rfl), H.get_set, if_pos rfl]), ?_, e4, fun i hi a b d e => ?_, .inr ⟨r, rfl, e3⟩⟩
    · refine ⟨⟨fr, .normal, by simp only [H.get_set, if_true, Ex.isNormal], hs, rfl⟩, Nat.lt_of_lt_of_le hll e4, Nat.lt_of_lt_of_le hyl e4, ?_, ?_, hap⟩
      · rw [H.get_set, if_neg hyl', e5 y hyl yo1 yo2 yo3, H.get_set, if_neg hyl']
        exact hy
      · simp only [nonE, hx, if_false]
        refine e2.frame (Nat.le_refl _) (by rw [H.get_set, if_neg (fun e => hap e.symm)]) (by rw [H.get_set, if_neg (fun e => hlc e.symm)]) (fun r' e => ?_)
        cases e
        rw [H.get_set, if_neg (by omega)]
    · rw [H.get_set, if_neg a, e5 i hi b d e, H.get_set, if_neg a]

/-! strings.SplitSeq -/
noncomputable def bod141 : Code := match Tryz.f141.body with
  | some (.seq _ (.seq (.block _ (.loop b)) _)) => b
  | _ => .skip
theorem cv32 {n N : Nat} {s : List UInt8} {c : UInt8} {h : H} : callV E6 N (n + 1) (.fn (.func 32) [] []) [.str s, .str [c]] h = some (.val (.int .i64 (idxB c s 0)), h) := by
  rw [callV_func]
  exact callF_intr (show E6.intr 32 = some nIndex by kernel_rfl) rfl
theorem wide141 : E6.wide 141 = false := by kernel_rfl

/-- splitSeq's loop: where its parts lie -/
structure A2 (fr : T AV) (h : H) (l p q k : Nat) (s : List UInt8) : Prop where
  s0 : slot fr 0 = .fn (.yield l) [] []
  s1 : slot fr 1 = .ptr p 0
  s2 : slot fr 2 = .ptr q 0
  s3 : slot fr 3 = .ptr k 0
  sep : h.get p = some (.cells 9 [.str [10]])
  str : h.get q = some (.cells 9 [.str s])
  sav : h.get k = some (.cells 3 [.int .i64 0])

theorem bod141_miss {cv : Cv} {N l p q k : Nat} {fr : T AV} {h : H} {s : List UInt8} (hA : A2 fr h l p q k s) (hi : idxB 10 s 0 < 0) (hcv : cv (.fn (.func 32) [] []) [.str s, .str [10]] h = some (.val (.int .i64 (idxB 10 s 0)), h)) :
    ∃ fr', exec E6 cv N 141 52 none bod141 ⟨fr, h, []⟩ = some (.exit 2, ⟨fr', h, []⟩) ∧ A2 fr' h l p q k s := by
  obtain ⟨s0, s1, s2, s3, g1, g2, g3⟩ := hA
  simp only [bod141, Tryz.f141, wide141, exec_seq, seqR_normal, seqR_ret, seqR_exit, seqR_ite, exec_block, blockR_normal, blockR_ret, blockR_exit, blockR_ite, exec_skip, exec_exit, exec_ret, exec_region, exec_cond, condR_bool, opList_nil, opList_bare, opList_guardO, guardO_some, dstOf_list, guardR_true, guardR_false, drawFin_some, drawL_nil, drawL_cons, drawS_val, drawS_val0, boolIs_t, boolIs_f, isDef_move, isDef_assign, isDef_pick, isDef_alloc, isDef_box, isDef_build, isDef_buildSlice, isDef_load, isDef_store, isDef_nilCheck, isDef_binOp, isDef_unOp, isDef_convert, isDef_makeInterface, isDef_makeFunc, isDef_makeMap, isDef_makeSlice, isDef_slice, isDef_fieldAddr, isDef_field, isDef_indexAddr, isDef_index, isDef_lookup, isDef_mapUpdate, isDef_insert, isDef_range, isDef_next, isDef_entry, isDef_typeAssert, isDef_extract, isDef_call, isDef_panic, stepR_val, stepR_val0, stepR_ite, one_move, one_assign, one_bin, one_un, one_pick, one_load, one_indexAddr, one_index, one_fieldAddr, one_call, one_box, one_store, one_builtin, one_buildSlice, one_slice, one_makeFunc, one_extract, callR3_some, valR_some, valR_ite, b1_some, b2_some, b2h_some, newR_some, memR_some, resR_some, resR_ite, pickR_bool, ev_tmp, ev_func, ev_global, ev_int, ev_bool, ev_str, ev_slice, ev_nilFunc, slot_set2, slot_frame0, optAll_nil, optAll_step, consO_some, Option.bind_some, intOp, bin_int, bin_str, strOp, unOp, ne_eq, reduceCtorEq, not_false_eq_true, Nat.reduceLT, Nat.reduceEqDiff, Nat.reduceAdd, Nat.reduceSub, Nat.reduceMul, reduceIte, Nat.max_def, Nat.reduceLeDiff, List.length_cons, List.length_nil, List.getElem?_cons_succ, List.getElem?_cons_zero, beq_self_eq_true, Bool.not_true, Bool.not_false, List.cons_append, List.nil_append, List.append_nil, get_push, next_push, next_set', next_kill', cells?_get, tok?_get, loop?_get, cellsObj_cells, tokObj_tok, loopObj_loop, H.get_set, H.get_kill, new_none, List.size_toArray, List.drop_zero, List.drop_succ_cons, List.take_succ_cons, List.take_zero, List.take_nil, List.drop_nil, List.head?_cons, List.isEmpty_nil, List.isEmpty_cons, cellsOfAll, List.flatMap_cons, List.flatMap_nil, AV.cells, ones, oneC, uniform, List.all_cons, List.all_nil, chunks, elemVal, buildEs, setNth, List.replicate_succ, List.replicate_zero, putCells, elemsOf, rowLike, Bool.and_true, Bool.true_and, decide_true, and_self, and_true, true_and, Bool.false_eq_true, Nat.mul_one, Nat.one_mul, if_true, if_false, Prod.fst, Prod.snd, plain, builtin, appendOp, storeVar, loadVar, part, TI.ag, s0, s1, s2, s3, g1, g2, g3, hcv, ty9, ty3, hi]
  exact ⟨_, rfl, by simp only [slot_set2, Nat.reduceEqDiff, if_false, s0], by simp only [slot_set2, Nat.reduceEqDiff, if_false, s1], by simp only [slot_set2, Nat.reduceEqDiff, if_false, s2], by simp only [slot_set2, Nat.reduceEqDiff, if_false, s3], g1, g2, g3⟩

theorem asNat_nat {k : IntKind} {i : Nat} : asNat (.int k (i : Int)) = some i := by simp [asNat]
theorem wrap_nat {i : Nat} (h : i ≤ 9223372036854775807) : wrap .i64 (i : Int) = (i : Int) := by
  unfold wrap
  simp only
  rw [if_pos (by omega), if_pos (by omega)]
theorem bod141_hit {cv : Cv} {N l p q k i : Nat} {fr : T AV} {h h' : H} {s : List UInt8} (hA : A2 fr h l p q k s) (hi : idxB 10 s 0 = (i : Int)) (hil : i < s.length) (hsl : s.length ≤ 1000000) (hcv : cv (.fn (.func 32) [] []) [.str s, .str [10]] h = some (.val (.int .i64 (idxB 10 s 0)), h))
    (hy : cv (.fn (.yield l) [] []) [.str (s.take i)] h = some (.val (.bool true), h')) (gp : h'.get p = h.get p) (gq : h'.get q = h.get q) (gk : h'.get k = h.get k) (hpq : p ≠ q) (hkq : k ≠ q) :
    ∃ fr', exec E6 cv N 141 52 none bod141 ⟨fr, h, []⟩ = some (.normal, ⟨fr', h'.set q (.cells 9 [.str (s.drop (i + 1))]), []⟩) ∧ A2 fr' (h'.set q (.cells 9 [.str (s.drop (i + 1))])) l p q k (s.drop (i + 1)) := by
  obtain ⟨s0, s1, s2, s3, g1, g2, g3⟩ := hA
  have w0 : wrap .i64 ((i : Int) + 0) = (i : Int) := by rw [Int.add_zero]; exact wrap_nat (by omega)
  have w1 : wrap .i64 ((i : Int) + ((1 : Nat) : Int)) = ((i + 1 : Nat) : Int) := by
    have := wrap_nat (i := i + 1) (by omega)
    rw [← this]; rfl
  have c1 : 0 ≤ i ∧ i ≤ s.length := ⟨Nat.zero_le _, by omega⟩
  have c2 : i + 1 ≤ s.length ∧ s.length ≤ s.length := ⟨by omega, Nat.le_refl _⟩
  have c3 : ¬ (i : Int) < 0 := by omega
  have d0 : (s.take i).drop 0 = s.take i := rfl
  have d1 : (s.take s.length).drop (i + 1) = s.drop (i + 1) := by rw [List.take_length]
  have g1' := gp.trans g1
  have g2' := gq.trans g2
  simp only [bod141, Tryz.f141, wide141, exec_seq, seqR_normal, seqR_ret, seqR_exit, seqR_ite, exec_block, blockR_normal, blockR_ret, blockR_exit, blockR_ite, exec_skip, exec_exit, exec_ret, exec_region, exec_cond, condR_bool, opList_nil, opList_bare, opList_guardO, guardO_some, dstOf_list, guardR_true, guardR_false, drawFin_some, drawL_nil, drawL_cons, drawS_val, drawS_val0, boolIs_t, boolIs_f, isDef_move, isDef_assign, isDef_pick, isDef_alloc, isDef_box, isDef_build, isDef_buildSlice, isDef_load, isDef_store, isDef_nilCheck, isDef_binOp, isDef_unOp, isDef_convert, isDef_makeInterface, isDef_makeFunc, isDef_makeMap, isDef_makeSlice, isDef_slice, isDef_fieldAddr, isDef_field, isDef_indexAddr, isDef_index, isDef_lookup, isDef_mapUpdate, isDef_insert, isDef_range, isDef_next, isDef_entry, isDef_typeAssert, isDef_extract, isDef_call, isDef_panic, stepR_val, stepR_val0, stepR_ite, one_move, one_assign, one_bin, one_un, one_pick, one_load, one_indexAddr, one_index, one_fieldAddr, one_call, one_box, one_store, one_builtin, one_buildSlice, one_slice, one_makeFunc, one_extract, callR3_some, valR_some, valR_ite, b1_some, b2_some, b2h_some, newR_some, memR_some, resR_some, resR_ite, pickR_bool, ev_tmp, ev_func, ev_global, ev_int, ev_bool, ev_str, ev_slice, ev_nilFunc, slot_set2, slot_frame0, optAll_nil, optAll_step, consO_some, Option.bind_some, intOp, bin_int, bin_str, strOp, unOp, ne_eq, reduceCtorEq, not_false_eq_true, Nat.reduceLT, Nat.reduceEqDiff, Nat.reduceAdd, Nat.reduceSub, Nat.reduceMul, reduceIte, Nat.max_def, Nat.reduceLeDiff, List.length_cons, List.length_nil, List.getElem?_cons_succ, List.getElem?_cons_zero, beq_self_eq_true, Bool.not_true, Bool.not_false, List.cons_append, List.nil_append, List.append_nil, get_push, next_push, next_set', next_kill', cells?_get, tok?_get, loop?_get, cellsObj_cells, tokObj_tok, loopObj_loop, H.get_set, H.get_kill, new_none, List.size_toArray, List.drop_zero, List.drop_succ_cons, List.take_succ_cons, List.take_zero, List.take_nil, List.drop_nil, List.head?_cons, List.isEmpty_nil, List.isEmpty_cons, cellsOfAll, List.flatMap_cons, List.flatMap_nil, AV.cells, ones, oneC, uniform, List.all_cons, List.all_nil, chunks, elemVal, buildEs, setNth, List.replicate_succ, List.replicate_zero, putCells, elemsOf, rowLike, Bool.and_true, Bool.true_and, decide_true, and_self, and_true, true_and, Bool.false_eq_true, Nat.mul_one, Nat.one_mul, if_true, if_false, Prod.fst, Prod.snd, plain, builtin, appendOp, storeVar, loadVar, part, TI.ag, s0, s1, s2, s3, g1, g2, g3, g1', g2', hcv, ty9, ty3, hi, c3, decide_false, w0, sliceOp, bound, asNat_nat, c1, lenOp, hy, w1, c2, d1]
  refine ⟨_, rfl, by simp only [slot_set2, Nat.reduceEqDiff, if_false, s0], by simp only [slot_set2, Nat.reduceEqDiff, if_false, s1], by simp only [slot_set2, Nat.reduceEqDiff, if_false, s2], by simp only [slot_set2, Nat.reduceEqDiff, if_false, s3], ?_, ?_, ?_⟩
  · rw [H.get_set, if_neg hpq]; exact g1'
  · rw [H.get_set, if_pos rfl]
  · rw [H.get_set, if_neg hkq]; exact gk.trans g3

theorem idxB_lt {c : UInt8} : ∀ {s : List UInt8} {j i : Nat}, idxB c s j = (i : Int) → j ≤ i ∧ i < j + s.length
  | [], j, i, h => by simp only [idxB] at h; omega
  | b :: s, j, i, h => by
    simp only [idxB] at h
    split at h
    · simp only [List.length_cons]; omega
    · have := idxB_lt h
      simp only [List.length_cons]; omega
theorem idxB_neg {c : UInt8} : ∀ {s : List UInt8} {j : Nat}, idxB c s j < 0 → idxB c s j = -1
  | [], j, h => rfl
  | b :: s, j, h => by
    simp only [idxB] at h ⊢
    split at h
    · omega
    · rename_i hb
      rw [if_neg hb]
      exact idxB_neg h

def lines (s : List UInt8) : List (List UInt8) := (splitC 10 s).flatMap nonE

theorem lines_miss {s : List UInt8} (h : idxB 10 s 0 < 0) : lines s = nonE s := by
  have := idxB_neg h
  rw [idxB_eq] at this
  simp only [lines, split_miss this, List.flatMap_cons, List.flatMap_nil, List.append_nil]
theorem lines_hit {s : List UInt8} {i : Nat} (h : idxB 10 s 0 = (i : Int)) : lines s = nonE (s.take i) ++ lines (s.drop (i + 1)) := by
  rw [idxB_eq] at h
  simp only [lines, split_hit h, List.flatMap_cons]
theorem nonE_len (x : List UInt8) : (nonE x).length ≤ 1 := by
  unfold nonE; split <;> simp

/-- what stays out of the loops' way -/
structure Out (h : H) (l l0 c : Nat) (ρ : Option Nat) (i : Nat) : Prop where
  lt : i < h.next
  l : i ≠ l
  l0 : i ≠ l0
  c : i ≠ c
  r : ρ ≠ some i

theorem A1.frame {h h' : H} {l y l0 c : Nat} {ρ : Option Nat} {acc : List (List UInt8)} (hA : A1 h l y l0 c ρ acc) (hn : h.next ≤ h'.next) (hl : h'.get l = h.get l) (hy : h'.get y = h.get y) (hl0 : h'.get l0 = h.get l0) (hc : h'.get c = h.get c) (hk : ∀ r, ρ = some r → h'.get r = h.get r) : A1 h' l y l0 c ρ acc := by
  obtain ⟨⟨fr, pd, a, b⟩, d, e, f, g, i⟩ := hA
  exact ⟨⟨fr, pd, by rw [hl]; exact a, b⟩, by omega, by omega, by rw [hy]; exact f, g.frame hn hl0 hc hk, i⟩

theorem loop141 {n N : Nat} {l y l0 c p q k : Nat} (hpq : p ≠ q) (hkq : k ≠ q) : ∀ (m : Nat) {s : List UInt8} {fr : T AV} {h : H} {ρ : Option Nat} {acc : List (List UInt8)}, s.length < m → acc.length + s.length ≤ 1000000 → A1 h l y l0 c ρ acc → A2 fr h l p q k s →
    Out h l l0 c ρ p → Out h l l0 c ρ q → Out h l l0 c ρ k → (y ≠ q) →
    ∃ fr' h' ρ' s' acc', loopN (exec E6 (callV E6 N (n + 2)) N 141 52 none bod141) m ⟨fr, h, []⟩ = some (.exit 2, ⟨fr', h', []⟩) ∧ A1 h' l y l0 c ρ' acc' ∧ A2 fr' h' l p q k s' ∧ acc' ++ nonE s' = acc ++ lines s ∧ acc'.length ≤ 1000000 ∧
      h.next ≤ h'.next ∧ (∀ i, Out h l l0 c ρ i → i ≠ q → h'.get i = h.get i ∧ Out h' l l0 c ρ' i)
  | 0, _, _, _, _, _, hm, _, _, _, _, _, _, _ => by omega
  | m + 1, s, fr, h, ρ, acc, hm, hlen, h1, h2, op, oq, ok, hyq => by
    by_cases hi : idxB 10 s 0 < 0
    · obtain ⟨fr', e, hA⟩ := bod141_miss (cv := callV E6 N (n + 2)) (N := N) h2 hi cv32
      refine ⟨fr', h, ρ, s, acc, ?_, h1, hA, by rw [lines_miss hi], by omega, Nat.le_refl _, fun i o _ => ⟨rfl, o⟩⟩
      simp only [loopN, e, Option.bind_some]
    · obtain ⟨i, hi'⟩ : ∃ i : Nat, idxB 10 s 0 = (i : Int) := ⟨(idxB 10 s 0).toNat, by omega⟩
      have hil := (idxB_lt hi').2
      obtain ⟨h', ρ', e1, e2, e3, e4, e5⟩ := A1_round (n := n) (N := N) h1 (s.take i) (by omega)
      obtain ⟨fr', e6, e7⟩ := bod141_hit (cv := callV E6 N (n + 2)) (N := N) h2 hi' (by omega) (by omega) cv32 e1 (e4 p op.lt op.l op.l0 op.c op.r) (e4 q oq.lt oq.l oq.l0 oq.c oq.r) (e4 k ok.lt ok.l ok.l0 ok.c ok.r) hpq hkq
      have ho : ∀ j, Out h l l0 c ρ j → Out (h'.set q (.cells 9 [.str (s.drop (i + 1))])) l l0 c ρ' j := fun j o => ⟨Nat.lt_of_lt_of_le o.lt e3, o.l, o.l0, o.c, by
        rcases e5 with rfl | ⟨r, rfl, hr⟩
        · exact o.r
        · intro e; cases e; have := o.lt; omega⟩
      have hq' := ho q oq
      have h1' : A1 (h'.set q (.cells 9 [.str (s.drop (i + 1))])) l y l0 c ρ' (acc ++ nonE (s.take i)) := e2.frame (Nat.le_refl _) (by rw [H.get_set, if_neg (fun e => hq'.l e.symm)]) (by rw [H.get_set, if_neg hyq]) (by rw [H.get_set, if_neg (fun e => hq'.l0 e.symm)]) (by rw [H.get_set, if_neg (fun e => hq'.c e.symm)])
        (fun r e => by rw [H.get_set, if_neg (fun q => hq'.r (by rw [e, q]))])
      have hnl := nonE_len (s.take i)
      obtain ⟨fr2, h2', ρ2, s', acc', f1, f2, f3, f4, f5, f6, f7⟩ := loop141 hpq hkq m (s := s.drop (i + 1)) (by rw [List.length_drop]; omega) (by rw [List.length_append, List.length_drop]; omega) h1' e7 (ho p op) (ho q oq) (ho k ok) hyq
      refine ⟨fr2, h2', ρ2, s', acc', ?_, f2, f3, by rw [f4, lines_hit hi', List.append_assoc], f5, Nat.le_trans e3 f6, fun j o hj => ?_⟩
      · simp only [loopN, e6, Option.bind_some]
        exact f1
      · obtain ⟨g1, g2⟩ := f7 j (ho j o) hj
        exact ⟨by rw [g1, H.get_set, if_neg hj, e4 j o.lt o.l o.l0 o.c o.r], g2⟩

/-! the whole of the generator -/
theorem fn141 : E6.fn 141 = some Tryz.f141 := by kernel_rfl
theorem intr141 : E6.intr 141 = none := by kernel_rfl
noncomputable def pre141 : Code := match Tryz.f141.body with
  | some (.seq a (.seq (.block _ (.loop _)) _)) => a
  | _ => .skip
noncomputable def post141 : Code := match Tryz.f141.body with
  | some (.seq _ (.seq (.block _ (.loop _)) b)) => b
  | _ => .skip
theorem body141 : Tryz.f141.body = some (.seq pre141 (.seq (.block 2 (.loop bod141)) post141)) := rfl
theorem pre141_ok {cv : Cv} {N l p q k : Nat} {fr : T AV} {h : H} {s : List UInt8} (hA : A2 fr h l p q k s) : ∃ fr', exec E6 cv N 141 52 none pre141 ⟨fr, h, []⟩ = some (.normal, ⟨fr', h, []⟩) ∧ A2 fr' h l p q k s := by
  obtain ⟨s0, s1, s2, s3, g1, g2, g3⟩ := hA
  have w1 : ((((1 : Nat) : Int)) == 0) = false := rfl
  simp only [pre141, Tryz.f141, wide141, exec_seq, seqR_normal, seqR_ret, seqR_exit, seqR_ite, exec_block, blockR_normal, blockR_ret, blockR_exit, blockR_ite, exec_skip, exec_exit, exec_ret, exec_region, exec_cond, condR_bool, opList_nil, opList_bare, opList_guardO, guardO_some, dstOf_list, guardR_true, guardR_false, drawFin_some, drawL_nil, drawL_cons, drawS_val, drawS_val0, boolIs_t, boolIs_f, isDef_move, isDef_assign, isDef_pick, isDef_alloc, isDef_box, isDef_build, isDef_buildSlice, isDef_load, isDef_store, isDef_nilCheck, isDef_binOp, isDef_unOp, isDef_convert, isDef_makeInterface, isDef_makeFunc, isDef_makeMap, isDef_makeSlice, isDef_slice, isDef_fieldAddr, isDef_field, isDef_indexAddr, isDef_index, isDef_lookup, isDef_mapUpdate, isDef_insert, isDef_range, isDef_next, isDef_entry, isDef_typeAssert, isDef_extract, isDef_call, isDef_panic, stepR_val, stepR_val0, stepR_ite, one_move, one_assign, one_bin, one_un, one_pick, one_load, one_indexAddr, one_index, one_fieldAddr, one_call, one_box, one_store, one_builtin, one_buildSlice, one_slice, one_makeFunc, one_extract, callR3_some, valR_some, valR_ite, b1_some, b2_some, b2h_some, newR_some, memR_some, resR_some, resR_ite, pickR_bool, ev_tmp, ev_func, ev_global, ev_int, ev_bool, ev_str, ev_slice, ev_nilFunc, slot_set2, slot_frame0, optAll_nil, optAll_step, consO_some, Option.bind_some, intOp, bin_int, bin_str, strOp, unOp, ne_eq, reduceCtorEq, not_false_eq_true, Nat.reduceLT, Nat.reduceEqDiff, Nat.reduceAdd, Nat.reduceSub, Nat.reduceMul, reduceIte, Nat.max_def, Nat.reduceLeDiff, List.length_cons, List.length_nil, List.getElem?_cons_succ, List.getElem?_cons_zero, beq_self_eq_true, Bool.not_true, Bool.not_false, List.cons_append, List.nil_append, List.append_nil, get_push, next_push, next_set', next_kill', cells?_get, tok?_get, loop?_get, cellsObj_cells, tokObj_tok, loopObj_loop, H.get_set, H.get_kill, new_none, List.size_toArray, List.drop_zero, List.drop_succ_cons, List.take_succ_cons, List.take_zero, List.take_nil, List.drop_nil, List.head?_cons, List.isEmpty_nil, List.isEmpty_cons, cellsOfAll, List.flatMap_cons, List.flatMap_nil, AV.cells, ones, oneC, uniform, List.all_cons, List.all_nil, chunks, elemVal, buildEs, setNth, List.replicate_succ, List.replicate_zero, putCells, elemsOf, rowLike, Bool.and_true, Bool.true_and, decide_true, and_self, and_true, true_and, Bool.false_eq_true, Nat.mul_one, Nat.one_mul, if_true, if_false, Prod.fst, Prod.snd, plain, builtin, appendOp, storeVar, loadVar, part, TI.ag, s0, s1, s2, s3, g1, g2, g3, ty9, ty3, lenOp, w1]
  exact ⟨_, rfl, by simp only [slot_set2, Nat.reduceEqDiff, if_false, s0], by simp only [slot_set2, Nat.reduceEqDiff, if_false, s1], by simp only [slot_set2, Nat.reduceEqDiff, if_false, s2], by simp only [slot_set2, Nat.reduceEqDiff, if_false, s3], g1, g2, g3⟩
theorem post141_ok {cv : Cv} {N l p q k : Nat} {fr : T AV} {h h' : H} {s : List UInt8} (hA : A2 fr h l p q k s) (hy : cv (.fn (.yield l) [] []) [.str s] h = some (.val (.bool true), h')) : ∃ fr', exec E6 cv N 141 52 none post141 ⟨fr, h, []⟩ = some (.normal, ⟨fr', h', []⟩) := by
  obtain ⟨s0, s1, s2, s3, g1, g2, g3⟩ := hA
  simp only [post141, Tryz.f141, wide141, exec_seq, seqR_normal, seqR_ret, seqR_exit, seqR_ite, exec_block, blockR_normal, blockR_ret, blockR_exit, blockR_ite, exec_skip, exec_exit, exec_ret, exec_region, exec_cond, condR_bool, opList_nil, opList_bare, opList_guardO, guardO_some, dstOf_list, guardR_true, guardR_false, drawFin_some, drawL_nil, drawL_cons, drawS_val, drawS_val0, boolIs_t, boolIs_f, isDef_move, isDef_assign, isDef_pick, isDef_alloc, isDef_box, isDef_build, isDef_buildSlice, isDef_load, isDef_store, isDef_nilCheck, isDef_binOp, isDef_unOp, isDef_convert, isDef_makeInterface, isDef_makeFunc, isDef_makeMap, isDef_makeSlice, isDef_slice, isDef_fieldAddr, isDef_field, isDef_indexAddr, isDef_index, isDef_lookup, isDef_mapUpdate, isDef_insert, isDef_range, isDef_next, isDef_entry, isDef_typeAssert, isDef_extract, isDef_call, isDef_panic, stepR_val, stepR_val0, stepR_ite, one_move, one_assign, one_bin, one_un, one_pick, one_load, one_indexAddr, one_index, one_fieldAddr, one_call, one_box, one_store, one_builtin, one_buildSlice, one_slice, one_makeFunc, one_extract, callR3_some, valR_some, valR_ite, b1_some, b2_some, b2h_some, newR_some, memR_some, resR_some, resR_ite, pickR_bool, ev_tmp, ev_func, ev_global, ev_int, ev_bool, ev_str, ev_slice, ev_nilFunc, slot_set2, slot_frame0, optAll_nil, optAll_step, consO_some, Option.bind_some, intOp, bin_int, bin_str, strOp, unOp, ne_eq, reduceCtorEq, not_false_eq_true, Nat.reduceLT, Nat.reduceEqDiff, Nat.reduceAdd, Nat.reduceSub, Nat.reduceMul, reduceIte, Nat.max_def, Nat.reduceLeDiff, List.length_cons, List.length_nil, List.getElem?_cons_succ, List.getElem?_cons_zero, beq_self_eq_true, Bool.not_true, Bool.not_false, List.cons_append, List.nil_append, List.append_nil, get_push, next_push, next_set', next_kill', cells?_get, tok?_get, loop?_get, cellsObj_cells, tokObj_tok, loopObj_loop, H.get_set, H.get_kill, new_none, List.size_toArray, List.drop_zero, List.drop_succ_cons, List.take_succ_cons, List.take_zero, List.take_nil, List.drop_nil, List.head?_cons, List.isEmpty_nil, List.isEmpty_cons, cellsOfAll, List.flatMap_cons, List.flatMap_nil, AV.cells, ones, oneC, uniform, List.all_cons, List.all_nil, chunks, elemVal, buildEs, setNth, List.replicate_succ, List.replicate_zero, putCells, elemsOf, rowLike, Bool.and_true, Bool.true_and, decide_true, and_self, and_true, true_and, Bool.false_eq_true, Nat.mul_one, Nat.one_mul, if_true, if_false, Prod.fst, Prod.snd, plain, builtin, appendOp, storeVar, loadVar, part, TI.ag, s0, s1, s2, s3, g1, g2, g3, ty9, ty3, hy]
  exact ⟨_, rfl⟩
theorem deferred_nil {E : Env} {cv : Cv} {h : H} : deferred E cv [] h = some h := rfl
theorem f141_ok {n N : Nat} {l y l0 c p q k : Nat} (hpq : p ≠ q) (hkq : k ≠ q) (hyq : y ≠ q) {s : List UInt8} {h : H} {ρ : Option Nat} {acc : List (List UInt8)} (hN : s.length < N) (hlen : acc.length + s.length ≤ 1000000) (h1 : A1 h l y l0 c ρ acc)
    (gp : h.get p = some (.cells 9 [.str [10]])) (gq : h.get q = some (.cells 9 [.str s])) (gk : h.get k = some (.cells 3 [.int .i64 0])) (op : Out h l l0 c ρ p) (oq : Out h l l0 c ρ q) (ok : Out h l l0 c ρ k) :
    ∃ h' ρ', callV E6 N (n + 3) (.fn (.func 141) [] [.ptr p 0, .ptr q 0, .ptr k 0]) [.fn (.yield l) [] []] h = some (.val (.tup []), h') ∧ A1 h' l y l0 c ρ' (acc ++ lines s) ∧ h.next ≤ h'.next := by
  rw [callV_func]
  have hcl : (AV.closeds ([] ++ [AV.fn (Fn.yield l) [] []] ++ [AV.ptr p 0, .ptr q 0, .ptr k 0]) && !E6.hold 141) = false := rfl
  rw [callF_run intr141 fn141 body141 hcl, run_eq]
  have hm : max ([] ++ [AV.fn (Fn.yield l) [] []] ++ [AV.ptr p 0, .ptr q 0, .ptr k 0]).length Tryz.f141.ntmps = 52 := rfl
  rw [hm]
  have hA : A2 (bindArgs 0 ([] ++ [AV.fn (Fn.yield l) [] []] ++ [AV.ptr p 0, .ptr q 0, .ptr k 0]) (frame0 52)) h l p q k s := by
    constructor
    all_goals first | assumption | simp only [List.nil_append, List.cons_append, bindArgs_cons, bindArgs_nil, slot_set2, Nat.reduceAdd, Nat.reduceEqDiff, if_true, if_false]
  generalize bindArgs 0 ([] ++ [AV.fn (Fn.yield l) [] []] ++ [AV.ptr p 0, .ptr q 0, .ptr k 0]) (frame0 52) = fr at hA
  obtain ⟨fr1, e1, a1⟩ := pre141_ok (cv := callV E6 N (n + 2)) (N := N) hA
  obtain ⟨fr2, h2, ρ2, s', acc', f1, f2, f3, f4, f5, f6, f7⟩ := loop141 (n := n) (N := N) hpq hkq N hN hlen h1 a1 op oq ok hyq
  obtain ⟨h3, ρ3, g1, g2, g3, g4, g5⟩ := A1_round (n := n) (N := N) f2 s' (by omega)
  obtain ⟨fr3, e3⟩ := post141_ok (cv := callV E6 N (n + 2)) (N := N) f3 g1
  refine ⟨h3, ρ3, ?_, by rw [← f4]; exact g2, Nat.le_trans f6 g3⟩
  rw [exec_seq, e1, seqR_normal, exec_seq, exec_block, exec_loop, f1, blockR_exit, if_pos rfl, seqR_normal, e3, endR_normal]
  rfl

theorem fn46 : E6.fn 46 = some Tryz.f46 := by kernel_rfl
theorem fn78 : E6.fn 78 = some Tryz.f78 := by kernel_rfl
theorem fn45 : E6.fn 45 = some Tryz.f45 := by kernel_rfl
theorem intr46 : E6.intr 46 = none := by kernel_rfl
theorem intr78 : E6.intr 78 = none := by kernel_rfl
theorem intr45 : E6.intr 45 = none := by kernel_rfl
theorem intr47 : E6.intr 47 = none := by kernel_rfl
theorem hold46 : E6.hold 46 = true := by kernel_rfl
theorem hold78 : E6.hold 78 = true := by kernel_rfl
theorem wide46 : E6.wide 46 = false := by kernel_rfl
theorem wide78 : E6.wide 78 = false := by kernel_rfl
theorem ty44 : (E6.ty 44).isSome = true := by kernel_rfl

theorem f78_ok {n N : Nat} {s sep : List UInt8} {h : H} : callV E6 N (n + 1) (.fn (.func 78) [] []) [.str s, .str sep, .int .i64 0] h =
    some (.val (.fn (.func 141) [] [.ptr (h.next + 1) 0, .ptr h.next 0, .ptr (h.next + 2) 0]), ((h.push (.cells 9 [.str s])).push (.cells 9 [.str sep])).push (.cells 3 [.int .i64 0])) := by
  rw [callV_func]
  obtain ⟨c0, hc0⟩ : ∃ c, Tryz.f78.body = some c := ⟨_, rfl⟩
  rw [callF_run intr78 fn78 hc0 (by rw [hold78]; rfl), run_eq]
  simp only [Tryz.f78, Option.some.injEq] at hc0
  subst hc0
  simp only [Tryz.f78, bindArgs_cons, bindArgs_nil, wide78, exec_seq, seqR_normal, seqR_ret, seqR_exit, seqR_ite, exec_block, blockR_normal, blockR_ret, blockR_exit, blockR_ite, exec_skip, exec_exit, exec_ret, exec_region, exec_cond, condR_bool, opList_nil, opList_bare, opList_guardO, guardO_some, dstOf_list, guardR_true, guardR_false, drawFin_some, drawL_nil, drawL_cons, drawS_val, drawS_val0, boolIs_t, boolIs_f, isDef_move, isDef_assign, isDef_pick, isDef_alloc, isDef_box, isDef_build, isDef_buildSlice, isDef_load, isDef_store, isDef_nilCheck, isDef_binOp, isDef_unOp, isDef_convert, isDef_makeInterface, isDef_makeFunc, isDef_makeMap, isDef_makeSlice, isDef_slice, isDef_fieldAddr, isDef_field, isDef_indexAddr, isDef_index, isDef_lookup, isDef_mapUpdate, isDef_insert, isDef_range, isDef_next, isDef_entry, isDef_typeAssert, isDef_extract, isDef_call, isDef_panic, stepR_val, stepR_val0, stepR_ite, one_move, one_assign, one_bin, one_un, one_pick, one_load, one_indexAddr, one_index, one_fieldAddr, one_call, one_box, one_store, one_builtin, one_buildSlice, one_slice, one_makeFunc, one_extract, callR3_some, valR_some, valR_ite, b1_some, b2_some, b2h_some, newR_some, memR_some, resR_some, resR_ite, pickR_bool, ev_tmp, ev_func, ev_global, ev_int, ev_bool, ev_str, ev_slice, ev_nilFunc, slot_set2, slot_frame0, optAll_nil, optAll_step, consO_some, Option.bind_some, intOp, bin_int, bin_str, strOp, unOp, ne_eq, reduceCtorEq, not_false_eq_true, Nat.reduceLT, Nat.reduceEqDiff, Nat.reduceAdd, Nat.reduceSub, Nat.reduceMul, reduceIte, Nat.max_def, Nat.reduceLeDiff, List.length_cons, List.length_nil, List.getElem?_cons_succ, List.getElem?_cons_zero, beq_self_eq_true, Bool.not_true, Bool.not_false, List.cons_append, List.nil_append, List.append_nil, get_push, next_push, next_set', next_kill', cells?_get, tok?_get, loop?_get, cellsObj_cells, tokObj_tok, loopObj_loop, H.get_set, H.get_kill, new_none, List.size_toArray, List.drop_zero, List.drop_succ_cons, List.take_succ_cons, List.take_zero, List.take_nil, List.drop_nil, List.head?_cons, List.isEmpty_nil, List.isEmpty_cons, cellsOfAll, List.flatMap_cons, List.flatMap_nil, AV.cells, ones, oneC, uniform, List.all_cons, List.all_nil, chunks, elemVal, buildEs, setNth, List.replicate_succ, List.replicate_zero, putCells, elemsOf, rowLike, Bool.and_true, Bool.true_and, decide_true, and_self, and_true, true_and, Bool.false_eq_true, Nat.mul_one, Nat.one_mul, if_true, if_false, Prod.fst, Prod.snd, plain, builtin, appendOp, storeVar, loadVar, part, TI.ag, endR_ret, resultsOf]
theorem f46_ok {n N : Nat} {s sep : List UInt8} {h : H} : callV E6 N (n + 2) (.fn (.func 46) [] []) [.str s, .str sep] h =
    some (.val (.fn (.func 141) [] [.ptr (h.next + 1) 0, .ptr h.next 0, .ptr (h.next + 2) 0]), ((h.push (.cells 9 [.str s])).push (.cells 9 [.str sep])).push (.cells 3 [.int .i64 0])) := by
  rw [callV_func]
  obtain ⟨c0, hc0⟩ : ∃ c, Tryz.f46.body = some c := ⟨_, rfl⟩
  rw [callF_run intr46 fn46 hc0 (by rw [hold46]; rfl), run_eq]
  simp only [Tryz.f46, Option.some.injEq] at hc0
  subst hc0
  simp only [Tryz.f46, bindArgs_cons, bindArgs_nil, wide46, exec_seq, seqR_normal, seqR_ret, seqR_exit, seqR_ite, exec_block, blockR_normal, blockR_ret, blockR_exit, blockR_ite, exec_skip, exec_exit, exec_ret, exec_region, exec_cond, condR_bool, opList_nil, opList_bare, opList_guardO, guardO_some, dstOf_list, guardR_true, guardR_false, drawFin_some, drawL_nil, drawL_cons, drawS_val, drawS_val0, boolIs_t, boolIs_f, isDef_move, isDef_assign, isDef_pick, isDef_alloc, isDef_box, isDef_build, isDef_buildSlice, isDef_load, isDef_store, isDef_nilCheck, isDef_binOp, isDef_unOp, isDef_convert, isDef_makeInterface, isDef_makeFunc, isDef_makeMap, isDef_makeSlice, isDef_slice, isDef_fieldAddr, isDef_field, isDef_indexAddr, isDef_index, isDef_lookup, isDef_mapUpdate, isDef_insert, isDef_range, isDef_next, isDef_entry, isDef_typeAssert, isDef_extract, isDef_call, isDef_panic, stepR_val, stepR_val0, stepR_ite, one_move, one_assign, one_bin, one_un, one_pick, one_load, one_indexAddr, one_index, one_fieldAddr, one_call, one_box, one_store, one_builtin, one_buildSlice, one_slice, one_makeFunc, one_extract, callR3_some, valR_some, valR_ite, b1_some, b2_some, b2h_some, newR_some, memR_some, resR_some, resR_ite, pickR_bool, ev_tmp, ev_func, ev_global, ev_int, ev_bool, ev_str, ev_slice, ev_nilFunc, slot_set2, slot_frame0, optAll_nil, optAll_step, consO_some, Option.bind_some, intOp, bin_int, bin_str, strOp, unOp, ne_eq, reduceCtorEq, not_false_eq_true, Nat.reduceLT, Nat.reduceEqDiff, Nat.reduceAdd, Nat.reduceSub, Nat.reduceMul, reduceIte, Nat.max_def, Nat.reduceLeDiff, List.length_cons, List.length_nil, List.getElem?_cons_succ, List.getElem?_cons_zero, beq_self_eq_true, Bool.not_true, Bool.not_false, List.cons_append, List.nil_append, List.append_nil, get_push, next_push, next_set', next_kill', cells?_get, tok?_get, loop?_get, cellsObj_cells, tokObj_tok, loopObj_loop, H.get_set, H.get_kill, new_none, List.size_toArray, List.drop_zero, List.drop_succ_cons, List.take_succ_cons, List.take_zero, List.take_nil, List.drop_nil, List.head?_cons, List.isEmpty_nil, List.isEmpty_cons, cellsOfAll, List.flatMap_cons, List.flatMap_nil, AV.cells, ones, oneC, uniform, List.all_cons, List.all_nil, chunks, elemVal, buildEs, setNth, List.replicate_succ, List.replicate_zero, putCells, elemsOf, rowLike, Bool.and_true, Bool.true_and, decide_true, and_self, and_true, true_and, Bool.false_eq_true, Nat.mul_one, Nat.one_mul, if_true, if_false, Prod.fst, Prod.snd, plain, builtin, appendOp, storeVar, loadVar, part, TI.ag, endR_ret, resultsOf, f78_ok]

noncomputable def r0_45 : Code := match Tryz.f45.body with
  | some (.seq a _) => a
  | _ => .skip
noncomputable def r1_45 : Code := match Tryz.f45.body with
  | some (.seq _ (.seq a _)) => a
  | _ => .skip
theorem body45 : Tryz.f45.body = some (.seq r0_45 (.seq r1_45 (.block 0 (.rangeFunc (.tmp 5) #[6] asg45 bod45)))) := rfl
theorem r0_45_ok {cv : Cv} {N : Nat} {fr : T AV} {h : H} {g : Fn} {a b : List AV} {w : AV} (h0 : slot fr 0 = .fn g a b) (h1 : slot fr 1 = w) : ∃ fr', exec E6 cv N 45 15 none r0_45 ⟨fr, h, []⟩ = some (.normal, ⟨fr', h.push (.cells 48 [.fn g a b]), []⟩) ∧ slot fr' 1 = w ∧ slot fr' 2 = .ptr h.next 0 := by
  simp only [r0_45, Tryz.f45, wide45, exec_seq, seqR_normal, seqR_ret, seqR_exit, seqR_ite, exec_block, blockR_normal, blockR_ret, blockR_exit, blockR_ite, exec_skip, exec_exit, exec_ret, exec_region, exec_cond, condR_bool, opList_nil, opList_bare, opList_guardO, guardO_some, dstOf_list, guardR_true, guardR_false, drawFin_some, drawL_nil, drawL_cons, drawS_val, drawS_val0, boolIs_t, boolIs_f, isDef_move, isDef_assign, isDef_pick, isDef_alloc, isDef_box, isDef_build, isDef_buildSlice, isDef_load, isDef_store, isDef_nilCheck, isDef_binOp, isDef_unOp, isDef_convert, isDef_makeInterface, isDef_makeFunc, isDef_makeMap, isDef_makeSlice, isDef_slice, isDef_fieldAddr, isDef_field, isDef_indexAddr, isDef_index, isDef_lookup, isDef_mapUpdate, isDef_insert, isDef_range, isDef_next, isDef_entry, isDef_typeAssert, isDef_extract, isDef_call, isDef_panic, stepR_val, stepR_val0, stepR_ite, one_move, one_assign, one_bin, one_un, one_pick, one_load, one_indexAddr, one_index, one_fieldAddr, one_call, one_box, one_store, one_builtin, one_buildSlice, one_slice, one_makeFunc, one_extract, callR3_some, valR_some, valR_ite, b1_some, b2_some, b2h_some, newR_some, memR_some, resR_some, resR_ite, pickR_bool, ev_tmp, ev_func, ev_global, ev_int, ev_bool, ev_str, ev_slice, ev_nilFunc, slot_set2, slot_frame0, optAll_nil, optAll_step, consO_some, Option.bind_some, intOp, bin_int, bin_str, strOp, unOp, ne_eq, reduceCtorEq, not_false_eq_true, Nat.reduceLT, Nat.reduceEqDiff, Nat.reduceAdd, Nat.reduceSub, Nat.reduceMul, reduceIte, Nat.max_def, Nat.reduceLeDiff, List.length_cons, List.length_nil, List.getElem?_cons_succ, List.getElem?_cons_zero, beq_self_eq_true, Bool.not_true, Bool.not_false, List.cons_append, List.nil_append, List.append_nil, get_push, next_push, next_set', next_kill', cells?_get, tok?_get, loop?_get, cellsObj_cells, tokObj_tok, loopObj_loop, H.get_set, H.get_kill, new_none, List.size_toArray, List.drop_zero, List.drop_succ_cons, List.take_succ_cons, List.take_zero, List.take_nil, List.drop_nil, List.head?_cons, List.isEmpty_nil, List.isEmpty_cons, cellsOfAll, List.flatMap_cons, List.flatMap_nil, AV.cells, ones, oneC, uniform, List.all_cons, List.all_nil, chunks, elemVal, buildEs, setNth, List.replicate_succ, List.replicate_zero, putCells, elemsOf, rowLike, Bool.and_true, Bool.true_and, decide_true, and_self, and_true, true_and, Bool.false_eq_true, Nat.mul_one, Nat.one_mul, if_true, if_false, Prod.fst, Prod.snd, plain, builtin, appendOp, storeVar, loadVar, part, TI.ag, h0]
  exact ⟨_, rfl, by simp only [slot_set2, Nat.reduceEqDiff, if_false, h1], by simp only [slot_set2, Nat.reduceEqDiff, if_false, if_true]⟩
theorem r1_45_ok {n N : Nat} {fr : T AV} {h : H} {s : List UInt8} {a : AV} (h1 : slot fr 1 = .pv [.str s]) (h2 : slot fr 2 = a) :
    ∃ fr', exec E6 (callV E6 N (n + 2)) N 45 15 none r1_45 ⟨fr, h, []⟩ = some (.normal, ⟨fr', ((h.push (.cells 9 [.str s])).push (.cells 9 [.str [10]])).push (.cells 3 [.int .i64 0]), []⟩) ∧ slot fr' 2 = a ∧ slot fr' 5 = .fn (.func 141) [] [.ptr (h.next + 1) 0, .ptr h.next 0, .ptr (h.next + 2) 0] := by
  simp only [r1_45, Tryz.f45, wide45, exec_seq, seqR_normal, seqR_ret, seqR_exit, seqR_ite, exec_block, blockR_normal, blockR_ret, blockR_exit, blockR_ite, exec_skip, exec_exit, exec_ret, exec_region, exec_cond, condR_bool, opList_nil, opList_bare, opList_guardO, guardO_some, dstOf_list, guardR_true, guardR_false, drawFin_some, drawL_nil, drawL_cons, drawS_val, drawS_val0, boolIs_t, boolIs_f, isDef_move, isDef_assign, isDef_pick, isDef_alloc, isDef_box, isDef_build, isDef_buildSlice, isDef_load, isDef_store, isDef_nilCheck, isDef_binOp, isDef_unOp, isDef_convert, isDef_makeInterface, isDef_makeFunc, isDef_makeMap, isDef_makeSlice, isDef_slice, isDef_fieldAddr, isDef_field, isDef_indexAddr, isDef_index, isDef_lookup, isDef_mapUpdate, isDef_insert, isDef_range, isDef_next, isDef_entry, isDef_typeAssert, isDef_extract, isDef_call, isDef_panic, stepR_val, stepR_val0, stepR_ite, one_move, one_assign, one_bin, one_un, one_pick, one_load, one_indexAddr, one_index, one_fieldAddr, one_call, one_box, one_store, one_builtin, one_buildSlice, one_slice, one_makeFunc, one_extract, callR3_some, valR_some, valR_ite, b1_some, b2_some, b2h_some, newR_some, memR_some, resR_some, resR_ite, pickR_bool, ev_tmp, ev_func, ev_global, ev_int, ev_bool, ev_str, ev_slice, ev_nilFunc, slot_set2, slot_frame0, optAll_nil, optAll_step, consO_some, Option.bind_some, intOp, bin_int, bin_str, strOp, unOp, ne_eq, reduceCtorEq, not_false_eq_true, Nat.reduceLT, Nat.reduceEqDiff, Nat.reduceAdd, Nat.reduceSub, Nat.reduceMul, reduceIte, Nat.max_def, Nat.reduceLeDiff, List.length_cons, List.length_nil, List.getElem?_cons_succ, List.getElem?_cons_zero, beq_self_eq_true, Bool.not_true, Bool.not_false, List.cons_append, List.nil_append, List.append_nil, get_push, next_push, next_set', next_kill', cells?_get, tok?_get, loop?_get, cellsObj_cells, tokObj_tok, loopObj_loop, H.get_set, H.get_kill, new_none, List.size_toArray, List.drop_zero, List.drop_succ_cons, List.take_succ_cons, List.take_zero, List.take_nil, List.drop_nil, List.head?_cons, List.isEmpty_nil, List.isEmpty_cons, cellsOfAll, List.flatMap_cons, List.flatMap_nil, AV.cells, ones, oneC, uniform, List.all_cons, List.all_nil, chunks, elemVal, buildEs, setNth, List.replicate_succ, List.replicate_zero, putCells, elemsOf, rowLike, Bool.and_true, Bool.true_and, decide_true, and_self, and_true, true_and, Bool.false_eq_true, Nat.mul_one, Nat.one_mul, if_true, if_false, Prod.fst, Prod.snd, plain, builtin, appendOp, storeVar, loadVar, part, TI.ag, h1, ty9, f46_ok]
  exact ⟨_, rfl, by simp only [slot_set2, Nat.reduceEqDiff, if_false, h2], by simp only [slot_set2, Nat.reduceEqDiff, if_false, if_true]⟩

theorem f45_ok {n N : Nat} {l0 c : Nat} {s : List UInt8} {h : H} {ρ : Option Nat} {acc : List (List UInt8)} (hN : s.length < N) (hlen : acc.length + s.length ≤ 1000000) (h0 : A0 h l0 c ρ acc) :
    ∃ h' ρ', callV E6 N (n + 4) (.fn (.func 45) [] [.pv [.str s]]) [.fn (.yield l0) [] []] h = some (.val (.tup []), h') ∧ A0 h' l0 c ρ' (acc ++ lines s) ∧ h.next ≤ h'.next := by
  rw [callV_func]
  have hcl : (AV.closeds ([] ++ [AV.fn (Fn.yield l0) [] []] ++ [AV.pv [.str s]]) && !E6.hold 45) = false := rfl
  rw [callF_run intr45 fn45 body45 hcl, run_eq]
  have hm : max ([] ++ [AV.fn (Fn.yield l0) [] []] ++ [AV.pv [.str s]]).length Tryz.f45.ntmps = 15 := rfl
  rw [hm]
  have a0 : slot (bindArgs 0 ([] ++ [AV.fn (Fn.yield l0) [] []] ++ [AV.pv [.str s]]) (frame0 15)) 0 = .fn (.yield l0) [] [] := by
    simp only [List.nil_append, List.cons_append, bindArgs_cons, bindArgs_nil, slot_set2, Nat.reduceAdd, Nat.reduceEqDiff, if_true, if_false]
  have a1 : slot (bindArgs 0 ([] ++ [AV.fn (Fn.yield l0) [] []] ++ [AV.pv [.str s]]) (frame0 15)) 1 = .pv [.str s] := by
    simp only [List.nil_append, List.cons_append, bindArgs_cons, bindArgs_nil, slot_set2, Nat.reduceAdd, Nat.reduceEqDiff, if_true, if_false]
  generalize bindArgs 0 ([] ++ [AV.fn (Fn.yield l0) [] []] ++ [AV.pv [.str s]]) (frame0 15) = fr at a0 a1
  obtain ⟨fr1, e1, b1, b2⟩ := r0_45_ok (cv := callV E6 N (n + 3)) (N := N) (h := h) a0 a1
  obtain ⟨fr2, e2, b3, b5⟩ := r1_45_ok (n := n + 1) (N := N) (h := h.push (.cells 48 [.fn (.yield l0) [] []])) b1 b2
  have hn : (((((h.push (.cells 48 [.fn (.yield l0) [] []])).push (.cells 9 [.str s])).push (.cells 9 [.str [10]])).push (.cells 3 [.int .i64 0]))).next = h.next + 4 := rfl
  generalize hg : (((h.push (.cells 48 [.fn (.yield l0) [] []])).push (.cells 9 [.str s])).push (.cells 9 [.str [10]])).push (.cells 3 [.int .i64 0]) = h4 at e2 hn
  have hold : ∀ i, i < h.next → h4.get i = h.get i := fun i hi => by
    rw [← hg]
    simp only [get_push, next_push, show i ≠ h.next by omega, show i ≠ h.next + 1 by omega, show i ≠ h.next + 1 + 1 by omega, show i ≠ h.next + 1 + 1 + 1 by omega, if_false]
  have gy : h4.get h.next = some (.cells 48 [.fn (.yield l0) [] []]) := by
    rw [← hg]
    simp only [get_push, next_push, show h.next ≠ h.next + 1 by omega, show h.next ≠ h.next + 1 + 1 by omega, show h.next ≠ h.next + 1 + 1 + 1 by omega, if_false, if_true]
  have gq : h4.get (h.next + 1) = some (.cells 9 [.str s]) := by
    rw [← hg]
    simp only [get_push, next_push, show h.next + 1 ≠ h.next by omega, show h.next + 1 ≠ h.next + 1 + 1 by omega, show h.next + 1 ≠ h.next + 1 + 1 + 1 by omega, if_false, if_true]
  have gp : h4.get (h.next + 1 + 1) = some (.cells 9 [.str [10]]) := by
    rw [← hg]
    simp only [get_push, next_push, show h.next + 1 + 1 ≠ h.next + 1 + 1 + 1 by omega, if_false, if_true]
  have gk : h4.get (h.next + 1 + 2) = some (.cells 3 [.int .i64 0]) := by
    rw [← hg]
    simp only [get_push, next_push, show h.next + 1 + 2 = h.next + 1 + 1 + 1 by omega, if_true]
  obtain ⟨fr0, pd0, hl0, hs0, hp0⟩ := h0.lp
  have hll0 := h0.ll
  have hc0 := h0.cl
  have hid := h0.ids
  -- the loop's own object
  generalize ho : Obj.loop ⟨.ready, .normal, fr2, [6], asg45, bod45, 45, 15⟩ = o
  have hpush : ∀ i, i < h.next + 4 → (h4.push o).get i = h4.get i := fun i hi => by
    rw [get_push, hn, if_neg (by omega)]
  have A : A1 (h4.push o) (h.next + 4) h.next l0 c ρ acc := by
    refine ⟨⟨fr2, .normal, by rw [get_push, hn, if_pos rfl, ho], b3, rfl⟩, by rw [next_push, hn]; omega, by rw [next_push, hn]; omega, by rw [hpush _ (by omega)]; exact gy, h0.frame (by rw [next_push, hn]; omega) (by rw [hpush _ (by omega), hold _ hll0]) (by rw [hpush _ (by omega), hold _ hc0]) (fun r e => ?_), by omega⟩
    have := hid r e
    rw [hpush _ (by omega), hold _ this]
  have hout : ∀ i, h.next ≤ i → i < h.next + 4 → Out (h4.push o) (h.next + 4) l0 c ρ i := fun i a b => ⟨by rw [next_push, hn]; omega, by omega, by omega, by omega, fun e => by have := hid i e; omega⟩
  obtain ⟨h5, ρ', f1, f2, f3⟩ := f141_ok (n := n) (N := N) (l := h.next + 4) (y := h.next) (l0 := l0) (c := c) (p := h.next + 1 + 1) (q := h.next + 1) (k := h.next + 1 + 2) (by omega) (by omega) (by omega) hN hlen A (by rw [hpush _ (by omega)]; exact gp) (by rw [hpush _ (by omega)]; exact gq) (by rw [hpush _ (by omega)]; exact gk) (hout _ (by omega) (by omega)) (hout _ (by omega) (by omega)) (hout _ (by omega) (by omega))
  obtain ⟨fr5, pd5, g1, g2, g3⟩ := f2.lp
  subst g3
  have hap := f2.apart
  have hlc : h.next + 4 ≠ c := by omega
  have hlr : ∀ r, ρ' = some r → r ≠ h.next + 4 := fun r e q => by
    subst e q
    obtain ⟨v, _, _, _, _, q⟩ := f2.a0.cell
    rw [q] at g1; cases g1
  refine ⟨h5.set (h.next + 4) (.loop ⟨.exhausted, .normal, fr5, [6], asg45, bod45, 45, 15⟩), ρ', ?_, f2.a0.frame (Nat.le_refl _) (by rw [H.get_set, if_neg (fun e => hap e.symm)]) (by rw [H.get_set, if_neg (fun e => hlc e.symm)]) (fun r e => by rw [H.get_set, if_neg (hlr r e)]), ?_⟩
  · rw [exec_seq, e1, seqR_normal, exec_seq, e2, seqR_normal, exec_block, exec_range (h := h4) rfl (show ev E6 fr2 (.tmp 5) = _ from congrArg some b5), hn]
    subst ho
    have f1' : callV E6 N (n + 3) (AV.fn (Fn.func 141) [] [AV.ptr ((h.push (Obj.cells 48 [AV.fn (Fn.yield l0) [] []])).next + 1) 0, AV.ptr (h.push (Obj.cells 48 [AV.fn (Fn.yield l0) [] []])).next 0, AV.ptr ((h.push (Obj.cells 48 [AV.fn (Fn.yield l0) [] []])).next + 2) 0]) [.fn (.yield (h.next + 4)) [] []] (h4.push (Obj.loop ⟨.ready, .normal, fr2, #[6].toList, asg45, bod45, 45, 15⟩)) = _ := f1
    rw [f1']
    simp only [rangeR, Option.bind_some, loop?_get, g1, loopObj_loop, reduceCtorEq, if_false, blockR_normal, endR_normal]
    rfl
  · show h.next ≤ h5.next
    rw [next_push, hn] at f3
    omega

/-! slices.AppendSeq, slices.Collect -/
theorem hold47 : E6.hold 47 = true := by kernel_rfl
theorem hold20 : E6.hold 20 = true := by kernel_rfl
theorem fn20 : E6.fn 20 = some Tryz.f20 := by kernel_rfl
theorem intr20 : E6.intr 20 = none := by kernel_rfl
theorem wide20 : E6.wide 20 = true := by kernel_rfl
noncomputable def r0_47 : Code := match Tryz.f47.body with
  | some (.seq a _) => a
  | _ => .skip
noncomputable def r1_47 : Code := match Tryz.f47.body with
  | some (.seq _ (.seq (.seq a _) _)) => a
  | _ => .skip
noncomputable def r4_47 : Code := match Tryz.f47.body with
  | some (.seq _ (.seq _ (.seq a _))) => a
  | _ => .skip
theorem body47 : Tryz.f47.body = some (.seq r0_47 (.seq (.seq r1_47 (.block 0 (.rangeFunc (.tmp 6) #[7] asg47 bod47))) (.seq r4_47 .ret))) := rfl
theorem r0_47_ok {cv : Cv} {N : Nat} {fr : T AV} {h : H} {w : AV} (h0 : slot fr 0 = .nils) (h1 : slot fr 1 = w) : ∃ fr', exec E6 cv N 47 13 none r0_47 ⟨fr, h, []⟩ = some (.normal, ⟨fr', h.push (.cells 28 [.nils]), []⟩) ∧ slot fr' 1 = w ∧ slot fr' 2 = .ptr h.next 0 := by
  simp only [r0_47, Tryz.f47, wide47, exec_seq, seqR_normal, seqR_ret, seqR_exit, seqR_ite, exec_block, blockR_normal, blockR_ret, blockR_exit, blockR_ite, exec_skip, exec_exit, exec_ret, exec_region, exec_cond, condR_bool, opList_nil, opList_bare, opList_guardO, guardO_some, dstOf_list, guardR_true, guardR_false, drawFin_some, drawL_nil, drawL_cons, drawS_val, drawS_val0, boolIs_t, boolIs_f, isDef_move, isDef_assign, isDef_pick, isDef_alloc, isDef_box, isDef_build, isDef_buildSlice, isDef_load, isDef_store, isDef_nilCheck, isDef_binOp, isDef_unOp, isDef_convert, isDef_makeInterface, isDef_makeFunc, isDef_makeMap, isDef_makeSlice, isDef_slice, isDef_fieldAddr, isDef_field, isDef_indexAddr, isDef_index, isDef_lookup, isDef_mapUpdate, isDef_insert, isDef_range, isDef_next, isDef_entry, isDef_typeAssert, isDef_extract, isDef_call, isDef_panic, stepR_val, stepR_val0, stepR_ite, one_move, one_assign, one_bin, one_un, one_pick, one_load, one_indexAddr, one_index, one_fieldAddr, one_call, one_box, one_store, one_builtin, one_buildSlice, one_slice, one_makeFunc, one_extract, callR3_some, valR_some, valR_ite, b1_some, b2_some, b2h_some, newR_some, memR_some, resR_some, resR_ite, pickR_bool, ev_tmp, ev_func, ev_global, ev_int, ev_bool, ev_str, ev_slice, ev_nilFunc, slot_set2, slot_frame0, optAll_nil, optAll_step, consO_some, Option.bind_some, intOp, bin_int, bin_str, strOp, unOp, ne_eq, reduceCtorEq, not_false_eq_true, Nat.reduceLT, Nat.reduceEqDiff, Nat.reduceAdd, Nat.reduceSub, Nat.reduceMul, reduceIte, Nat.max_def, Nat.reduceLeDiff, List.length_cons, List.length_nil, List.getElem?_cons_succ, List.getElem?_cons_zero, beq_self_eq_true, Bool.not_true, Bool.not_false, List.cons_append, List.nil_append, List.append_nil, get_push, next_push, next_set', next_kill', cells?_get, tok?_get, loop?_get, cellsObj_cells, tokObj_tok, loopObj_loop, H.get_set, H.get_kill, new_none, List.size_toArray, List.drop_zero, List.drop_succ_cons, List.take_succ_cons, List.take_zero, List.take_nil, List.drop_nil, List.head?_cons, List.isEmpty_nil, List.isEmpty_cons, cellsOfAll, List.flatMap_cons, List.flatMap_nil, AV.cells, ones, oneC, uniform, List.all_cons, List.all_nil, chunks, elemVal, buildEs, setNth, List.replicate_succ, List.replicate_zero, putCells, elemsOf, rowLike, Bool.and_true, Bool.true_and, decide_true, and_self, and_true, true_and, Bool.false_eq_true, Nat.mul_one, Nat.one_mul, if_true, if_false, Prod.fst, Prod.snd, plain, builtin, appendOp, storeVar, loadVar, part, TI.ag, h0]
  exact ⟨_, rfl, by simp only [slot_set2, Nat.reduceEqDiff, if_false, h1], by simp only [slot_set2, Nat.reduceEqDiff, if_false, if_true]⟩
theorem r1_47_ok {cv : Cv} {N : Nat} {fr : T AV} {h : H} {w a : AV} (h1 : slot fr 1 = w) (h2 : slot fr 2 = a) : ∃ fr', exec E6 cv N 47 13 none r1_47 ⟨fr, h, []⟩ = some (.normal, ⟨fr', h, []⟩) ∧ slot fr' 6 = w ∧ slot fr' 2 = a := by
  simp only [r1_47, Tryz.f47, wide47, exec_seq, seqR_normal, seqR_ret, seqR_exit, seqR_ite, exec_block, blockR_normal, blockR_ret, blockR_exit, blockR_ite, exec_skip, exec_exit, exec_ret, exec_region, exec_cond, condR_bool, opList_nil, opList_bare, opList_guardO, guardO_some, dstOf_list, guardR_true, guardR_false, drawFin_some, drawL_nil, drawL_cons, drawS_val, drawS_val0, boolIs_t, boolIs_f, isDef_move, isDef_assign, isDef_pick, isDef_alloc, isDef_box, isDef_build, isDef_buildSlice, isDef_load, isDef_store, isDef_nilCheck, isDef_binOp, isDef_unOp, isDef_convert, isDef_makeInterface, isDef_makeFunc, isDef_makeMap, isDef_makeSlice, isDef_slice, isDef_fieldAddr, isDef_field, isDef_indexAddr, isDef_index, isDef_lookup, isDef_mapUpdate, isDef_insert, isDef_range, isDef_next, isDef_entry, isDef_typeAssert, isDef_extract, isDef_call, isDef_panic, stepR_val, stepR_val0, stepR_ite, one_move, one_assign, one_bin, one_un, one_pick, one_load, one_indexAddr, one_index, one_fieldAddr, one_call, one_box, one_store, one_builtin, one_buildSlice, one_slice, one_makeFunc, one_extract, callR3_some, valR_some, valR_ite, b1_some, b2_some, b2h_some, newR_some, memR_some, resR_some, resR_ite, pickR_bool, ev_tmp, ev_func, ev_global, ev_int, ev_bool, ev_str, ev_slice, ev_nilFunc, slot_set2, slot_frame0, optAll_nil, optAll_step, consO_some, Option.bind_some, intOp, bin_int, bin_str, strOp, unOp, ne_eq, reduceCtorEq, not_false_eq_true, Nat.reduceLT, Nat.reduceEqDiff, Nat.reduceAdd, Nat.reduceSub, Nat.reduceMul, reduceIte, Nat.max_def, Nat.reduceLeDiff, List.length_cons, List.length_nil, List.getElem?_cons_succ, List.getElem?_cons_zero, beq_self_eq_true, Bool.not_true, Bool.not_false, List.cons_append, List.nil_append, List.append_nil, get_push, next_push, next_set', next_kill', cells?_get, tok?_get, loop?_get, cellsObj_cells, tokObj_tok, loopObj_loop, H.get_set, H.get_kill, new_none, List.size_toArray, List.drop_zero, List.drop_succ_cons, List.take_succ_cons, List.take_zero, List.take_nil, List.drop_nil, List.head?_cons, List.isEmpty_nil, List.isEmpty_cons, cellsOfAll, List.flatMap_cons, List.flatMap_nil, AV.cells, ones, oneC, uniform, List.all_cons, List.all_nil, chunks, elemVal, buildEs, setNth, List.replicate_succ, List.replicate_zero, putCells, elemsOf, rowLike, Bool.and_true, Bool.true_and, decide_true, and_self, and_true, true_and, Bool.false_eq_true, Nat.mul_one, Nat.one_mul, if_true, if_false, Prod.fst, Prod.snd, plain, builtin, appendOp, storeVar, loadVar, part, TI.ag, h1]
  exact ⟨_, rfl, by simp only [slot_set2, if_true], by simp only [slot_set2, Nat.reduceEqDiff, if_false, h2]⟩
theorem r4_47_ok {cv : Cv} {N c : Nat} {fr : T AV} {h : H} {v : AV} (h2 : slot fr 2 = .ptr c 0) (hc : h.get c = some (.cells 28 [v])) : ∃ fr', exec E6 cv N 47 13 none r4_47 ⟨fr, h, []⟩ = some (.normal, ⟨fr', h, []⟩) ∧ slot fr' 4 = v := by
  simp only [r4_47, Tryz.f47, wide47, exec_seq, seqR_normal, seqR_ret, seqR_exit, seqR_ite, exec_block, blockR_normal, blockR_ret, blockR_exit, blockR_ite, exec_skip, exec_exit, exec_ret, exec_region, exec_cond, condR_bool, opList_nil, opList_bare, opList_guardO, guardO_some, dstOf_list, guardR_true, guardR_false, drawFin_some, drawL_nil, drawL_cons, drawS_val, drawS_val0, boolIs_t, boolIs_f, isDef_move, isDef_assign, isDef_pick, isDef_alloc, isDef_box, isDef_build, isDef_buildSlice, isDef_load, isDef_store, isDef_nilCheck, isDef_binOp, isDef_unOp, isDef_convert, isDef_makeInterface, isDef_makeFunc, isDef_makeMap, isDef_makeSlice, isDef_slice, isDef_fieldAddr, isDef_field, isDef_indexAddr, isDef_index, isDef_lookup, isDef_mapUpdate, isDef_insert, isDef_range, isDef_next, isDef_entry, isDef_typeAssert, isDef_extract, isDef_call, isDef_panic, stepR_val, stepR_val0, stepR_ite, one_move, one_assign, one_bin, one_un, one_pick, one_load, one_indexAddr, one_index, one_fieldAddr, one_call, one_box, one_store, one_builtin, one_buildSlice, one_slice, one_makeFunc, one_extract, callR3_some, valR_some, valR_ite, b1_some, b2_some, b2h_some, newR_some, memR_some, resR_some, resR_ite, pickR_bool, ev_tmp, ev_func, ev_global, ev_int, ev_bool, ev_str, ev_slice, ev_nilFunc, slot_set2, slot_frame0, optAll_nil, optAll_step, consO_some, Option.bind_some, intOp, bin_int, bin_str, strOp, unOp, ne_eq, reduceCtorEq, not_false_eq_true, Nat.reduceLT, Nat.reduceEqDiff, Nat.reduceAdd, Nat.reduceSub, Nat.reduceMul, reduceIte, Nat.max_def, Nat.reduceLeDiff, List.length_cons, List.length_nil, List.getElem?_cons_succ, List.getElem?_cons_zero, beq_self_eq_true, Bool.not_true, Bool.not_false, List.cons_append, List.nil_append, List.append_nil, get_push, next_push, next_set', next_kill', cells?_get, tok?_get, loop?_get, cellsObj_cells, tokObj_tok, loopObj_loop, H.get_set, H.get_kill, new_none, List.size_toArray, List.drop_zero, List.drop_succ_cons, List.take_succ_cons, List.take_zero, List.take_nil, List.drop_nil, List.head?_cons, List.isEmpty_nil, List.isEmpty_cons, cellsOfAll, List.flatMap_cons, List.flatMap_nil, AV.cells, ones, oneC, uniform, List.all_cons, List.all_nil, chunks, elemVal, buildEs, setNth, List.replicate_succ, List.replicate_zero, putCells, elemsOf, rowLike, Bool.and_true, Bool.true_and, decide_true, and_self, and_true, true_and, Bool.false_eq_true, Nat.mul_one, Nat.one_mul, if_true, if_false, Prod.fst, Prod.snd, plain, builtin, appendOp, storeVar, loadVar, part, TI.ag, h2, hc, ty28]
  exact ⟨_, rfl, by simp only [slot_set2, if_true]⟩

theorem f47_ok {n N : Nat} {s : List UInt8} {h : H} (hN : s.length < N) (hlen : s.length ≤ 1000000) :
    ∃ h' v ρ, callV E6 N (n + 5) (.fn (.func 47) [] []) [.nils, .fn (.func 45) [] [.pv [.str s]]] h = some (.val v, h') ∧ Row h' v ρ (lines s) ∧ h.next ≤ h'.next := by
  rw [callV_func]
  rw [callF_run intr47 fn47 body47 (by rw [hold47]; simp), run_eq]
  have hm : max ([] ++ [AV.nils, .fn (.func 45) [] [.pv [.str s]]] ++ []).length Tryz.f47.ntmps = 13 := rfl
  rw [hm]
  have a0 : slot (bindArgs 0 ([] ++ [AV.nils, .fn (.func 45) [] [.pv [.str s]]] ++ []) (frame0 13)) 0 = .nils := by
    simp only [List.nil_append, List.append_nil, bindArgs_cons, bindArgs_nil, slot_set2, Nat.reduceAdd, Nat.reduceEqDiff, if_true, if_false]
  have a1 : slot (bindArgs 0 ([] ++ [AV.nils, .fn (.func 45) [] [.pv [.str s]]] ++ []) (frame0 13)) 1 = .fn (.func 45) [] [.pv [.str s]] := by
    simp only [List.nil_append, List.append_nil, bindArgs_cons, bindArgs_nil, slot_set2, Nat.reduceAdd, Nat.reduceEqDiff, if_true, if_false]
  generalize bindArgs 0 ([] ++ [AV.nils, .fn (.func 45) [] [.pv [.str s]]] ++ []) (frame0 13) = fr at a0 a1
  obtain ⟨fr1, e1, b1, b2⟩ := r0_47_ok (cv := callV E6 N (n + 4)) (N := N) (h := h) a0 a1
  obtain ⟨fr2, e2, b6, b3⟩ := r1_47_ok (cv := callV E6 N (n + 4)) (N := N) (h := h.push (.cells 28 [.nils])) b1 b2
  have hn : (h.push (.cells 28 [.nils])).next = h.next + 1 := rfl
  have A : A0 ((h.push (.cells 28 [.nils])).push (.loop ⟨.ready, .normal, fr2, [7], asg47, bod47, 47, 13⟩)) (h.next + 1) h.next none [] := by
    refine ⟨⟨fr2, .normal, by rw [get_push, if_pos hn.symm], b3, rfl⟩, by simp only [next_push]; omega, by simp only [next_push]; omega, .nils, ?_, rfl, rfl⟩
    simp only [get_push, next_push, show h.next ≠ h.next + 1 by omega, if_false, if_true]
  obtain ⟨h5, ρ, f1, f2, f3⟩ := f45_ok (n := n) (N := N) hN (by simpa using hlen) A
  obtain ⟨fr5, pd5, g1, g2, g3⟩ := f2.lp
  subst g3
  obtain ⟨v, g4, g5⟩ := f2.cell
  have hlc : h.next ≠ h.next + 1 := by omega
  have hlr : ∀ r, ρ = some r → r ≠ h.next + 1 := fun r e q => by
    subst e q
    obtain ⟨_, _, _, q⟩ := g5
    rw [q] at g1; cases g1
  obtain ⟨fr6, e6, b4⟩ := r4_47_ok (cv := callV E6 N (n + 4)) (N := N) (c := h.next) (fr := fr2) (h := h5.set (h.next + 1) (.loop ⟨.exhausted, .normal, fr5, [7], asg47, bod47, 47, 13⟩)) (v := v) b3 (by rw [H.get_set, if_neg hlc]; exact g4)
  refine ⟨h5.set (h.next + 1) (.loop ⟨.exhausted, .normal, fr5, [7], asg47, bod47, 47, 13⟩), v, ρ, ?_, ?_, ?_⟩
  · rw [exec_seq, e1, seqR_normal, exec_seq, exec_seq, e2, seqR_normal, exec_block, exec_range (h := h.push (.cells 28 [.nils])) rfl (show ev E6 fr2 (.tmp 6) = _ from congrArg some b6), hn]
    have f1' : callV E6 N (n + 4) (.fn (.func 45) [] [.pv [.str s]]) [.fn (.yield (h.next + 1)) [] []] ((h.push (.cells 28 [.nils])).push (.loop ⟨.ready, .normal, fr2, #[7].toList, asg47, bod47, 47, 13⟩)) = _ := f1
    rw [f1']
    simp only [rangeR, Option.bind_some, loop?_get, g1, loopObj_loop, reduceCtorEq, if_false, blockR_normal, seqR_normal, exec_seq, e6, exec_ret, endR_ret]
    have : resultsOf E6 ⟨fr6, h5.set (h.next + 1) (.loop ⟨.exhausted, .normal, fr5, [7], asg47, bod47, 47, 13⟩), []⟩ Tryz.f47 = some v := by
      show (optAll _ [ResultVar.tmp 4]).bind _ = _
      simp only [optAll, Option.bind_some, b4]
    rw [this]
    rfl
  · rw [List.nil_append] at g5
    exact g5.frame (Nat.le_refl _) (fun r e => by rw [H.get_set, if_neg (hlr r e)])
  · have : h.next + 1 + 1 ≤ h5.next := f3
    show h.next ≤ h5.next
    omega

theorem f20_ok {n N : Nat} {s : List UInt8} {h : H} (hN : s.length < N) (hlen : s.length ≤ 1000000) :
    ∃ h' v ρ, callV E6 N (n + 6) (.fn (.func 20) [] []) [.fn (.func 45) [] [.pv [.str s]]] h = some (.val v, h') ∧ Row h' v ρ (lines s) ∧ h.next ≤ h'.next := by
  obtain ⟨h', v, ρ, e1, e2, e3⟩ := f47_ok (n := n) (N := N) (h := h) hN hlen
  refine ⟨h', v, ρ, ?_, e2, e3⟩
  rw [callV_func]
  obtain ⟨c0, hc0⟩ : ∃ c, Tryz.f20.body = some c := ⟨_, rfl⟩
  rw [callF_run intr20 fn20 hc0 (by rw [hold20]; simp), run_eq]
  simp only [Tryz.f20, Option.some.injEq] at hc0
  subst hc0
  simp only [Tryz.f20, bindArgs_cons, bindArgs_nil, wide20, exec_seq, seqR_normal, seqR_ret, seqR_exit, seqR_ite, exec_block, blockR_normal, blockR_ret, blockR_exit, blockR_ite, exec_skip, exec_exit, exec_ret, exec_region, exec_cond, condR_bool, opList_nil, opList_bare, opList_guardO, guardO_some, dstOf_list, guardR_true, guardR_false, drawFin_some, drawL_nil, drawL_cons, drawS_val, drawS_val0, boolIs_t, boolIs_f, isDef_move, isDef_assign, isDef_pick, isDef_alloc, isDef_box, isDef_build, isDef_buildSlice, isDef_load, isDef_store, isDef_nilCheck, isDef_binOp, isDef_unOp, isDef_convert, isDef_makeInterface, isDef_makeFunc, isDef_makeMap, isDef_makeSlice, isDef_slice, isDef_fieldAddr, isDef_field, isDef_indexAddr, isDef_index, isDef_lookup, isDef_mapUpdate, isDef_insert, isDef_range, isDef_next, isDef_entry, isDef_typeAssert, isDef_extract, isDef_call, isDef_panic, stepR_val, stepR_val0, stepR_ite, one_move, one_assign, one_bin, one_un, one_pick, one_load, one_indexAddr, one_index, one_fieldAddr, one_call, one_box, one_store, one_builtin, one_buildSlice, one_slice, one_makeFunc, one_extract, callR3_some, valR_some, valR_ite, b1_some, b2_some, b2h_some, newR_some, memR_some, resR_some, resR_ite, pickR_bool, ev_tmp, ev_func, ev_global, ev_int, ev_bool, ev_str, ev_slice, ev_nilFunc, slot_set2, slot_frame0, optAll_nil, optAll_step, consO_some, Option.bind_some, intOp, bin_int, bin_str, strOp, unOp, ne_eq, reduceCtorEq, not_false_eq_true, Nat.reduceLT, Nat.reduceEqDiff, Nat.reduceAdd, Nat.reduceSub, Nat.reduceMul, reduceIte, Nat.max_def, Nat.reduceLeDiff, List.length_cons, List.length_nil, List.getElem?_cons_succ, List.getElem?_cons_zero, beq_self_eq_true, Bool.not_true, Bool.not_false, List.cons_append, List.nil_append, List.append_nil, get_push, next_push, next_set', next_kill', cells?_get, tok?_get, loop?_get, cellsObj_cells, tokObj_tok, loopObj_loop, H.get_set, H.get_kill, new_none, List.size_toArray, List.drop_zero, List.drop_succ_cons, List.take_succ_cons, List.take_zero, List.take_nil, List.drop_nil, List.head?_cons, List.isEmpty_nil, List.isEmpty_cons, cellsOfAll, List.flatMap_cons, List.flatMap_nil, AV.cells, ones, oneC, uniform, List.all_cons, List.all_nil, chunks, elemVal, buildEs, setNth, List.replicate_succ, List.replicate_zero, putCells, elemsOf, rowLike, Bool.and_true, Bool.true_and, decide_true, and_self, and_true, true_and, Bool.false_eq_true, Nat.mul_one, Nat.one_mul, if_true, if_false, Prod.fst, Prod.snd, plain, builtin, appendOp, storeVar, loadVar, part, TI.ag, e1, endR_ret, resultsOf]

/-! slices.Equal -/
theorem fn19 : E6.fn 19 = some Tryz.f19 := by kernel_rfl
theorem intr19 : E6.intr 19 = none := by kernel_rfl
theorem wide19 : E6.wide 19 = false := by kernel_rfl
theorem inc19 : E6.inc 19 6 = [] := by kernel_rfl
/-- a row of strings, wherever it lies -/
def RowA (h : H) (v : AV) (acc : List (List UInt8)) : Prop :=
  (acc = [] ∧ v = .nils) ∨ (∃ t, v = .vl t (acc.map .str)) ∨ ∃ r, v = .sl 1 false r 0 acc.length ∧ h.get r = some (.cells 9 (acc.map .str))
theorem Row.any {h : H} {v : AV} {ρ : Option Nat} {acc : List (List UInt8)} (hr : Row h v ρ acc) : RowA h v acc := by
  cases ρ with
  | none => exact .inl hr
  | some r => exact .inr (.inr ⟨r, hr.2.2.1, hr.2.2.2⟩)
theorem RowA.len {h : H} {v : AV} {acc : List (List UInt8)} (hr : RowA h v acc) : lenOp E6 h 28 v = some acc.length := by
  rcases hr with ⟨rfl, rfl⟩ | ⟨t, rfl⟩ | ⟨r, rfl, _⟩ <;> simp [lenOp, ty28]
theorem RowA.at {h : H} {v : AV} {acc : List (List UInt8)} (hr : RowA h v acc) {i : Nat} {x : List UInt8} (hx : acc[i]? = some x) : ∃ a, indexAddr E6 28 v (.int .i64 (i : Int)) = some a ∧ ∀ m, loadVar E6 ⟨m, h.objs⟩ 9 a = some (.str x) := by
  rcases hr with ⟨rfl, rfl⟩ | ⟨t, rfl⟩ | ⟨r, rfl, hg⟩
  · cases hx
  · refine ⟨.pv [.str x], ?_, fun m => ?_⟩
    · simp only [indexAddr, asNat_nat, ty28, ty9, Option.bind_some, List.getElem?_map, hx, Option.map_some, AV.cells, List.length_cons, List.length_nil]
      rfl
    · simp only [loadVar, ty9, Option.bind_some, part, TI.ag]
      rfl
  · have hi : i < acc.length := (List.getElem?_eq_some_iff.1 hx).1
    refine ⟨.ptr r i, ?_, fun m => ?_⟩
    · simp only [indexAddr, asNat_nat, ty28, ty9, Option.bind_some, hi, and_self, if_true, Nat.zero_add, Nat.mul_one]
    · have hg' : (⟨m, h.objs⟩ : H).get r = some (.cells 9 (acc.map .str)) := hg
      simp only [loadVar, ty9, Option.bind_some, part, TI.ag, cells?_get, hg', cellsObj_cells]
      simp [hx]

noncomputable def bod19 : Code := match Tryz.f19.body with
  | some (.seq _ (.seq _ (.seq (.seq _ (.block _ (.loop b))) _))) => b
  | _ => .skip
noncomputable def r0_19 : Code := match Tryz.f19.body with
  | some (.seq a _) => a
  | _ => .skip
noncomputable def r1_19 : Code := match Tryz.f19.body with
  | some (.seq _ (.seq a _)) => a
  | _ => .skip
noncomputable def r3_19 : Code := match Tryz.f19.body with
  | some (.seq _ (.seq _ (.seq (.seq a (.block _ (.loop b))) _))) => a
  | _ => .skip
noncomputable def r9_19 : Code := match Tryz.f19.body with
  | some (.seq _ (.seq _ (.seq (.seq _ (.block _ (.loop _))) a))) => a
  | _ => .skip
theorem body19 : Tryz.f19.body = some (.seq r0_19 (.seq r1_19 (.seq (.seq r3_19 (.block 0 (.loop bod19))) r9_19))) := rfl
/-- Equal's frame -/
structure Q (fr : T AV) (u v : AV) : Prop where
  s0 : slot fr 0 = u
  s1 : slot fr 1 = v
theorem r0_19_ok {cv : Cv} {N : Nat} {fr : T AV} {h : H} {u v : AV} (hq : Q fr u v) : ∃ fr', exec E6 cv N 19 26 none r0_19 ⟨fr, h, []⟩ = some (.normal, ⟨fr', h, []⟩) ∧ Q fr' u v := by
  obtain ⟨s0, s1⟩ := hq
  simp only [r0_19, Tryz.f19, wide19, exec_seq, seqR_normal, seqR_ret, seqR_exit, seqR_ite, exec_block, blockR_normal, blockR_ret, blockR_exit, blockR_ite, exec_skip, exec_exit, exec_ret, exec_region, exec_cond, condR_bool, opList_nil, opList_bare, opList_guardO, guardO_some, dstOf_list, guardR_true, guardR_false, drawFin_some, drawL_nil, drawL_cons, drawS_val, drawS_val0, boolIs_t, boolIs_f, isDef_move, isDef_assign, isDef_pick, isDef_alloc, isDef_box, isDef_build, isDef_buildSlice, isDef_load, isDef_store, isDef_nilCheck, isDef_binOp, isDef_unOp, isDef_convert, isDef_makeInterface, isDef_makeFunc, isDef_makeMap, isDef_makeSlice, isDef_slice, isDef_fieldAddr, isDef_field, isDef_indexAddr, isDef_index, isDef_lookup, isDef_mapUpdate, isDef_insert, isDef_range, isDef_next, isDef_entry, isDef_typeAssert, isDef_extract, isDef_call, isDef_panic, stepR_val, stepR_val0, stepR_ite, one_move, one_assign, one_bin, one_un, one_pick, one_load, one_indexAddr, one_index, one_fieldAddr, one_call, one_box, one_store, one_builtin, one_buildSlice, one_slice, one_makeFunc, one_extract, callR3_some, valR_some, valR_ite, b1_some, b2_some, b2h_some, newR_some, memR_some, resR_some, resR_ite, pickR_bool, ev_tmp, ev_func, ev_global, ev_int, ev_bool, ev_str, ev_slice, ev_nilFunc, slot_set2, slot_frame0, optAll_nil, optAll_step, consO_some, Option.bind_some, intOp, bin_int, bin_str, strOp, unOp, ne_eq, reduceCtorEq, not_false_eq_true, Nat.reduceLT, Nat.reduceEqDiff, Nat.reduceAdd, Nat.reduceSub, Nat.reduceMul, reduceIte, Nat.max_def, Nat.reduceLeDiff, List.length_cons, List.length_nil, List.getElem?_cons_succ, List.getElem?_cons_zero, beq_self_eq_true, Bool.not_true, Bool.not_false, List.cons_append, List.nil_append, List.append_nil, get_push, next_push, next_set', next_kill', cells?_get, tok?_get, loop?_get, cellsObj_cells, tokObj_tok, loopObj_loop, H.get_set, H.get_kill, new_none, List.size_toArray, List.drop_zero, List.drop_succ_cons, List.take_succ_cons, List.take_zero, List.take_nil, List.drop_nil, List.head?_cons, List.isEmpty_nil, List.isEmpty_cons, cellsOfAll, List.flatMap_cons, List.flatMap_nil, AV.cells, ones, oneC, uniform, List.all_cons, List.all_nil, chunks, elemVal, buildEs, setNth, List.replicate_succ, List.replicate_zero, putCells, elemsOf, rowLike, Bool.and_true, Bool.true_and, decide_true, and_self, and_true, true_and, Bool.false_eq_true, Nat.mul_one, Nat.one_mul, if_true, if_false, Prod.fst, Prod.snd, plain, builtin, appendOp, storeVar, loadVar, part, TI.ag]
  exact ⟨_, rfl, by simp only [slot_set2, Nat.reduceEqDiff, if_false, s0], by simp only [slot_set2, Nat.reduceEqDiff, if_false, s1]⟩
theorem r1_19_ok {cv : Cv} {N k : Nat} {fr : T AV} {h : H} {u v : AV} (hq : Q fr u v) (hu : lenOp E6 h 28 u = some k) (hv : lenOp E6 h 28 v = some k) : ∃ fr', exec E6 cv N 19 26 none r1_19 ⟨fr, h, []⟩ = some (.normal, ⟨fr', h, []⟩) ∧ Q fr' u v := by
  obtain ⟨s0, s1⟩ := hq
  have e : (((k : Int)) != ((k : Nat) : Int)) = false := by simp
  simp only [r1_19, Tryz.f19, wide19, exec_seq, seqR_normal, seqR_ret, seqR_exit, seqR_ite, exec_block, blockR_normal, blockR_ret, blockR_exit, blockR_ite, exec_skip, exec_exit, exec_ret, exec_region, exec_cond, condR_bool, opList_nil, opList_bare, opList_guardO, guardO_some, dstOf_list, guardR_true, guardR_false, drawFin_some, drawL_nil, drawL_cons, drawS_val, drawS_val0, boolIs_t, boolIs_f, isDef_move, isDef_assign, isDef_pick, isDef_alloc, isDef_box, isDef_build, isDef_buildSlice, isDef_load, isDef_store, isDef_nilCheck, isDef_binOp, isDef_unOp, isDef_convert, isDef_makeInterface, isDef_makeFunc, isDef_makeMap, isDef_makeSlice, isDef_slice, isDef_fieldAddr, isDef_field, isDef_indexAddr, isDef_index, isDef_lookup, isDef_mapUpdate, isDef_insert, isDef_range, isDef_next, isDef_entry, isDef_typeAssert, isDef_extract, isDef_call, isDef_panic, stepR_val, stepR_val0, stepR_ite, one_move, one_assign, one_bin, one_un, one_pick, one_load, one_indexAddr, one_index, one_fieldAddr, one_call, one_box, one_store, one_builtin, one_buildSlice, one_slice, one_makeFunc, one_extract, callR3_some, valR_some, valR_ite, b1_some, b2_some, b2h_some, newR_some, memR_some, resR_some, resR_ite, pickR_bool, ev_tmp, ev_func, ev_global, ev_int, ev_bool, ev_str, ev_slice, ev_nilFunc, slot_set2, slot_frame0, optAll_nil, optAll_step, consO_some, Option.bind_some, intOp, bin_int, bin_str, strOp, unOp, ne_eq, reduceCtorEq, not_false_eq_true, Nat.reduceLT, Nat.reduceEqDiff, Nat.reduceAdd, Nat.reduceSub, Nat.reduceMul, reduceIte, Nat.max_def, Nat.reduceLeDiff, List.length_cons, List.length_nil, List.getElem?_cons_succ, List.getElem?_cons_zero, beq_self_eq_true, Bool.not_true, Bool.not_false, List.cons_append, List.nil_append, List.append_nil, get_push, next_push, next_set', next_kill', cells?_get, tok?_get, loop?_get, cellsObj_cells, tokObj_tok, loopObj_loop, H.get_set, H.get_kill, new_none, List.size_toArray, List.drop_zero, List.drop_succ_cons, List.take_succ_cons, List.take_zero, List.take_nil, List.drop_nil, List.head?_cons, List.isEmpty_nil, List.isEmpty_cons, cellsOfAll, List.flatMap_cons, List.flatMap_nil, AV.cells, ones, oneC, uniform, List.all_cons, List.all_nil, chunks, elemVal, buildEs, setNth, List.replicate_succ, List.replicate_zero, putCells, elemsOf, rowLike, Bool.and_true, Bool.true_and, decide_true, and_self, and_true, true_and, Bool.false_eq_true, Nat.mul_one, Nat.one_mul, if_true, if_false, Prod.fst, Prod.snd, plain, builtin, appendOp, storeVar, loadVar, part, TI.ag, s0, s1, hu, hv, e]
  exact ⟨_, rfl, by simp only [slot_set2, Nat.reduceEqDiff, if_false, s0], by simp only [slot_set2, Nat.reduceEqDiff, if_false, s1]⟩
theorem r3_19_ok {cv : Cv} {N k : Nat} {fr : T AV} {h : H} {u v : AV} (hq : Q fr u v) (hu : lenOp E6 h 28 u = some k) : ∃ fr', exec E6 cv N 19 26 none r3_19 ⟨fr, h, []⟩ = some (.normal, ⟨fr', h, []⟩) ∧ Q fr' u v ∧ slot fr' 12 = .int .i64 k ∧ slot fr' 13 = .int .i64 0 := by
  obtain ⟨s0, s1⟩ := hq
  simp only [r3_19, Tryz.f19, wide19, exec_seq, seqR_normal, seqR_ret, seqR_exit, seqR_ite, exec_block, blockR_normal, blockR_ret, blockR_exit, blockR_ite, exec_skip, exec_exit, exec_ret, exec_region, exec_cond, condR_bool, opList_nil, opList_bare, opList_guardO, guardO_some, dstOf_list, guardR_true, guardR_false, drawFin_some, drawL_nil, drawL_cons, drawS_val, drawS_val0, boolIs_t, boolIs_f, isDef_move, isDef_assign, isDef_pick, isDef_alloc, isDef_box, isDef_build, isDef_buildSlice, isDef_load, isDef_store, isDef_nilCheck, isDef_binOp, isDef_unOp, isDef_convert, isDef_makeInterface, isDef_makeFunc, isDef_makeMap, isDef_makeSlice, isDef_slice, isDef_fieldAddr, isDef_field, isDef_indexAddr, isDef_index, isDef_lookup, isDef_mapUpdate, isDef_insert, isDef_range, isDef_next, isDef_entry, isDef_typeAssert, isDef_extract, isDef_call, isDef_panic, stepR_val, stepR_val0, stepR_ite, one_move, one_assign, one_bin, one_un, one_pick, one_load, one_indexAddr, one_index, one_fieldAddr, one_call, one_box, one_store, one_builtin, one_buildSlice, one_slice, one_makeFunc, one_extract, callR3_some, valR_some, valR_ite, b1_some, b2_some, b2h_some, newR_some, memR_some, resR_some, resR_ite, pickR_bool, ev_tmp, ev_func, ev_global, ev_int, ev_bool, ev_str, ev_slice, ev_nilFunc, slot_set2, slot_frame0, optAll_nil, optAll_step, consO_some, Option.bind_some, intOp, bin_int, bin_str, strOp, unOp, ne_eq, reduceCtorEq, not_false_eq_true, Nat.reduceLT, Nat.reduceEqDiff, Nat.reduceAdd, Nat.reduceSub, Nat.reduceMul, reduceIte, Nat.max_def, Nat.reduceLeDiff, List.length_cons, List.length_nil, List.getElem?_cons_succ, List.getElem?_cons_zero, beq_self_eq_true, Bool.not_true, Bool.not_false, List.cons_append, List.nil_append, List.append_nil, get_push, next_push, next_set', next_kill', cells?_get, tok?_get, loop?_get, cellsObj_cells, tokObj_tok, loopObj_loop, H.get_set, H.get_kill, new_none, List.size_toArray, List.drop_zero, List.drop_succ_cons, List.take_succ_cons, List.take_zero, List.take_nil, List.drop_nil, List.head?_cons, List.isEmpty_nil, List.isEmpty_cons, cellsOfAll, List.flatMap_cons, List.flatMap_nil, AV.cells, ones, oneC, uniform, List.all_cons, List.all_nil, chunks, elemVal, buildEs, setNth, List.replicate_succ, List.replicate_zero, putCells, elemsOf, rowLike, Bool.and_true, Bool.true_and, decide_true, and_self, and_true, true_and, Bool.false_eq_true, Nat.mul_one, Nat.one_mul, if_true, if_false, Prod.fst, Prod.snd, plain, builtin, appendOp, storeVar, loadVar, part, TI.ag, s0, s1, hu]
  exact ⟨_, rfl, ⟨by simp only [slot_set2, Nat.reduceEqDiff, if_false, s0], by simp only [slot_set2, Nat.reduceEqDiff, if_false, s1]⟩, by simp only [slot_set2, Nat.reduceEqDiff, if_false, if_true], by simp only [slot_set2, Nat.reduceEqDiff, if_false, if_true]⟩
theorem bod19_end {cv : Cv} {N k : Nat} {fr : T AV} {h : H} (h12 : slot fr 12 = .int .i64 k) (h13 : slot fr 13 = .int .i64 k) : ∃ fr', exec E6 cv N 19 26 none bod19 ⟨fr, h, []⟩ = some (.exit 0, ⟨fr', h, []⟩) := by
  have e : ¬ ((k : Int) < k) := by omega
  simp only [bod19, Tryz.f19, wide19, exec_seq, seqR_normal, seqR_ret, seqR_exit, seqR_ite, exec_block, blockR_normal, blockR_ret, blockR_exit, blockR_ite, exec_skip, exec_exit, exec_ret, exec_region, exec_cond, condR_bool, opList_nil, opList_bare, opList_guardO, guardO_some, dstOf_list, guardR_true, guardR_false, drawFin_some, drawL_nil, drawL_cons, drawS_val, drawS_val0, boolIs_t, boolIs_f, isDef_move, isDef_assign, isDef_pick, isDef_alloc, isDef_box, isDef_build, isDef_buildSlice, isDef_load, isDef_store, isDef_nilCheck, isDef_binOp, isDef_unOp, isDef_convert, isDef_makeInterface, isDef_makeFunc, isDef_makeMap, isDef_makeSlice, isDef_slice, isDef_fieldAddr, isDef_field, isDef_indexAddr, isDef_index, isDef_lookup, isDef_mapUpdate, isDef_insert, isDef_range, isDef_next, isDef_entry, isDef_typeAssert, isDef_extract, isDef_call, isDef_panic, stepR_val, stepR_val0, stepR_ite, one_move, one_assign, one_bin, one_un, one_pick, one_load, one_indexAddr, one_index, one_fieldAddr, one_call, one_box, one_store, one_builtin, one_buildSlice, one_slice, one_makeFunc, one_extract, callR3_some, valR_some, valR_ite, b1_some, b2_some, b2h_some, newR_some, memR_some, resR_some, resR_ite, pickR_bool, ev_tmp, ev_func, ev_global, ev_int, ev_bool, ev_str, ev_slice, ev_nilFunc, slot_set2, slot_frame0, optAll_nil, optAll_step, consO_some, Option.bind_some, intOp, bin_int, bin_str, strOp, unOp, ne_eq, reduceCtorEq, not_false_eq_true, Nat.reduceLT, Nat.reduceEqDiff, Nat.reduceAdd, Nat.reduceSub, Nat.reduceMul, reduceIte, Nat.max_def, Nat.reduceLeDiff, List.length_cons, List.length_nil, List.getElem?_cons_succ, List.getElem?_cons_zero, beq_self_eq_true, Bool.not_true, Bool.not_false, List.cons_append, List.nil_append, List.append_nil, get_push, next_push, next_set', next_kill', cells?_get, tok?_get, loop?_get, cellsObj_cells, tokObj_tok, loopObj_loop, H.get_set, H.get_kill, new_none, List.size_toArray, List.drop_zero, List.drop_succ_cons, List.take_succ_cons, List.take_zero, List.take_nil, List.drop_nil, List.head?_cons, List.isEmpty_nil, List.isEmpty_cons, cellsOfAll, List.flatMap_cons, List.flatMap_nil, AV.cells, ones, oneC, uniform, List.all_cons, List.all_nil, chunks, elemVal, buildEs, setNth, List.replicate_succ, List.replicate_zero, putCells, elemsOf, rowLike, Bool.and_true, Bool.true_and, decide_true, and_self, and_true, true_and, Bool.false_eq_true, Nat.mul_one, Nat.one_mul, if_true, if_false, Prod.fst, Prod.snd, plain, builtin, appendOp, storeVar, loadVar, part, TI.ag, h12, h13, e, decide_false]
  exact ⟨_, rfl⟩

theorem bod19_step {cv : Cv} {N k i : Nat} {fr : T AV} {h : H} {u v a b : AV} {x : List UInt8} (hq : Q fr u v) (h12 : slot fr 12 = .int .i64 k) (h13 : slot fr 13 = .int .i64 i) (hik : i < k) (hk : k ≤ 2000000) (ea : indexAddr E6 28 u (.int .i64 i) = some a) (la : ∀ m, loadVar E6 ⟨m, h.objs⟩ 9 a = some (.str x))
    (eb : indexAddr E6 28 v (.int .i64 i) = some b) (lb : ∀ m, loadVar E6 ⟨m, h.objs⟩ 9 b = some (.str x)) :
    ∃ fr', exec E6 cv N 19 26 none bod19 ⟨fr, h, []⟩ = some (.normal, ⟨fr', ⟨h.next + 9, h.objs⟩, []⟩) ∧ Q fr' u v ∧ slot fr' 12 = .int .i64 k ∧ slot fr' 13 = .int .i64 ((i + 1 : Nat) : Int) := by
  obtain ⟨s0, s1⟩ := hq
  have e : ((i : Int) < k) := by omega
  have w1 : wrap .i64 ((i : Int) + 1) = ((i + 1 : Nat) : Int) := by
    rw [← wrap_nat (i := i + 1) (by omega)]; rfl
  simp only [bod19, Tryz.f19, wide19, exec_seq, seqR_normal, seqR_ret, seqR_exit, seqR_ite, exec_block, blockR_normal, blockR_ret, blockR_exit, blockR_ite, exec_skip, exec_exit, exec_ret, exec_region, exec_cond, condR_bool, opList_nil, opList_bare, opList_guardO, guardO_some, dstOf_list, guardR_true, guardR_false, drawFin_some, drawL_nil, drawL_cons, drawS_val, drawS_val0, boolIs_t, boolIs_f, isDef_move, isDef_assign, isDef_pick, isDef_alloc, isDef_box, isDef_build, isDef_buildSlice, isDef_load, isDef_store, isDef_nilCheck, isDef_binOp, isDef_unOp, isDef_convert, isDef_makeInterface, isDef_makeFunc, isDef_makeMap, isDef_makeSlice, isDef_slice, isDef_fieldAddr, isDef_field, isDef_indexAddr, isDef_index, isDef_lookup, isDef_mapUpdate, isDef_insert, isDef_range, isDef_next, isDef_entry, isDef_typeAssert, isDef_extract, isDef_call, isDef_panic, stepR_val, stepR_val0, stepR_ite, one_move, one_assign, one_bin, one_un, one_pick, one_load, one_indexAddr, one_index, one_fieldAddr, one_call, one_box, one_store, one_builtin, one_buildSlice, one_slice, one_makeFunc, one_extract, callR3_some, valR_some, valR_ite, b1_some, b2_some, b2h_some, newR_some, memR_some, resR_some, resR_ite, pickR_bool, ev_tmp, ev_func, ev_global, ev_int, ev_bool, ev_str, ev_slice, ev_nilFunc, slot_set2, slot_frame0, optAll_nil, optAll_step, consO_some, Option.bind_some, intOp, bin_int, bin_str, strOp, unOp, ne_eq, reduceCtorEq, not_false_eq_true, Nat.reduceLT, Nat.reduceEqDiff, Nat.reduceAdd, Nat.reduceSub, Nat.reduceMul, reduceIte, Nat.max_def, Nat.reduceLeDiff, List.length_cons, List.length_nil, List.getElem?_cons_succ, List.getElem?_cons_zero, beq_self_eq_true, Bool.not_true, Bool.not_false, List.cons_append, List.nil_append, List.append_nil, get_push, next_push, next_set', next_kill', cells?_get, tok?_get, loop?_get, cellsObj_cells, tokObj_tok, loopObj_loop, H.get_set, H.get_kill, new_none, List.size_toArray, List.drop_zero, List.drop_succ_cons, List.take_succ_cons, List.take_zero, List.take_nil, List.drop_nil, List.head?_cons, List.isEmpty_nil, List.isEmpty_cons, cellsOfAll, List.flatMap_cons, List.flatMap_nil, AV.cells, ones, oneC, uniform, List.all_cons, List.all_nil, chunks, elemVal, buildEs, setNth, List.replicate_succ, List.replicate_zero, putCells, elemsOf, rowLike, Bool.and_true, Bool.true_and, decide_true, and_self, and_true, true_and, Bool.false_eq_true, Nat.mul_one, Nat.one_mul, if_true, if_false, Prod.fst, Prod.snd, plain, builtin, appendOp, storeVar, part, TI.ag, exec_draw0 inc19, s0, s1, h12, h13, e, ea, eb, la, lb, w1]
  exact ⟨_, rfl, ⟨by simp only [slot_set2, Nat.reduceEqDiff, if_false, s0], by simp only [slot_set2, Nat.reduceEqDiff, if_false, s1]⟩, by simp only [slot_set2, Nat.reduceEqDiff, if_false, h12], by simp only [slot_set2, if_true]⟩
theorem loop19 {cv : Cv} {N : Nat} {u v : AV} {acc : List (List UInt8)} (hk : acc.length ≤ 2000000) : ∀ (d : Nat) {m i : Nat} {fr : T AV} {h : H}, d + i = acc.length → d < m → Q fr u v → slot fr 12 = .int .i64 (acc.length : Nat) → slot fr 13 = .int .i64 i → RowA h u acc → RowA h v acc →
    ∃ fr' h', loopN (exec E6 cv N 19 26 none bod19) m ⟨fr, h, []⟩ = some (.exit 0, ⟨fr', h', []⟩) ∧ h'.objs = h.objs ∧ h.next ≤ h'.next
  | d, 0, _, _, _, _, hm, _, _, _, _, _ => by omega
  | 0, m + 1, i, fr, h, hd, _, hq, h12, h13, _, _ => by
    have hi : i = acc.length := by omega
    subst hi
    obtain ⟨fr', e⟩ := bod19_end (cv := cv) (N := N) (h := h) h12 h13
    exact ⟨fr', h, by simp only [loopN, e, Option.bind_some], rfl, Nat.le_refl _⟩
  | d + 1, m + 1, i, fr, h, hd, hm, hq, h12, h13, hu, hv => by
    have hi : i < acc.length := by omega
    obtain ⟨a, ea, la⟩ := hu.at (List.getElem?_eq_getElem hi)
    obtain ⟨b, eb, lb⟩ := hv.at (List.getElem?_eq_getElem hi)
    obtain ⟨fr1, e, q1, q12, q13⟩ := bod19_step (cv := cv) (N := N) hq h12 h13 hi hk ea la eb lb
    obtain ⟨fr', h', e', g1, g2⟩ := loop19 hk d (m := m) (by omega) (by omega) q1 q12 q13 (h := ⟨h.next + 9, h.objs⟩) hu hv
    refine ⟨fr', h', ?_, g1, Nat.le_trans (Nat.le_add_right _ _) g2⟩
    simp only [loopN, e, Option.bind_some]
    exact e'
theorem r9_19_ok {cv : Cv} {N : Nat} {fr : T AV} {h : H} : ∃ fr', exec E6 cv N 19 26 none r9_19 ⟨fr, h, []⟩ = some (.ret, ⟨fr', h, []⟩) ∧ slot fr' 4 = .bool true := by
  simp only [r9_19, Tryz.f19, wide19, exec_seq, seqR_normal, seqR_ret, seqR_exit, seqR_ite, exec_block, blockR_normal, blockR_ret, blockR_exit, blockR_ite, exec_skip, exec_exit, exec_ret, exec_region, exec_cond, condR_bool, opList_nil, opList_bare, opList_guardO, guardO_some, dstOf_list, guardR_true, guardR_false, drawFin_some, drawL_nil, drawL_cons, drawS_val, drawS_val0, boolIs_t, boolIs_f, isDef_move, isDef_assign, isDef_pick, isDef_alloc, isDef_box, isDef_build, isDef_buildSlice, isDef_load, isDef_store, isDef_nilCheck, isDef_binOp, isDef_unOp, isDef_convert, isDef_makeInterface, isDef_makeFunc, isDef_makeMap, isDef_makeSlice, isDef_slice, isDef_fieldAddr, isDef_field, isDef_indexAddr, isDef_index, isDef_lookup, isDef_mapUpdate, isDef_insert, isDef_range, isDef_next, isDef_entry, isDef_typeAssert, isDef_extract, isDef_call, isDef_panic, stepR_val, stepR_val0, stepR_ite, one_move, one_assign, one_bin, one_un, one_pick, one_load, one_indexAddr, one_index, one_fieldAddr, one_call, one_box, one_store, one_builtin, one_buildSlice, one_slice, one_makeFunc, one_extract, callR3_some, valR_some, valR_ite, b1_some, b2_some, b2h_some, newR_some, memR_some, resR_some, resR_ite, pickR_bool, ev_tmp, ev_func, ev_global, ev_int, ev_bool, ev_str, ev_slice, ev_nilFunc, slot_set2, slot_frame0, optAll_nil, optAll_step, consO_some, Option.bind_some, intOp, bin_int, bin_str, strOp, unOp, ne_eq, reduceCtorEq, not_false_eq_true, Nat.reduceLT, Nat.reduceEqDiff, Nat.reduceAdd, Nat.reduceSub, Nat.reduceMul, reduceIte, Nat.max_def, Nat.reduceLeDiff, List.length_cons, List.length_nil, List.getElem?_cons_succ, List.getElem?_cons_zero, beq_self_eq_true, Bool.not_true, Bool.not_false, List.cons_append, List.nil_append, List.append_nil, get_push, next_push, next_set', next_kill', cells?_get, tok?_get, loop?_get, cellsObj_cells, tokObj_tok, loopObj_loop, H.get_set, H.get_kill, new_none, List.size_toArray, List.drop_zero, List.drop_succ_cons, List.take_succ_cons, List.take_zero, List.take_nil, List.drop_nil, List.head?_cons, List.isEmpty_nil, List.isEmpty_cons, cellsOfAll, List.flatMap_cons, List.flatMap_nil, AV.cells, ones, oneC, uniform, List.all_cons, List.all_nil, chunks, elemVal, buildEs, setNth, List.replicate_succ, List.replicate_zero, putCells, elemsOf, rowLike, Bool.and_true, Bool.true_and, decide_true, and_self, and_true, true_and, Bool.false_eq_true, Nat.mul_one, Nat.one_mul, if_true, if_false, Prod.fst, Prod.snd, plain, builtin, appendOp, storeVar, loadVar, part, TI.ag]
  exact ⟨_, rfl, by simp only [slot_set2, if_true]⟩
/-- two rows of the same strings -/
theorem run19 {cv : Cv} {N : Nat} {u v : AV} {acc : List (List UInt8)} {h : H} (hN : acc.length < N) (hk : acc.length ≤ 2000000) (hu : RowA h u acc) (hv : RowA h v acc) : ∃ h', run E6 cv N 19 Tryz.f19 (.seq r0_19 (.seq r1_19 (.seq (.seq r3_19 (.block 0 (.loop bod19))) r9_19))) [u, v] h = some (.val (.bool true), h') ∧ h'.objs = h.objs ∧ h.next ≤ h'.next := by
  rw [run_eq]
  have hm : max [u, v].length Tryz.f19.ntmps = 26 := rfl
  rw [hm]
  have hq : Q (bindArgs 0 [u, v] (frame0 26)) u v := ⟨by simp only [bindArgs_cons, bindArgs_nil, slot_set2, Nat.reduceAdd, Nat.reduceEqDiff, if_false, if_true], by simp only [bindArgs_cons, bindArgs_nil, slot_set2, Nat.reduceAdd, if_true]⟩
  generalize bindArgs 0 [u, v] (frame0 26) = fr at hq
  obtain ⟨fr1, e1, q1⟩ := r0_19_ok (cv := cv) (N := N) (h := h) hq
  obtain ⟨fr2, e2, q2⟩ := r1_19_ok (cv := cv) (N := N) (h := h) q1 hu.len hv.len
  obtain ⟨fr3, e3, q3, g12, g13⟩ := r3_19_ok (cv := cv) (N := N) (h := h) q2 hu.len
  obtain ⟨fr4, h4, e4, g1, g2⟩ := loop19 (cv := cv) (N := N) hk acc.length (m := N) (i := 0) (by omega) hN q3 g12 g13 hu hv
  obtain ⟨fr5, e5, g5⟩ := r9_19_ok (cv := cv) (N := N) (fr := fr4) (h := h4)
  refine ⟨h4, ?_, g1, g2⟩
  rw [exec_seq, e1, seqR_normal, exec_seq, e2, seqR_normal, exec_seq, exec_seq, e3, seqR_normal, exec_block, exec_loop, e4, blockR_exit, if_pos rfl, seqR_normal, e5, endR_ret]
  have : resultsOf E6 ⟨fr5, h4, []⟩ Tryz.f19 = some (.bool true) := by
    show (optAll _ [ResultVar.tmp 4]).bind _ = _
    simp only [optAll, Option.bind_some, g5]
  rw [this]
  rfl
theorem f19_ok {n N : Nat} {u v : AV} {acc : List (List UInt8)} {h : H} (hN : acc.length < N) (hk : acc.length ≤ 2000000) (hu : RowA h u acc) (hv : RowA h v acc) : ∃ h', callV E6 N (n + 1) (.fn (.func 19) [] []) [u, v] h = some (.val (.bool true), h') ∧ h'.objs = h.objs ∧ h.next ≤ h'.next := by
  rw [callV_func]
  cases hc : (AV.closeds ([] ++ [u, v] ++ []) && !E6.hold 19) with
  | false =>
    obtain ⟨h', e, g⟩ := run19 (cv := callV E6 N n) hN hk hu hv
    exact ⟨h', by rw [callF_run intr19 fn19 body19 hc]; exact e, g⟩
  | true =>
    have hcl : ∀ {w : AV}, AV.closed w = true → RowA h w acc → RowA H.empty w acc := fun {w} hw hr => by
      rcases hr with q | q | ⟨r, rfl, _⟩
      · exact .inl q
      · exact .inr (.inl q)
      · cases hw
    simp only [List.nil_append, List.append_nil, AV.closeds, Bool.and_true, Bool.and_eq_true] at hc
    obtain ⟨h', e, g⟩ := run19 (cv := callV E6 N n) hN hk (hcl hc.1.1 hu) (hcl hc.1.2 hv)
    exact ⟨h, callF_pure intr19 fn19 body19 (by simp only [List.nil_append, List.append_nil, AV.closeds, hc, Bool.and_true]) e rfl, rfl, Nat.le_refl _⟩

/-! desk.Requests and the law -/
theorem fn18 : E6.fn 18 = some Tryz.f18 := by kernel_rfl
theorem intr18 : E6.intr 18 = none := by kernel_rfl
theorem hold18 : E6.hold 18 = false := by kernel_rfl
theorem wide18 : E6.wide 18 = false := by kernel_rfl
theorem f18_ok {n N : Nat} {s : List UInt8} {h : H} : callV E6 N (n + 1) (.fn (.func 18) [] []) [.str s] h = some (.val (.fn (.func 45) [] [.pv [.str s]]), h) := by
  rw [callV_func]
  obtain ⟨c0, hc0⟩ : ∃ c, Tryz.f18.body = some c := ⟨_, rfl⟩
  have hr : run E6 (callV E6 N n) N 18 Tryz.f18 c0 ([] ++ [AV.str s] ++ []) H.empty = some (.val (.fn (.func 45) [] [.ptr 0 0]), H.empty.push (.cells 9 [.str s])) := by
    rw [run_eq]
    simp only [Tryz.f18, Option.some.injEq] at hc0
    subst hc0
    simp only [Tryz.f18, bindArgs_cons, bindArgs_nil, wide18, exec_seq, seqR_normal, seqR_ret, seqR_exit, seqR_ite, exec_block, blockR_normal, blockR_ret, blockR_exit, blockR_ite, exec_skip, exec_exit, exec_ret, exec_region, exec_cond, condR_bool, opList_nil, opList_bare, opList_guardO, guardO_some, dstOf_list, guardR_true, guardR_false, drawFin_some, drawL_nil, drawL_cons, drawS_val, drawS_val0, boolIs_t, boolIs_f, isDef_move, isDef_assign, isDef_pick, isDef_alloc, isDef_box, isDef_build, isDef_buildSlice, isDef_load, isDef_store, isDef_nilCheck, isDef_binOp, isDef_unOp, isDef_convert, isDef_makeInterface, isDef_makeFunc, isDef_makeMap, isDef_makeSlice, isDef_slice, isDef_fieldAddr, isDef_field, isDef_indexAddr, isDef_index, isDef_lookup, isDef_mapUpdate, isDef_insert, isDef_range, isDef_next, isDef_entry, isDef_typeAssert, isDef_extract, isDef_call, isDef_panic, stepR_val, stepR_val0, stepR_ite, one_move, one_assign, one_bin, one_un, one_pick, one_load, one_indexAddr, one_index, one_fieldAddr, one_call, one_box, one_store, one_builtin, one_buildSlice, one_slice, one_makeFunc, one_extract, callR3_some, valR_some, valR_ite, b1_some, b2_some, b2h_some, newR_some, memR_some, resR_some, resR_ite, pickR_bool, ev_tmp, ev_func, ev_global, ev_int, ev_bool, ev_str, ev_slice, ev_nilFunc, slot_set2, slot_frame0, optAll_nil, optAll_step, consO_some, Option.bind_some, intOp, bin_int, bin_str, strOp, unOp, ne_eq, reduceCtorEq, not_false_eq_true, Nat.reduceLT, Nat.reduceEqDiff, Nat.reduceAdd, Nat.reduceSub, Nat.reduceMul, reduceIte, Nat.max_def, Nat.reduceLeDiff, List.length_cons, List.length_nil, List.getElem?_cons_succ, List.getElem?_cons_zero, beq_self_eq_true, Bool.not_true, Bool.not_false, List.cons_append, List.nil_append, List.append_nil, get_push, next_push, next_set', next_kill', cells?_get, tok?_get, loop?_get, cellsObj_cells, tokObj_tok, loopObj_loop, H.get_set, H.get_kill, new_none, List.size_toArray, List.drop_zero, List.drop_succ_cons, List.take_succ_cons, List.take_zero, List.take_nil, List.drop_nil, List.head?_cons, List.isEmpty_nil, List.isEmpty_cons, cellsOfAll, List.flatMap_cons, List.flatMap_nil, AV.cells, ones, oneC, uniform, List.all_cons, List.all_nil, chunks, elemVal, buildEs, setNth, List.replicate_succ, List.replicate_zero, putCells, elemsOf, rowLike, Bool.and_true, Bool.true_and, decide_true, and_self, and_true, true_and, Bool.false_eq_true, Nat.mul_one, Nat.one_mul, if_true, if_false, Prod.fst, Prod.snd, plain, builtin, appendOp, storeVar, loadVar, part, TI.ag, endR_ret, resultsOf]
    rfl
  exact callF_pure intr18 fn18 hc0 (by rw [hold18]; rfl) hr rfl

theorem wide4 : E6.wide 4 = false := by kernel_rfl
theorem fn4 : E6.fn 4 = some Tryz.f4 := by kernel_rfl
theorem intr4 : E6.intr 4 = none := by kernel_rfl
theorem hold4 : E6.hold 4 = false := by kernel_rfl
theorem cv16 {n N : Nat} {h : H} : callV E6 N (n + 1) (.fn (.func 16) [] []) [] h = some (.val (.bool true), h) := by
  rw [callV_func]
  exact callF_intr (show E6.intr 16 = some (memo (.bool true)) by kernel_rfl) rfl
theorem cv17 {n N : Nat} {s : List UInt8} {c : UInt8} {h : H} (hs : s.length < 4294967281) : callV E6 N (n + 1) (.fn (.func 17) [] []) [.str s, .str [c]] h = some (.val (.vl none ((splitC c s).map .str)), h) := by
  rw [callV_func]
  exact callF_intr (show E6.intr 17 = some nSplit by kernel_rfl) (by simp only [List.nil_append, List.append_nil, nSplit, hs, if_true])

noncomputable def r0_4 : Code := match Tryz.f4.body with
  | some (.seq a _) => a
  | _ => .skip
noncomputable def r1_4 : Code := match Tryz.f4.body with
  | some (.seq _ (.seq a _)) => a
  | _ => .skip
noncomputable def r3_4 : Code := match Tryz.f4.body with
  | some (.seq _ (.seq _ (.seq a _))) => a
  | _ => .skip
noncomputable def r5_4 : Code := match Tryz.f4.body with
  | some (.seq _ (.seq _ (.seq _ (.seq a _)))) => a
  | _ => .skip
noncomputable def r6_4 : Code := match Tryz.f4.body with
  | some (.seq _ (.seq _ (.seq _ (.seq _ (.seq (.seq a _) _))))) => a
  | _ => .skip
noncomputable def bod4 : Code := match Tryz.f4.body with
  | some (.seq _ (.seq _ (.seq _ (.seq _ (.seq (.seq _ (.block _ (.loop b))) _))))) => b
  | _ => .skip
noncomputable def r12_4 : Code := match Tryz.f4.body with
  | some (.seq _ (.seq _ (.seq _ (.seq _ (.seq _ (.seq a _)))))) => a
  | _ => .skip
noncomputable def r13_4 : Code := match Tryz.f4.body with
  | some (.seq _ (.seq _ (.seq _ (.seq _ (.seq _ (.seq _ (.seq a _))))))) => a
  | _ => .skip
theorem body4 : Tryz.f4.body = some (.seq r0_4 (.seq r1_4 (.seq r3_4 (.seq r5_4 (.seq (.seq r6_4 (.block 0 (.loop bod4))) (.seq r12_4 (.seq r13_4 .ret))))))) := rfl

theorem r0_4_ok {cv : Cv} {N : Nat} {fr : T AV} {h : H} {s : AV} (h0 : slot fr 0 = s) : ∃ fr', exec E6 cv N 4 38 none r0_4 ⟨fr, h, []⟩ = some (.normal, ⟨fr', h, []⟩) ∧ slot fr' 0 = s := by
  simp only [r0_4, Tryz.f4, wide4, exec_seq, seqR_normal, seqR_ret, seqR_exit, seqR_ite, exec_block, blockR_normal, blockR_ret, blockR_exit, blockR_ite, exec_skip, exec_exit, exec_ret, exec_region, exec_cond, condR_bool, opList_nil, opList_bare, opList_guardO, guardO_some, dstOf_list, guardR_true, guardR_false, drawFin_some, drawL_nil, drawL_cons, drawS_val, drawS_val0, boolIs_t, boolIs_f, isDef_move, isDef_assign, isDef_pick, isDef_alloc, isDef_box, isDef_build, isDef_buildSlice, isDef_load, isDef_store, isDef_nilCheck, isDef_binOp, isDef_unOp, isDef_convert, isDef_makeInterface, isDef_makeFunc, isDef_makeMap, isDef_makeSlice, isDef_slice, isDef_fieldAddr, isDef_field, isDef_indexAddr, isDef_index, isDef_lookup, isDef_mapUpdate, isDef_insert, isDef_range, isDef_next, isDef_entry, isDef_typeAssert, isDef_extract, isDef_call, isDef_panic, stepR_val, stepR_val0, stepR_ite, one_move, one_assign, one_bin, one_un, one_pick, one_load, one_indexAddr, one_index, one_fieldAddr, one_call, one_box, one_store, one_builtin, one_buildSlice, one_slice, one_makeFunc, one_extract, callR3_some, valR_some, valR_ite, b1_some, b2_some, b2h_some, newR_some, memR_some, resR_some, resR_ite, pickR_bool, ev_tmp, ev_func, ev_global, ev_int, ev_bool, ev_str, ev_slice, ev_nilFunc, slot_set2, slot_frame0, optAll_nil, optAll_step, consO_some, Option.bind_some, intOp, bin_int, bin_str, strOp, unOp, ne_eq, reduceCtorEq, not_false_eq_true, Nat.reduceLT, Nat.reduceEqDiff, Nat.reduceAdd, Nat.reduceSub, Nat.reduceMul, reduceIte, Nat.max_def, Nat.reduceLeDiff, List.length_cons, List.length_nil, List.getElem?_cons_succ, List.getElem?_cons_zero, beq_self_eq_true, Bool.not_true, Bool.not_false, List.cons_append, List.nil_append, List.append_nil, get_push, next_push, next_set', next_kill', cells?_get, tok?_get, loop?_get, cellsObj_cells, tokObj_tok, loopObj_loop, H.get_set, H.get_kill, new_none, List.size_toArray, List.drop_zero, List.drop_succ_cons, List.take_succ_cons, List.take_zero, List.take_nil, List.drop_nil, List.head?_cons, List.isEmpty_nil, List.isEmpty_cons, cellsOfAll, List.flatMap_cons, List.flatMap_nil, AV.cells, ones, oneC, uniform, List.all_cons, List.all_nil, chunks, elemVal, buildEs, setNth, List.replicate_succ, List.replicate_zero, putCells, elemsOf, rowLike, Bool.and_true, Bool.true_and, decide_true, and_self, and_true, true_and, Bool.false_eq_true, Nat.mul_one, Nat.one_mul, if_true, if_false, Prod.fst, Prod.snd, plain, builtin, appendOp, storeVar, loadVar, part, TI.ag]
  exact ⟨_, rfl, by simp only [slot_set2, Nat.reduceEqDiff, if_false, h0]⟩
theorem r1_4_ok {n N : Nat} {fr : T AV} {h : H} {s : AV} (h0 : slot fr 0 = s) : ∃ fr', exec E6 (callV E6 N (n + 1)) N 4 38 none r1_4 ⟨fr, h, []⟩ = some (.normal, ⟨fr', h, []⟩) ∧ slot fr' 0 = s := by
  simp only [r1_4, Tryz.f4, wide4, exec_seq, seqR_normal, seqR_ret, seqR_exit, seqR_ite, exec_block, blockR_normal, blockR_ret, blockR_exit, blockR_ite, exec_skip, exec_exit, exec_ret, exec_region, exec_cond, condR_bool, opList_nil, opList_bare, opList_guardO, guardO_some, dstOf_list, guardR_true, guardR_false, drawFin_some, drawL_nil, drawL_cons, drawS_val, drawS_val0, boolIs_t, boolIs_f, isDef_move, isDef_assign, isDef_pick, isDef_alloc, isDef_box, isDef_build, isDef_buildSlice, isDef_load, isDef_store, isDef_nilCheck, isDef_binOp, isDef_unOp, isDef_convert, isDef_makeInterface, isDef_makeFunc, isDef_makeMap, isDef_makeSlice, isDef_slice, isDef_fieldAddr, isDef_field, isDef_indexAddr, isDef_index, isDef_lookup, isDef_mapUpdate, isDef_insert, isDef_range, isDef_next, isDef_entry, isDef_typeAssert, isDef_extract, isDef_call, isDef_panic, stepR_val, stepR_val0, stepR_ite, one_move, one_assign, one_bin, one_un, one_pick, one_load, one_indexAddr, one_index, one_fieldAddr, one_call, one_box, one_store, one_builtin, one_buildSlice, one_slice, one_makeFunc, one_extract, callR3_some, valR_some, valR_ite, b1_some, b2_some, b2h_some, newR_some, memR_some, resR_some, resR_ite, pickR_bool, ev_tmp, ev_func, ev_global, ev_int, ev_bool, ev_str, ev_slice, ev_nilFunc, slot_set2, slot_frame0, optAll_nil, optAll_step, consO_some, Option.bind_some, intOp, bin_int, bin_str, strOp, unOp, ne_eq, reduceCtorEq, not_false_eq_true, Nat.reduceLT, Nat.reduceEqDiff, Nat.reduceAdd, Nat.reduceSub, Nat.reduceMul, reduceIte, Nat.max_def, Nat.reduceLeDiff, List.length_cons, List.length_nil, List.getElem?_cons_succ, List.getElem?_cons_zero, beq_self_eq_true, Bool.not_true, Bool.not_false, List.cons_append, List.nil_append, List.append_nil, get_push, next_push, next_set', next_kill', cells?_get, tok?_get, loop?_get, cellsObj_cells, tokObj_tok, loopObj_loop, H.get_set, H.get_kill, new_none, List.size_toArray, List.drop_zero, List.drop_succ_cons, List.take_succ_cons, List.take_zero, List.take_nil, List.drop_nil, List.head?_cons, List.isEmpty_nil, List.isEmpty_cons, cellsOfAll, List.flatMap_cons, List.flatMap_nil, AV.cells, ones, oneC, uniform, List.all_cons, List.all_nil, chunks, elemVal, buildEs, setNth, List.replicate_succ, List.replicate_zero, putCells, elemsOf, rowLike, Bool.and_true, Bool.true_and, decide_true, and_self, and_true, true_and, Bool.false_eq_true, Nat.mul_one, Nat.one_mul, if_true, if_false, Prod.fst, Prod.snd, plain, builtin, appendOp, storeVar, loadVar, part, TI.ag, cv16]
  exact ⟨_, rfl, by simp only [slot_set2, Nat.reduceEqDiff, if_false, h0]⟩
theorem r3_4_long {cv : Cv} {N : Nat} {fr : T AV} {h : H} {s : List UInt8} (h0 : slot fr 0 = .str s) (hl : (s.length : Int) > 1000) : ∃ fr', exec E6 cv N 4 38 none r3_4 ⟨fr, h, []⟩ = some (.ret, ⟨fr', h, []⟩) ∧ slot fr' 2 = .bool true := by
  simp only [r3_4, Tryz.f4, wide4, exec_seq, seqR_normal, seqR_ret, seqR_exit, seqR_ite, exec_block, blockR_normal, blockR_ret, blockR_exit, blockR_ite, exec_skip, exec_exit, exec_ret, exec_region, exec_cond, condR_bool, opList_nil, opList_bare, opList_guardO, guardO_some, dstOf_list, guardR_true, guardR_false, drawFin_some, drawL_nil, drawL_cons, drawS_val, drawS_val0, boolIs_t, boolIs_f, isDef_move, isDef_assign, isDef_pick, isDef_alloc, isDef_box, isDef_build, isDef_buildSlice, isDef_load, isDef_store, isDef_nilCheck, isDef_binOp, isDef_unOp, isDef_convert, isDef_makeInterface, isDef_makeFunc, isDef_makeMap, isDef_makeSlice, isDef_slice, isDef_fieldAddr, isDef_field, isDef_indexAddr, isDef_index, isDef_lookup, isDef_mapUpdate, isDef_insert, isDef_range, isDef_next, isDef_entry, isDef_typeAssert, isDef_extract, isDef_call, isDef_panic, stepR_val, stepR_val0, stepR_ite, one_move, one_assign, one_bin, one_un, one_pick, one_load, one_indexAddr, one_index, one_fieldAddr, one_call, one_box, one_store, one_builtin, one_buildSlice, one_slice, one_makeFunc, one_extract, callR3_some, valR_some, valR_ite, b1_some, b2_some, b2h_some, newR_some, memR_some, resR_some, resR_ite, pickR_bool, ev_tmp, ev_func, ev_global, ev_int, ev_bool, ev_str, ev_slice, ev_nilFunc, slot_set2, slot_frame0, optAll_nil, optAll_step, consO_some, Option.bind_some, intOp, bin_int, bin_str, strOp, unOp, ne_eq, reduceCtorEq, not_false_eq_true, Nat.reduceLT, Nat.reduceEqDiff, Nat.reduceAdd, Nat.reduceSub, Nat.reduceMul, reduceIte, Nat.max_def, Nat.reduceLeDiff, List.length_cons, List.length_nil, List.getElem?_cons_succ, List.getElem?_cons_zero, beq_self_eq_true, Bool.not_true, Bool.not_false, List.cons_append, List.nil_append, List.append_nil, get_push, next_push, next_set', next_kill', cells?_get, tok?_get, loop?_get, cellsObj_cells, tokObj_tok, loopObj_loop, H.get_set, H.get_kill, new_none, List.size_toArray, List.drop_zero, List.drop_succ_cons, List.take_succ_cons, List.take_zero, List.take_nil, List.drop_nil, List.head?_cons, List.isEmpty_nil, List.isEmpty_cons, cellsOfAll, List.flatMap_cons, List.flatMap_nil, AV.cells, ones, oneC, uniform, List.all_cons, List.all_nil, chunks, elemVal, buildEs, setNth, List.replicate_succ, List.replicate_zero, putCells, elemsOf, rowLike, Bool.and_true, Bool.true_and, decide_true, and_self, and_true, true_and, Bool.false_eq_true, Nat.mul_one, Nat.one_mul, if_true, if_false, Prod.fst, Prod.snd, plain, builtin, appendOp, storeVar, loadVar, part, TI.ag, h0, lenOp, ty9, hl]
  exact ⟨_, rfl, by simp only [slot_set2, if_true]⟩
theorem r3_4_ok {cv : Cv} {N : Nat} {fr : T AV} {h : H} {s : List UInt8} (h0 : slot fr 0 = .str s) (hl : ¬ (s.length : Int) > 1000) : ∃ fr', exec E6 cv N 4 38 none r3_4 ⟨fr, h, []⟩ = some (.normal, ⟨fr', h, []⟩) ∧ slot fr' 0 = .str s := by
  simp only [r3_4, Tryz.f4, wide4, exec_seq, seqR_normal, seqR_ret, seqR_exit, seqR_ite, exec_block, blockR_normal, blockR_ret, blockR_exit, blockR_ite, exec_skip, exec_exit, exec_ret, exec_region, exec_cond, condR_bool, opList_nil, opList_bare, opList_guardO, guardO_some, dstOf_list, guardR_true, guardR_false, drawFin_some, drawL_nil, drawL_cons, drawS_val, drawS_val0, boolIs_t, boolIs_f, isDef_move, isDef_assign, isDef_pick, isDef_alloc, isDef_box, isDef_build, isDef_buildSlice, isDef_load, isDef_store, isDef_nilCheck, isDef_binOp, isDef_unOp, isDef_convert, isDef_makeInterface, isDef_makeFunc, isDef_makeMap, isDef_makeSlice, isDef_slice, isDef_fieldAddr, isDef_field, isDef_indexAddr, isDef_index, isDef_lookup, isDef_mapUpdate, isDef_insert, isDef_range, isDef_next, isDef_entry, isDef_typeAssert, isDef_extract, isDef_call, isDef_panic, stepR_val, stepR_val0, stepR_ite, one_move, one_assign, one_bin, one_un, one_pick, one_load, one_indexAddr, one_index, one_fieldAddr, one_call, one_box, one_store, one_builtin, one_buildSlice, one_slice, one_makeFunc, one_extract, callR3_some, valR_some, valR_ite, b1_some, b2_some, b2h_some, newR_some, memR_some, resR_some, resR_ite, pickR_bool, ev_tmp, ev_func, ev_global, ev_int, ev_bool, ev_str, ev_slice, ev_nilFunc, slot_set2, slot_frame0, optAll_nil, optAll_step, consO_some, Option.bind_some, intOp, bin_int, bin_str, strOp, unOp, ne_eq, reduceCtorEq, not_false_eq_true, Nat.reduceLT, Nat.reduceEqDiff, Nat.reduceAdd, Nat.reduceSub, Nat.reduceMul, reduceIte, Nat.max_def, Nat.reduceLeDiff, List.length_cons, List.length_nil, List.getElem?_cons_succ, List.getElem?_cons_zero, beq_self_eq_true, Bool.not_true, Bool.not_false, List.cons_append, List.nil_append, List.append_nil, get_push, next_push, next_set', next_kill', cells?_get, tok?_get, loop?_get, cellsObj_cells, tokObj_tok, loopObj_loop, H.get_set, H.get_kill, new_none, List.size_toArray, List.drop_zero, List.drop_succ_cons, List.take_succ_cons, List.take_zero, List.take_nil, List.drop_nil, List.head?_cons, List.isEmpty_nil, List.isEmpty_cons, cellsOfAll, List.flatMap_cons, List.flatMap_nil, AV.cells, ones, oneC, uniform, List.all_cons, List.all_nil, chunks, elemVal, buildEs, setNth, List.replicate_succ, List.replicate_zero, putCells, elemsOf, rowLike, Bool.and_true, Bool.true_and, decide_true, and_self, and_true, true_and, Bool.false_eq_true, Nat.mul_one, Nat.one_mul, if_true, if_false, Prod.fst, Prod.snd, plain, builtin, appendOp, storeVar, loadVar, part, TI.ag, h0, lenOp, ty9, hl, decide_false]
  exact ⟨_, rfl, by simp only [slot_set2, Nat.reduceEqDiff, if_false, h0]⟩
theorem r5_4_ok {cv : Cv} {N : Nat} {fr : T AV} {h : H} {s : AV} (h0 : slot fr 0 = s) : ∃ fr', exec E6 cv N 4 38 none r5_4 ⟨fr, h, []⟩ = some (.normal, ⟨fr', h, []⟩) ∧ slot fr' 0 = s ∧ slot fr' 3 = .nils := by
  simp only [r5_4, Tryz.f4, wide4, exec_seq, seqR_normal, seqR_ret, seqR_exit, seqR_ite, exec_block, blockR_normal, blockR_ret, blockR_exit, blockR_ite, exec_skip, exec_exit, exec_ret, exec_region, exec_cond, condR_bool, opList_nil, opList_bare, opList_guardO, guardO_some, dstOf_list, guardR_true, guardR_false, drawFin_some, drawL_nil, drawL_cons, drawS_val, drawS_val0, boolIs_t, boolIs_f, isDef_move, isDef_assign, isDef_pick, isDef_alloc, isDef_box, isDef_build, isDef_buildSlice, isDef_load, isDef_store, isDef_nilCheck, isDef_binOp, isDef_unOp, isDef_convert, isDef_makeInterface, isDef_makeFunc, isDef_makeMap, isDef_makeSlice, isDef_slice, isDef_fieldAddr, isDef_field, isDef_indexAddr, isDef_index, isDef_lookup, isDef_mapUpdate, isDef_insert, isDef_range, isDef_next, isDef_entry, isDef_typeAssert, isDef_extract, isDef_call, isDef_panic, stepR_val, stepR_val0, stepR_ite, one_move, one_assign, one_bin, one_un, one_pick, one_load, one_indexAddr, one_index, one_fieldAddr, one_call, one_box, one_store, one_builtin, one_buildSlice, one_slice, one_makeFunc, one_extract, callR3_some, valR_some, valR_ite, b1_some, b2_some, b2h_some, newR_some, memR_some, resR_some, resR_ite, pickR_bool, ev_tmp, ev_func, ev_global, ev_int, ev_bool, ev_str, ev_slice, ev_nilFunc, slot_set2, slot_frame0, optAll_nil, optAll_step, consO_some, Option.bind_some, intOp, bin_int, bin_str, strOp, unOp, ne_eq, reduceCtorEq, not_false_eq_true, Nat.reduceLT, Nat.reduceEqDiff, Nat.reduceAdd, Nat.reduceSub, Nat.reduceMul, reduceIte, Nat.max_def, Nat.reduceLeDiff, List.length_cons, List.length_nil, List.getElem?_cons_succ, List.getElem?_cons_zero, beq_self_eq_true, Bool.not_true, Bool.not_false, List.cons_append, List.nil_append, List.append_nil, get_push, next_push, next_set', next_kill', cells?_get, tok?_get, loop?_get, cellsObj_cells, tokObj_tok, loopObj_loop, H.get_set, H.get_kill, new_none, List.size_toArray, List.drop_zero, List.drop_succ_cons, List.take_succ_cons, List.take_zero, List.take_nil, List.drop_nil, List.head?_cons, List.isEmpty_nil, List.isEmpty_cons, cellsOfAll, List.flatMap_cons, List.flatMap_nil, AV.cells, ones, oneC, uniform, List.all_cons, List.all_nil, chunks, elemVal, buildEs, setNth, List.replicate_succ, List.replicate_zero, putCells, elemsOf, rowLike, Bool.and_true, Bool.true_and, decide_true, and_self, and_true, true_and, Bool.false_eq_true, Nat.mul_one, Nat.one_mul, if_true, if_false, Prod.fst, Prod.snd, plain, builtin, appendOp, storeVar, loadVar, part, TI.ag]
  exact ⟨_, rfl, by simp only [slot_set2, Nat.reduceEqDiff, if_false, h0], by simp only [slot_set2, if_true]⟩
theorem r6_4_ok {n N : Nat} {fr : T AV} {h : H} {s : List UInt8} {w : AV} (h0 : slot fr 0 = .str s) (h3 : slot fr 3 = w) (hs : s.length < 4294967281) : ∃ fr', exec E6 (callV E6 N (n + 1)) N 4 38 none r6_4 ⟨fr, h, []⟩ = some (.normal, ⟨fr', h, []⟩) ∧ slot fr' 0 = .str s ∧ slot fr' 3 = w ∧ slot fr' 13 = .vl none ((splitC 10 s).map .str) ∧ slot fr' 14 = .int .i64 ((splitC 10 s).length : Nat) ∧ slot fr' 15 = .int .i64 0 := by
  simp only [r6_4, Tryz.f4, wide4, exec_seq, seqR_normal, seqR_ret, seqR_exit, seqR_ite, exec_block, blockR_normal, blockR_ret, blockR_exit, blockR_ite, exec_skip, exec_exit, exec_ret, exec_region, exec_cond, condR_bool, opList_nil, opList_bare, opList_guardO, guardO_some, dstOf_list, guardR_true, guardR_false, drawFin_some, drawL_nil, drawL_cons, drawS_val, drawS_val0, boolIs_t, boolIs_f, isDef_move, isDef_assign, isDef_pick, isDef_alloc, isDef_box, isDef_build, isDef_buildSlice, isDef_load, isDef_store, isDef_nilCheck, isDef_binOp, isDef_unOp, isDef_convert, isDef_makeInterface, isDef_makeFunc, isDef_makeMap, isDef_makeSlice, isDef_slice, isDef_fieldAddr, isDef_field, isDef_indexAddr, isDef_index, isDef_lookup, isDef_mapUpdate, isDef_insert, isDef_range, isDef_next, isDef_entry, isDef_typeAssert, isDef_extract, isDef_call, isDef_panic, stepR_val, stepR_val0, stepR_ite, one_move, one_assign, one_bin, one_un, one_pick, one_load, one_indexAddr, one_index, one_fieldAddr, one_call, one_box, one_store, one_builtin, one_buildSlice, one_slice, one_makeFunc, one_extract, callR3_some, valR_some, valR_ite, b1_some, b2_some, b2h_some, newR_some, memR_some, resR_some, resR_ite, pickR_bool, ev_tmp, ev_func, ev_global, ev_int, ev_bool, ev_str, ev_slice, ev_nilFunc, slot_set2, slot_frame0, optAll_nil, optAll_step, consO_some, Option.bind_some, intOp, bin_int, bin_str, strOp, unOp, ne_eq, reduceCtorEq, not_false_eq_true, Nat.reduceLT, Nat.reduceEqDiff, Nat.reduceAdd, Nat.reduceSub, Nat.reduceMul, reduceIte, Nat.max_def, Nat.reduceLeDiff, List.length_cons, List.length_nil, List.getElem?_cons_succ, List.getElem?_cons_zero, beq_self_eq_true, Bool.not_true, Bool.not_false, List.cons_append, List.nil_append, List.append_nil, get_push, next_push, next_set', next_kill', cells?_get, tok?_get, loop?_get, cellsObj_cells, tokObj_tok, loopObj_loop, H.get_set, H.get_kill, new_none, List.size_toArray, List.drop_zero, List.drop_succ_cons, List.take_succ_cons, List.take_zero, List.take_nil, List.drop_nil, List.head?_cons, List.isEmpty_nil, List.isEmpty_cons, cellsOfAll, List.flatMap_cons, List.flatMap_nil, AV.cells, ones, oneC, uniform, List.all_cons, List.all_nil, chunks, elemVal, buildEs, setNth, List.replicate_succ, List.replicate_zero, putCells, elemsOf, rowLike, Bool.and_true, Bool.true_and, decide_true, and_self, and_true, true_and, Bool.false_eq_true, Nat.mul_one, Nat.one_mul, if_true, if_false, Prod.fst, Prod.snd, plain, builtin, appendOp, storeVar, loadVar, part, TI.ag, h0, cv17 hs, lenOp, ty28, List.length_map]
  exact ⟨_, rfl, by simp only [slot_set2, Nat.reduceEqDiff, if_false, h0], by simp only [slot_set2, Nat.reduceEqDiff, if_false, h3], by simp only [slot_set2, Nat.reduceEqDiff, if_false, if_true], by simp only [slot_set2, Nat.reduceEqDiff, if_false, if_true], by simp only [slot_set2, if_true]⟩

/-- the law's frame in its loop -/
structure Q4 (fr : T AV) (s : List UInt8) (L : List (List UInt8)) (i : Nat) : Prop where
  s0 : slot fr 0 = .str s
  s13 : slot fr 13 = .vl none (L.map .str)
  s14 : slot fr 14 = .int .i64 (L.length : Nat)
  s15 : slot fr 15 = .int .i64 i
theorem bod4_end {cv : Cv} {N : Nat} {fr : T AV} {h : H} {s : List UInt8} {L : List (List UInt8)} {w : AV} (hq : Q4 fr s L L.length) (h3 : slot fr 3 = w) : ∃ fr', exec E6 cv N 4 38 none bod4 ⟨fr, h, []⟩ = some (.exit 0, ⟨fr', h, []⟩) ∧ slot fr' 0 = .str s ∧ slot fr' 3 = w := by
  obtain ⟨s0, s13, s14, s15⟩ := hq
  have e : ¬ ((L.length : Int) < (L.length : Nat)) := by omega
  simp only [bod4, Tryz.f4, wide4, exec_seq, seqR_normal, seqR_ret, seqR_exit, seqR_ite, exec_block, blockR_normal, blockR_ret, blockR_exit, blockR_ite, exec_skip, exec_exit, exec_ret, exec_region, exec_cond, condR_bool, opList_nil, opList_bare, opList_guardO, guardO_some, dstOf_list, guardR_true, guardR_false, drawFin_some, drawL_nil, drawL_cons, drawS_val, drawS_val0, boolIs_t, boolIs_f, isDef_move, isDef_assign, isDef_pick, isDef_alloc, isDef_box, isDef_build, isDef_buildSlice, isDef_load, isDef_store, isDef_nilCheck, isDef_binOp, isDef_unOp, isDef_convert, isDef_makeInterface, isDef_makeFunc, isDef_makeMap, isDef_makeSlice, isDef_slice, isDef_fieldAddr, isDef_field, isDef_indexAddr, isDef_index, isDef_lookup, isDef_mapUpdate, isDef_insert, isDef_range, isDef_next, isDef_entry, isDef_typeAssert, isDef_extract, isDef_call, isDef_panic, stepR_val, stepR_val0, stepR_ite, one_move, one_assign, one_bin, one_un, one_pick, one_load, one_indexAddr, one_index, one_fieldAddr, one_call, one_box, one_store, one_builtin, one_buildSlice, one_slice, one_makeFunc, one_extract, callR3_some, valR_some, valR_ite, b1_some, b2_some, b2h_some, newR_some, memR_some, resR_some, resR_ite, pickR_bool, ev_tmp, ev_func, ev_global, ev_int, ev_bool, ev_str, ev_slice, ev_nilFunc, slot_set2, slot_frame0, optAll_nil, optAll_step, consO_some, Option.bind_some, intOp, bin_int, bin_str, strOp, unOp, ne_eq, reduceCtorEq, not_false_eq_true, Nat.reduceLT, Nat.reduceEqDiff, Nat.reduceAdd, Nat.reduceSub, Nat.reduceMul, reduceIte, Nat.max_def, Nat.reduceLeDiff, List.length_cons, List.length_nil, List.getElem?_cons_succ, List.getElem?_cons_zero, beq_self_eq_true, Bool.not_true, Bool.not_false, List.cons_append, List.nil_append, List.append_nil, get_push, next_push, next_set', next_kill', cells?_get, tok?_get, loop?_get, cellsObj_cells, tokObj_tok, loopObj_loop, H.get_set, H.get_kill, new_none, List.size_toArray, List.drop_zero, List.drop_succ_cons, List.take_succ_cons, List.take_zero, List.take_nil, List.drop_nil, List.head?_cons, List.isEmpty_nil, List.isEmpty_cons, cellsOfAll, List.flatMap_cons, List.flatMap_nil, AV.cells, ones, oneC, uniform, List.all_cons, List.all_nil, chunks, elemVal, buildEs, setNth, List.replicate_succ, List.replicate_zero, putCells, elemsOf, rowLike, Bool.and_true, Bool.true_and, decide_true, and_self, and_true, true_and, Bool.false_eq_true, Nat.mul_one, Nat.one_mul, if_true, if_false, Prod.fst, Prod.snd, plain, builtin, appendOp, storeVar, loadVar, part, TI.ag, s14, s15, e, decide_false]
  exact ⟨_, rfl, by simp only [slot_set2, Nat.reduceEqDiff, if_false, s0], by simp only [slot_set2, Nat.reduceEqDiff, if_false, h3]⟩
theorem strs_at {L : List (List UInt8)} {i : Nat} {x : List UInt8} (hx : L[i]? = some x) : indexAddr E6 28 (.vl none (L.map .str)) (.int .i64 (i : Int)) = some (.pv [.str x]) := by
  simp only [indexAddr, asNat_nat, ty28, ty9, Option.bind_some, List.getElem?_map, hx, Option.map_some, AV.cells, List.length_cons, List.length_nil]
  rfl
theorem bod4_skip {cv : Cv} {N i : Nat} {fr : T AV} {h : H} {s : List UInt8} {L : List (List UInt8)} {w : AV} (hq : Q4 fr s L i) (hk : L.length ≤ 2000000) (hx : L[i]? = some []) (h3 : slot fr 3 = w) : ∃ fr', exec E6 cv N 4 38 none bod4 ⟨fr, h, []⟩ = some (.normal, ⟨fr', h, []⟩) ∧ Q4 fr' s L (i + 1) ∧ slot fr' 3 = w := by
  obtain ⟨s0, s13, s14, s15⟩ := hq
  have hi : i < L.length := (List.getElem?_eq_some_iff.1 hx).1
  have e : ((i : Int) < (L.length : Nat)) := by omega
  have w1 : wrap .i64 ((i : Int) + 1) = ((i + 1 : Nat) : Int) := by
    rw [← wrap_nat (i := i + 1) (by omega)]; rfl
  simp only [bod4, Tryz.f4, wide4, exec_seq, seqR_normal, seqR_ret, seqR_exit, seqR_ite, exec_block, blockR_normal, blockR_ret, blockR_exit, blockR_ite, exec_skip, exec_exit, exec_ret, exec_region, exec_cond, condR_bool, opList_nil, opList_bare, opList_guardO, guardO_some, dstOf_list, guardR_true, guardR_false, drawFin_some, drawL_nil, drawL_cons, drawS_val, drawS_val0, boolIs_t, boolIs_f, isDef_move, isDef_assign, isDef_pick, isDef_alloc, isDef_box, isDef_build, isDef_buildSlice, isDef_load, isDef_store, isDef_nilCheck, isDef_binOp, isDef_unOp, isDef_convert, isDef_makeInterface, isDef_makeFunc, isDef_makeMap, isDef_makeSlice, isDef_slice, isDef_fieldAddr, isDef_field, isDef_indexAddr, isDef_index, isDef_lookup, isDef_mapUpdate, isDef_insert, isDef_range, isDef_next, isDef_entry, isDef_typeAssert, isDef_extract, isDef_call, isDef_panic, stepR_val, stepR_val0, stepR_ite, one_move, one_assign, one_bin, one_un, one_pick, one_load, one_indexAddr, one_index, one_fieldAddr, one_call, one_box, one_store, one_builtin, one_buildSlice, one_slice, one_makeFunc, one_extract, callR3_some, valR_some, valR_ite, b1_some, b2_some, b2h_some, newR_some, memR_some, resR_some, resR_ite, pickR_bool, ev_tmp, ev_func, ev_global, ev_int, ev_bool, ev_str, ev_slice, ev_nilFunc, slot_set2, slot_frame0, optAll_nil, optAll_step, consO_some, Option.bind_some, intOp, bin_int, bin_str, strOp, unOp, ne_eq, reduceCtorEq, not_false_eq_true, Nat.reduceLT, Nat.reduceEqDiff, Nat.reduceAdd, Nat.reduceSub, Nat.reduceMul, reduceIte, Nat.max_def, Nat.reduceLeDiff, List.length_cons, List.length_nil, List.getElem?_cons_succ, List.getElem?_cons_zero, beq_self_eq_true, Bool.not_true, Bool.not_false, List.cons_append, List.nil_append, List.append_nil, get_push, next_push, next_set', next_kill', cells?_get, tok?_get, loop?_get, cellsObj_cells, tokObj_tok, loopObj_loop, H.get_set, H.get_kill, new_none, List.size_toArray, List.drop_zero, List.drop_succ_cons, List.take_succ_cons, List.take_zero, List.take_nil, List.drop_nil, List.head?_cons, List.isEmpty_nil, List.isEmpty_cons, cellsOfAll, List.flatMap_cons, List.flatMap_nil, AV.cells, ones, oneC, uniform, List.all_cons, List.all_nil, chunks, elemVal, buildEs, setNth, List.replicate_succ, List.replicate_zero, putCells, elemsOf, rowLike, Bool.and_true, Bool.true_and, decide_true, and_self, and_true, true_and, Bool.false_eq_true, Nat.mul_one, Nat.one_mul, if_true, if_false, Prod.fst, Prod.snd, plain, builtin, appendOp, storeVar, loadVar, part, TI.ag, s13, s14, s15, e, strs_at hx, ty9, w1]
  exact ⟨_, rfl, ⟨by simp only [slot_set2, Nat.reduceEqDiff, if_false, s0], by simp only [slot_set2, Nat.reduceEqDiff, if_false, s13], by simp only [slot_set2, Nat.reduceEqDiff, if_false, s14], by simp only [slot_set2, if_true]⟩, by simp only [slot_set2, Nat.reduceEqDiff, if_false, h3]⟩
theorem bod4_first {cv : Cv} {N i : Nat} {fr : T AV} {h : H} {s : List UInt8} {L : List (List UInt8)} {x : List UInt8} (hq : Q4 fr s L i) (hk : L.length ≤ 2000000) (hx : L[i]? = some x) (hne : (x == []) = false) (h3 : slot fr 3 = .nils) :
    ∃ fr', exec E6 cv N 4 38 none bod4 ⟨fr, h, []⟩ = some (.normal, ⟨fr', (h.push (.tok 9)).push (.tok 9), []⟩) ∧ Q4 fr' s L (i + 1) ∧ slot fr' 3 = .vl (some (h.next + 1)) [.str x] := by
  obtain ⟨s0, s13, s14, s15⟩ := hq
  have hi : i < L.length := (List.getElem?_eq_some_iff.1 hx).1
  have e : ((i : Int) < (L.length : Nat)) := by omega
  have w1 : wrap .i64 ((i : Int) + 1) = ((i + 1 : Nat) : Int) := by
    rw [← wrap_nat (i := i + 1) (by omega)]; rfl
  simp only [bod4, Tryz.f4, wide4, exec_seq, seqR_normal, seqR_ret, seqR_exit, seqR_ite, exec_block, blockR_normal, blockR_ret, blockR_exit, blockR_ite, exec_skip, exec_exit, exec_ret, exec_region, exec_cond, condR_bool, opList_nil, opList_bare, opList_guardO, guardO_some, dstOf_list, guardR_true, guardR_false, drawFin_some, drawL_nil, drawL_cons, drawS_val, drawS_val0, boolIs_t, boolIs_f, isDef_move, isDef_assign, isDef_pick, isDef_alloc, isDef_box, isDef_build, isDef_buildSlice, isDef_load, isDef_store, isDef_nilCheck, isDef_binOp, isDef_unOp, isDef_convert, isDef_makeInterface, isDef_makeFunc, isDef_makeMap, isDef_makeSlice, isDef_slice, isDef_fieldAddr, isDef_field, isDef_indexAddr, isDef_index, isDef_lookup, isDef_mapUpdate, isDef_insert, isDef_range, isDef_next, isDef_entry, isDef_typeAssert, isDef_extract, isDef_call, isDef_panic, stepR_val, stepR_val0, stepR_ite, one_move, one_assign, one_bin, one_un, one_pick, one_load, one_indexAddr, one_index, one_fieldAddr, one_call, one_box, one_store, one_builtin, one_buildSlice, one_slice, one_makeFunc, one_extract, callR3_some, valR_some, valR_ite, b1_some, b2_some, b2h_some, newR_some, memR_some, resR_some, resR_ite, pickR_bool, ev_tmp, ev_func, ev_global, ev_int, ev_bool, ev_str, ev_slice, ev_nilFunc, slot_set2, slot_frame0, optAll_nil, optAll_step, consO_some, Option.bind_some, intOp, bin_int, bin_str, strOp, unOp, ne_eq, reduceCtorEq, not_false_eq_true, Nat.reduceLT, Nat.reduceEqDiff, Nat.reduceAdd, Nat.reduceSub, Nat.reduceMul, reduceIte, Nat.max_def, Nat.reduceLeDiff, List.length_cons, List.length_nil, List.getElem?_cons_succ, List.getElem?_cons_zero, beq_self_eq_true, Bool.not_true, Bool.not_false, List.cons_append, List.nil_append, List.append_nil, get_push, next_push, next_set', next_kill', cells?_get, tok?_get, loop?_get, cellsObj_cells, tokObj_tok, loopObj_loop, H.get_set, H.get_kill, new_none, List.size_toArray, List.drop_zero, List.drop_succ_cons, List.take_succ_cons, List.take_zero, List.take_nil, List.drop_nil, List.head?_cons, List.isEmpty_nil, List.isEmpty_cons, cellsOfAll, List.flatMap_cons, List.flatMap_nil, AV.cells, ones, oneC, uniform, List.all_cons, List.all_nil, chunks, elemVal, buildEs, setNth, List.replicate_succ, List.replicate_zero, putCells, elemsOf, rowLike, Bool.and_true, Bool.true_and, decide_true, and_self, and_true, true_and, Bool.false_eq_true, Nat.mul_one, Nat.one_mul, if_true, if_false, Prod.fst, Prod.snd, plain, builtin, appendOp, storeVar, loadVar, part, TI.ag, s13, s14, s15, e, strs_at hx, ty9, ty28, w1, h3, hne]
  exact ⟨_, rfl, ⟨by simp only [slot_set2, Nat.reduceEqDiff, if_false, s0], by simp only [slot_set2, Nat.reduceEqDiff, if_false, s13], by simp only [slot_set2, Nat.reduceEqDiff, if_false, s14], by simp only [slot_set2, if_true]⟩, by simp only [slot_set2, Nat.reduceEqDiff, if_false, if_true]⟩
theorem uniform_strs (acc : List (List UInt8)) : ((acc.map AV.str).all fun e => e.cells.length == 1) = true := by
  rw [List.all_map]
  exact List.all_eq_true.2 fun x _ => rfl
theorem bod4_more {cv : Cv} {N i t : Nat} {fr : T AV} {h : H} {s : List UInt8} {L acc : List (List UInt8)} {x : List UInt8} (hq : Q4 fr s L i) (hk : L.length ≤ 2000000) (hx : L[i]? = some x) (hne : (x == []) = false) (h3 : slot fr 3 = .vl (some t) (acc.map .str)) (ht : h.get t = some (.tok 9)) (htn : t < h.next)
    (hb : (acc.length + 1) * 17 ≤ 35184372088832) :
    ∃ fr', exec E6 cv N 4 38 none bod4 ⟨fr, h, []⟩ = some (.normal, ⟨fr', ((h.push (.tok 9)).kill t).push (.tok 9), []⟩) ∧ Q4 fr' s L (i + 1) ∧ slot fr' 3 = .vl (some (h.next + 1)) ((acc ++ [x]).map .str) := by
  obtain ⟨s0, s13, s14, s15⟩ := hq
  have hi : i < L.length := (List.getElem?_eq_some_iff.1 hx).1
  have e : ((i : Int) < (L.length : Nat)) := by omega
  have w1 : wrap .i64 ((i : Int) + 1) = ((i + 1 : Nat) : Int) := by
    rw [← wrap_nat (i := i + 1) (by omega)]; rfl
  have e1 : t ≠ h.next := by omega
  have hu := uniform_strs acc
  simp only [AV.cells] at hu
  simp only [bod4, Tryz.f4, wide4, exec_seq, seqR_normal, seqR_ret, seqR_exit, seqR_ite, exec_block, blockR_normal, blockR_ret, blockR_exit, blockR_ite, exec_skip, exec_exit, exec_ret, exec_region, exec_cond, condR_bool, opList_nil, opList_bare, opList_guardO, guardO_some, dstOf_list, guardR_true, guardR_false, drawFin_some, drawL_nil, drawL_cons, drawS_val, drawS_val0, boolIs_t, boolIs_f, isDef_move, isDef_assign, isDef_pick, isDef_alloc, isDef_box, isDef_build, isDef_buildSlice, isDef_load, isDef_store, isDef_nilCheck, isDef_binOp, isDef_unOp, isDef_convert, isDef_makeInterface, isDef_makeFunc, isDef_makeMap, isDef_makeSlice, isDef_slice, isDef_fieldAddr, isDef_field, isDef_indexAddr, isDef_index, isDef_lookup, isDef_mapUpdate, isDef_insert, isDef_range, isDef_next, isDef_entry, isDef_typeAssert, isDef_extract, isDef_call, isDef_panic, stepR_val, stepR_val0, stepR_ite, one_move, one_assign, one_bin, one_un, one_pick, one_load, one_indexAddr, one_index, one_fieldAddr, one_call, one_box, one_store, one_builtin, one_buildSlice, one_slice, one_makeFunc, one_extract, callR3_some, valR_some, valR_ite, b1_some, b2_some, b2h_some, newR_some, memR_some, resR_some, resR_ite, pickR_bool, ev_tmp, ev_func, ev_global, ev_int, ev_bool, ev_str, ev_slice, ev_nilFunc, slot_set2, slot_frame0, optAll_nil, optAll_step, consO_some, Option.bind_some, intOp, bin_int, bin_str, strOp, unOp, ne_eq, reduceCtorEq, not_false_eq_true, Nat.reduceLT, Nat.reduceEqDiff, Nat.reduceAdd, Nat.reduceSub, Nat.reduceMul, reduceIte, Nat.max_def, Nat.reduceLeDiff, List.length_cons, List.length_nil, List.getElem?_cons_succ, List.getElem?_cons_zero, beq_self_eq_true, Bool.not_true, Bool.not_false, List.cons_append, List.nil_append, List.append_nil, get_push, next_push, next_set', next_kill', cells?_get, tok?_get, loop?_get, cellsObj_cells, tokObj_tok, loopObj_loop, H.get_set, H.get_kill, new_none, List.size_toArray, List.drop_zero, List.drop_succ_cons, List.take_succ_cons, List.take_zero, List.take_nil, List.drop_nil, List.head?_cons, List.isEmpty_nil, List.isEmpty_cons, cellsOfAll, List.flatMap_cons, List.flatMap_nil, AV.cells, ones, oneC, uniform, List.all_cons, List.all_nil, chunks, elemVal, buildEs, setNth, List.replicate_succ, List.replicate_zero, putCells, elemsOf, rowLike, Bool.and_true, Bool.true_and, decide_true, and_self, and_true, true_and, Bool.false_eq_true, Nat.mul_one, Nat.one_mul, if_true, if_false, Prod.fst, Prod.snd, plain, builtin, appendOp, storeVar, loadVar, part, TI.ag, s13, s14, s15, e, strs_at hx, ty9, ty28, w1, h3, hne, ht, e1, hb, List.length_map, hu]
  exact ⟨_, rfl, ⟨by simp only [slot_set2, Nat.reduceEqDiff, if_false, s0], by simp only [slot_set2, Nat.reduceEqDiff, if_false, s13], by simp only [slot_set2, Nat.reduceEqDiff, if_false, s14], by simp only [slot_set2, if_true]⟩, by simp only [slot_set2, Nat.reduceEqDiff, if_false, if_true, List.map_append]; rfl⟩

/-- the row 'want' -/
def RowT (h : H) (v : AV) (acc : List (List UInt8)) : Prop :=
  (acc = [] ∧ v = .nils) ∨ (acc ≠ [] ∧ ∃ t, v = .vl (some t) (acc.map .str) ∧ h.get t = some (.tok 9) ∧ t < h.next)
theorem RowT.any {h h' : H} {v : AV} {acc : List (List UInt8)} (hr : RowT h v acc) : RowA h' v acc := by
  rcases hr with q | ⟨_, t, q, _⟩
  · exact .inl q
  · exact .inr (.inl ⟨_, q⟩)
theorem loop4 {cv : Cv} {N : Nat} {s : List UInt8} {L : List (List UInt8)} (hk : L.length ≤ 1000000) : ∀ (d : Nat) {m i : Nat} {fr : T AV} {h : H} {w : AV} {acc : List (List UInt8)}, d + i = L.length → d < m → acc.length ≤ i → Q4 fr s L i → slot fr 3 = w → RowT h w acc →
    ∃ fr' h' w', loopN (exec E6 cv N 4 38 none bod4) m ⟨fr, h, []⟩ = some (.exit 0, ⟨fr', h', []⟩) ∧ slot fr' 0 = .str s ∧ slot fr' 3 = w' ∧ RowT h' w' (acc ++ (L.drop i).flatMap nonE)
  | d, 0, _, _, _, _, _, _, hm, _, _, _, _ => by omega
  | 0, m + 1, i, fr, h, w, acc, hd, _, _, hq, h3, hr => by
    have hi : i = L.length := by omega
    subst hi
    obtain ⟨fr', e, g0, g3⟩ := bod4_end (cv := cv) (N := N) (h := h) hq h3
    exact ⟨fr', h, w, by simp only [loopN, e, Option.bind_some], g0, g3, by simpa using hr⟩
  | d + 1, m + 1, i, fr, h, w, acc, hd, hm, ha, hq, h3, hr => by
    have hi : i < L.length := by omega
    have hx := List.getElem?_eq_getElem hi
    have hdr : L.drop i = L[i] :: L.drop (i + 1) := List.drop_eq_getElem_cons hi
    by_cases hne : L[i] = []
    · rw [hne] at hx hdr
      obtain ⟨fr1, e, q1, q3⟩ := bod4_skip (cv := cv) (N := N) (h := h) hq (by omega) hx h3
      obtain ⟨fr', h', w', e', g0, g3, g4⟩ := loop4 hk d (m := m) (by omega) (by omega) (by omega) q1 q3 hr
      refine ⟨fr', h', w', ?_, g0, g3, ?_⟩
      · simp only [loopN, e, Option.bind_some]
        exact e'
      · rw [hdr, List.flatMap_cons]
        simpa [nonE] using g4
    · have hneb : (L[i] == []) = false := by simpa using hne
      have hnn : nonE L[i] = [L[i]] := by simp [nonE, hne]
      rcases hr with ⟨rfl, rfl⟩ | ⟨hacc, t, rfl, ht, htn⟩
      · obtain ⟨fr1, e, q1, q3⟩ := bod4_first (cv := cv) (N := N) (h := h) hq (by omega) hx hneb h3
        obtain ⟨fr', h', w', e', g0, g3, g4⟩ := loop4 hk d (m := m) (h := (h.push (.tok 9)).push (.tok 9)) (acc := [L[i]]) (by omega) (by omega) (by simp) q1 q3 (.inr ⟨by simp, h.next + 1, rfl, by simp only [get_push, next_push, if_true], by simp only [next_push]; omega⟩)
        refine ⟨fr', h', w', ?_, g0, g3, ?_⟩
        · simp only [loopN, e, Option.bind_some]
          exact e'
        · rw [hdr, List.flatMap_cons, hnn]
          simpa using g4
      · obtain ⟨fr1, e, q1, q3⟩ := bod4_more (cv := cv) (N := N) (h := h) hq (by omega) hx hneb h3 ht htn (by omega)
        obtain ⟨fr', h', w', e', g0, g3, g4⟩ := loop4 hk d (m := m) (h := ((h.push (.tok 9)).kill t).push (.tok 9)) (acc := acc ++ [L[i]]) (by omega) (by omega) (by simp; omega) q1 q3 (.inr ⟨by simp, h.next + 1, rfl, by simp only [get_push, next_push, next_kill', if_true], by simp only [next_push, next_kill']; omega⟩)
        refine ⟨fr', h', w', ?_, g0, g3, ?_⟩
        · simp only [loopN, e, Option.bind_some]
          exact e'
        · rw [hdr, List.flatMap_cons, hnn]
          simpa using g4
theorem r12_4_ok {n N : Nat} {fr : T AV} {h : H} {s : List UInt8} {w : AV} (h0 : slot fr 0 = .str s) (h3 : slot fr 3 = w) : ∃ fr', exec E6 (callV E6 N (n + 1)) N 4 38 none r12_4 ⟨fr, h, []⟩ = some (.normal, ⟨fr', h, []⟩) ∧ slot fr' 6 = .fn (.func 45) [] [.pv [.str s]] ∧ slot fr' 3 = w := by
  simp only [r12_4, Tryz.f4, wide4, exec_seq, seqR_normal, seqR_ret, seqR_exit, seqR_ite, exec_block, blockR_normal, blockR_ret, blockR_exit, blockR_ite, exec_skip, exec_exit, exec_ret, exec_region, exec_cond, condR_bool, opList_nil, opList_bare, opList_guardO, guardO_some, dstOf_list, guardR_true, guardR_false, drawFin_some, drawL_nil, drawL_cons, drawS_val, drawS_val0, boolIs_t, boolIs_f, isDef_move, isDef_assign, isDef_pick, isDef_alloc, isDef_box, isDef_build, isDef_buildSlice, isDef_load, isDef_store, isDef_nilCheck, isDef_binOp, isDef_unOp, isDef_convert, isDef_makeInterface, isDef_makeFunc, isDef_makeMap, isDef_makeSlice, isDef_slice, isDef_fieldAddr, isDef_field, isDef_indexAddr, isDef_index, isDef_lookup, isDef_mapUpdate, isDef_insert, isDef_range, isDef_next, isDef_entry, isDef_typeAssert, isDef_extract, isDef_call, isDef_panic, stepR_val, stepR_val0, stepR_ite, one_move, one_assign, one_bin, one_un, one_pick, one_load, one_indexAddr, one_index, one_fieldAddr, one_call, one_box, one_store, one_builtin, one_buildSlice, one_slice, one_makeFunc, one_extract, callR3_some, valR_some, valR_ite, b1_some, b2_some, b2h_some, newR_some, memR_some, resR_some, resR_ite, pickR_bool, ev_tmp, ev_func, ev_global, ev_int, ev_bool, ev_str, ev_slice, ev_nilFunc, slot_set2, slot_frame0, optAll_nil, optAll_step, consO_some, Option.bind_some, intOp, bin_int, bin_str, strOp, unOp, ne_eq, reduceCtorEq, not_false_eq_true, Nat.reduceLT, Nat.reduceEqDiff, Nat.reduceAdd, Nat.reduceSub, Nat.reduceMul, reduceIte, Nat.max_def, Nat.reduceLeDiff, List.length_cons, List.length_nil, List.getElem?_cons_succ, List.getElem?_cons_zero, beq_self_eq_true, Bool.not_true, Bool.not_false, List.cons_append, List.nil_append, List.append_nil, get_push, next_push, next_set', next_kill', cells?_get, tok?_get, loop?_get, cellsObj_cells, tokObj_tok, loopObj_loop, H.get_set, H.get_kill, new_none, List.size_toArray, List.drop_zero, List.drop_succ_cons, List.take_succ_cons, List.take_zero, List.take_nil, List.drop_nil, List.head?_cons, List.isEmpty_nil, List.isEmpty_cons, cellsOfAll, List.flatMap_cons, List.flatMap_nil, AV.cells, ones, oneC, uniform, List.all_cons, List.all_nil, chunks, elemVal, buildEs, setNth, List.replicate_succ, List.replicate_zero, putCells, elemsOf, rowLike, Bool.and_true, Bool.true_and, decide_true, and_self, and_true, true_and, Bool.false_eq_true, Nat.mul_one, Nat.one_mul, if_true, if_false, Prod.fst, Prod.snd, plain, builtin, appendOp, storeVar, loadVar, part, TI.ag, h0, f18_ok]
  exact ⟨_, rfl, by simp only [slot_set2, if_true], by simp only [slot_set2, Nat.reduceEqDiff, if_false, h3]⟩
theorem r13_4_ok {cv : Cv} {N : Nat} {fr : T AV} {h h1 h2 h3 h4 : H} {q w v1 v2 : AV} (g6 : slot fr 6 = q) (g3 : slot fr 3 = w) (c1 : cv (.fn (.func 20) [] []) [q] h = some (.val v1, h1)) (c2 : cv (.fn (.func 19) [] []) [v1, w] h1 = some (.val (.bool true), h2))
    (c3 : cv (.fn (.func 20) [] []) [q] h2 = some (.val v2, h3)) (c4 : cv (.fn (.func 19) [] []) [v2, w] h3 = some (.val (.bool true), h4)) : ∃ fr', exec E6 cv N 4 38 none r13_4 ⟨fr, h, []⟩ = some (.normal, ⟨fr', h4, []⟩) ∧ slot fr' 2 = .bool true := by
  simp only [r13_4, Tryz.f4, wide4, exec_seq, seqR_normal, seqR_ret, seqR_exit, seqR_ite, exec_block, blockR_normal, blockR_ret, blockR_exit, blockR_ite, exec_skip, exec_exit, exec_ret, exec_region, exec_cond, condR_bool, opList_nil, opList_bare, opList_guardO, guardO_some, dstOf_list, guardR_true, guardR_false, drawFin_some, drawL_nil, drawL_cons, drawS_val, drawS_val0, boolIs_t, boolIs_f, isDef_move, isDef_assign, isDef_pick, isDef_alloc, isDef_box, isDef_build, isDef_buildSlice, isDef_load, isDef_store, isDef_nilCheck, isDef_binOp, isDef_unOp, isDef_convert, isDef_makeInterface, isDef_makeFunc, isDef_makeMap, isDef_makeSlice, isDef_slice, isDef_fieldAddr, isDef_field, isDef_indexAddr, isDef_index, isDef_lookup, isDef_mapUpdate, isDef_insert, isDef_range, isDef_next, isDef_entry, isDef_typeAssert, isDef_extract, isDef_call, isDef_panic, stepR_val, stepR_val0, stepR_ite, one_move, one_assign, one_bin, one_un, one_pick, one_load, one_indexAddr, one_index, one_fieldAddr, one_call, one_box, one_store, one_builtin, one_buildSlice, one_slice, one_makeFunc, one_extract, callR3_some, valR_some, valR_ite, b1_some, b2_some, b2h_some, newR_some, memR_some, resR_some, resR_ite, pickR_bool, ev_tmp, ev_func, ev_global, ev_int, ev_bool, ev_str, ev_slice, ev_nilFunc, slot_set2, slot_frame0, optAll_nil, optAll_step, consO_some, Option.bind_some, intOp, bin_int, bin_str, strOp, unOp, ne_eq, reduceCtorEq, not_false_eq_true, Nat.reduceLT, Nat.reduceEqDiff, Nat.reduceAdd, Nat.reduceSub, Nat.reduceMul, reduceIte, Nat.max_def, Nat.reduceLeDiff, List.length_cons, List.length_nil, List.getElem?_cons_succ, List.getElem?_cons_zero, beq_self_eq_true, Bool.not_true, Bool.not_false, List.cons_append, List.nil_append, List.append_nil, get_push, next_push, next_set', next_kill', cells?_get, tok?_get, loop?_get, cellsObj_cells, tokObj_tok, loopObj_loop, H.get_set, H.get_kill, new_none, List.size_toArray, List.drop_zero, List.drop_succ_cons, List.take_succ_cons, List.take_zero, List.take_nil, List.drop_nil, List.head?_cons, List.isEmpty_nil, List.isEmpty_cons, cellsOfAll, List.flatMap_cons, List.flatMap_nil, AV.cells, ones, oneC, uniform, List.all_cons, List.all_nil, chunks, elemVal, buildEs, setNth, List.replicate_succ, List.replicate_zero, putCells, elemsOf, rowLike, Bool.and_true, Bool.true_and, decide_true, and_self, and_true, true_and, Bool.false_eq_true, Nat.mul_one, Nat.one_mul, if_true, if_false, Prod.fst, Prod.snd, plain, builtin, appendOp, storeVar, loadVar, part, TI.ag, g6, g3, c1, c2, c3, c4]
  exact ⟨_, rfl, by simp only [slot_set2, if_true]⟩
theorem splitC_len (c : UInt8) : ∀ s : List UInt8, (splitC c s).length ≤ s.length + 1
  | [] => by simp [splitC]
  | b :: s => by
    have := splitC_len c s
    simp only [splitC]
    split
    · simp; omega
    · split
      · rename_i e; rw [e] at this; simp at this ⊢; omega
      · simp
theorem flatE_len : ∀ L : List (List UInt8), (L.flatMap nonE).length ≤ L.length
  | [] => by simp
  | x :: L => by
    have := flatE_len L
    have := nonE_len x
    rw [List.flatMap_cons, List.length_append, List.length_cons]
    omega

theorem desk_run (s : List UInt8) : ∃ h', run E6 (callV E6 4000 30) 4000 4 Tryz.f4 (.seq r0_4 (.seq r1_4 (.seq r3_4 (.seq r5_4 (.seq (.seq r6_4 (.block 0 (.loop bod4))) (.seq r12_4 (.seq r13_4 .ret))))))) [.str s] H.empty = some (.val (.bool true), h') := by
  rw [run_eq]
  have hm : max [AV.str s].length Tryz.f4.ntmps = 38 := rfl
  rw [hm]
  have a0 : slot (bindArgs 0 [AV.str s] (frame0 38)) 0 = .str s := by simp only [bindArgs_cons, bindArgs_nil, slot_set2, if_true]
  generalize bindArgs 0 [AV.str s] (frame0 38) = fr at a0
  have hres : ∀ (fr : T AV) (h : H), slot fr 2 = .bool true → resultsOf E6 ⟨fr, h, []⟩ Tryz.f4 = some (.bool true) := fun fr h e => by
    show (optAll _ [ResultVar.tmp 2]).bind _ = _
    simp only [optAll, Option.bind_some, e]
  obtain ⟨fr1, e1, b1⟩ := r0_4_ok (cv := callV E6 4000 30) (N := 4000) (h := H.empty) a0
  obtain ⟨fr2, e2, b2⟩ := r1_4_ok (n := 29) (N := 4000) (h := H.empty) b1
  by_cases hl : (s.length : Int) > 1000
  · obtain ⟨fr3, e3, b3⟩ := r3_4_long (cv := callV E6 4000 30) (N := 4000) (h := H.empty) b2 hl
    refine ⟨H.empty, ?_⟩
    rw [exec_seq, e1, seqR_normal, exec_seq, e2, seqR_normal, exec_seq, e3, seqR_ret, endR_ret, hres _ _ b3]
    rfl
  · have hs : s.length ≤ 1000 := by omega
    obtain ⟨fr3, e3, b3⟩ := r3_4_ok (cv := callV E6 4000 30) (N := 4000) (h := H.empty) b2 hl
    obtain ⟨fr4, e4, b4, c4⟩ := r5_4_ok (cv := callV E6 4000 30) (N := 4000) (h := H.empty) b3
    obtain ⟨fr5, e5, b5, c5, d13, d14, d15⟩ := r6_4_ok (n := 29) (N := 4000) (h := H.empty) b4 c4 (by omega)
    have hsl := splitC_len 10 s
    obtain ⟨fr6, h6, w, e6, b6, c6, r6⟩ := loop4 (cv := callV E6 4000 30) (N := 4000) (s := s) (L := splitC 10 s) (by omega) (splitC 10 s).length (m := 4000) (i := 0) (acc := []) (by omega) (by omega) (Nat.le_refl _) ⟨b5, d13, d14, d15⟩ c5 (.inl ⟨rfl, rfl⟩)
    rw [List.drop_zero, List.nil_append] at r6
    have hll : (lines s).length ≤ 1001 := Nat.le_trans (flatE_len _) (by omega)
    obtain ⟨fr7, e7, b7, c7⟩ := r12_4_ok (n := 29) (N := 4000) (h := h6) b6 c6
    obtain ⟨h8, v1, ρ1, k1, k2, _⟩ := f20_ok (n := 24) (N := 4000) (s := s) (h := h6) (by omega) (by omega)
    obtain ⟨h9, k3, _, _⟩ := f19_ok (n := 29) (N := 4000) (u := v1) (v := w) (acc := lines s) (h := h8) (by omega) (by omega) k2.any r6.any
    obtain ⟨h10, v2, ρ2, k4, k5, _⟩ := f20_ok (n := 24) (N := 4000) (s := s) (h := h9) (by omega) (by omega)
    obtain ⟨h11, k6, _, _⟩ := f19_ok (n := 29) (N := 4000) (u := v2) (v := w) (acc := lines s) (h := h10) (by omega) (by omega) k5.any r6.any
    obtain ⟨fr8, e8, b8⟩ := r13_4_ok (cv := callV E6 4000 30) (N := 4000) b7 c7 k1 k3 k4 k6
    refine ⟨h11, ?_⟩
    rw [exec_seq, e1, seqR_normal, exec_seq, e2, seqR_normal, exec_seq, e3, seqR_normal, exec_seq, e4, seqR_normal, exec_seq, exec_seq, e5, seqR_normal, exec_block, exec_loop, e6, blockR_exit, if_pos rfl, seqR_normal, exec_seq, e7, seqR_normal, exec_seq, e8, seqR_normal, exec_ret, endR_ret, hres _ _ b8]
    rfl
theorem desk_call (s : List UInt8) (h : H) : callF E6 (callV E6 4000 30) 4000 4 [.str s] h = some (.val (.bool true), h) := by
  obtain ⟨h', e⟩ := desk_run s
  exact callF_pure intr4 fn4 body4 (by rw [hold4]; rfl) e rfl
end Go.Kal
end
