/-
Contracts of library functions.
-/
import Derived.Test.YtacoaajilnpeiaaGreatDoorSb
import Derived.Test.YtacoaajilnpeiaaGreatDoorShelf
import Derived.Lib.IndexBytes
import Derived.Lib.Split
import Derived.Lib.SmallJoins
import Derived.WalkSmall
import Derived.Lib.SplitLaws

set_option linter.unusedVariables false
set_option linter.unusedSimpArgs false

section
namespace Go.Kal
open Go Go.Proofs Go.RowKit

/- what they answer -/
def strsOf : List AV → Option (List (List UInt8))
  | [] => some []
  | .str s :: l => (strsOf l).bind fun r => some (s :: r)
  | _ :: _ => none
def rowOf : AV → Option (List AV)
  | .nils => some []
  | .vl _ l => some l
  | _ => none
/-- split at a byte -/
def splitC (c : UInt8) : List UInt8 → List (List UInt8)
  | [] => [[]]
  | b :: l => if b == c then [] :: splitC c l else match splitC c l with
    | x :: r => (b :: x) :: r
    | [] => [[b]]
def joinC (sep : List UInt8) : List (List UInt8) → List UInt8
  | [] => []
  | [s] => s
  | s :: l => s ++ (sep ++ joinC sep l)
def cutC (c : UInt8) : List UInt8 → List UInt8 × List UInt8 × Bool
  | [] => ([], [], false)
  | b :: l => if b == c then ([], l, true) else (b :: (cutC c l).1, (cutC c l).2.1, (cutC c l).2.2)
/-- decimal digits -/
def digitsN : Nat → Nat → List UInt8 → List UInt8
  | 0, _, acc => acc
  | k + 1, n, acc => if n < 10 then UInt8.ofNat (48 + n) :: acc else digitsN k (n / 10) (UInt8.ofNat (48 + n % 10) :: acc)
def itoaN (n : Int) : List UInt8 := match n with
  | .ofNat m => digitsN 20 m []
  | .negSucc m => 45 :: digitsN 20 (m + 1) []

def nJoin : List AV → Option AV
  | [l, .str sep] => (rowOf l).bind fun l => (strsOf l).bind fun ss => if ss.length ≤ 140737488355328 ∧ (joinC sep ss).length ≤ 140737488355328 then some (.str (joinC sep ss)) else none
  | _ => none
def nRepeat : List AV → Option AV
  | [.str s, .int .i64 (.ofNat n)] => if s.length * n ≤ 140737488355328 ∧ n ≤ 9223372036854775807 then some (.str (Lib.repeatL s n)) else none
  | _ => none
def nSplit : List AV → Option AV
  | [.str s, .str [c]] => if s.length < 4294967281 then some (.vl none ((splitC c s).map .str)) else none
  | _ => none
def nCut : List AV → Option AV
  | [.str s, .str [c]] => if s.length < 4294967281 then some (.tup [.str (cutC c s).1, .str (cutC c s).2.1, .bool (cutC c s).2.2]) else none
  | _ => none
def nIndex : List AV → Option AV
  | [.str s, .str [c]] => some (.int .i64 (idxB c s 0))
  | _ => none
def nContains : List AV → Option AV
  | [.str s, .str [c]] => some (.bool (s.contains c))
  | _ => none
def nItoa : List AV → Option AV
  | [.int .i64 n] => if -9223372036854775808 ≤ n ∧ n ≤ 9223372036854775807 then some (.str (itoaN n)) else none
  | _ => none
def nAtoi : List AV → Option AV
  | [.str s] => if s.length ≤ 281474976710656 then (match Lib.atoiAll s with
    | .ok v => some (.tup [.int .i64 v, .nili])
    | .range => some (.tup [.int .i64 (Lib.atoiSat s), .ifc 299 (.pv [])])
    | _ => some (.tup [.int .i64 0, .ifc 299 (.pv [])])) else none
  | _ => none
def nReplace : List AV → Option AV
  | [.str s, .str [a], .str b] => if s.length < 4294967281 ∧ s.length + Lib.countB ⟨⟨s⟩⟩ ⟨⟨[a]⟩⟩ * b.length ≤ 140737488355328 then some (.str (Lib.replaceAll s [a] b)) else none
  | _ => none

/-- what is known of the package-level variables -/
structure GlobF (G : K) : Prop where
  maxLen : ∃ m el fz, G.pin 1 = some (.cells #[.int .i64 m] el fz)
  pow10 : ∃ el fz, G.pin 5 = some (.cells (Lib.pow10Tab.map fun z => Value.int .u64 z).toArray el fz)
  errS : ∃ tp p el fz, G.pin 9 = some (.cells #[.iface tp p] el fz)
  errR : ∃ tp p el fz, G.pin 10 = some (.cells #[.iface tp p] el fz)

theorem W.below {J : K} {h : H} {w w' : World} (hW : W J h w) (hb : Below w.heap.size w w') : W J h w' ∧ Ext none J h w J h w' := by
  have hk : ∀ k, k < w.heap.size → w'.heap[k]? = w.heap[k]? := hb.block
  refine ⟨⟨?_, ?_, ?_, hW.apart, hW.ids, hW.fresh, fun e => Nat.lt_of_lt_of_le (hW.lt e) hb.size, hW.pin.grow rfl (fun b hb' => hk b (hW.pin.lt hb')) (fun e => .inl e)⟩, ⟨.refl J, hb.os, hb.tape, hb.output, hb.size, fun hx _ => hk _ hx, fun a b => .inr ⟨_, a, b⟩, Nat.le_refl _, fun _ _ => .inl rfl, fun _ => .inl rfl, fun _ a _ => ⟨a, rfl⟩⟩⟩
  · intro b o v e
    obtain ⟨cs, el, fz, g1, g2⟩ := hW.imm e
    exact ⟨cs, el, fz, by rw [hk _ (hW.imm_lt e)]; exact g1, g2⟩
  · intro r l e
    obtain ⟨es, ck, g1, g2⟩ := hW.immM e
    exact ⟨es, ck, by rw [hk _ (hW.immM_lt e)]; exact g1, g2⟩
  · intro id o b hg e
    obtain ⟨ob, g1, g2⟩ := hW.live hg e
    exact ⟨ob, by rw [hk _ (hW.lt e)]; exact g1, g2⟩

section
variable {P : Program} {G J : K} {h : H} {w : World}
theorem pin_of (hG : G.le J) (hW : W J h w) {b : Nat} {o : Go.Obj} (e : G.pin b = some o) : w.heap[b]? = some o := hW.pin.blk (by rw [hG.pin]; exact e)

theorem kcall_below {f : FuncId} {args' : Array Value} {v : AV} {v' : Value} (hW : W J h w) (hc : Calls P f args' w fun e w' => e = .returned v' ∧ Below w.heap.size w w') (hv : VR J v v') :
    CallK P f args' .normal w (fun out w' => ∃ J', OutR J' (.val v) out ∧ W J' h w' ∧ Ext none J h w J' h w') :=
  CallK.of_calls (hc.mono fun e w' ⟨he, hb⟩ => ⟨v', he, J, hv, (hW.below hb).1, (hW.below hb).2⟩)
end

theorem enter_of {f : FuncId} {fn : Func} {args : Array Value} {w : World} (hf : Tryz.prog.funcs[f]? = some fn) (hn : (fn.name == "runtime.NumGoroutine") = false) (hb : fn.body.isSome = true) : (callFunc f args).run Tryz.prog w = .ok (.enter f args) w := by
  obtain ⟨c, hc⟩ := Option.isSome_iff_exists.1 hb
  exact callFunc_enter hf hn hc

/- strings as rows of strings -/
theorem strsOf_eq : ∀ {l : List AV} {ss : List (List UInt8)}, strsOf l = some ss → l = ss.map .str
  | [], ss, h => by cases h; rfl
  | v :: l, ss, h => by
    cases v with
    | str s =>
      simp only [strsOf, Option.bind_eq_some_iff, Option.some.injEq] at h
      obtain ⟨r, h1, rfl⟩ := h
      rw [strsOf_eq h1]; rfl
    | _ => cases h

theorem joinC_eq (sep : List UInt8) : ∀ ss : List (List UInt8), joinC sep ss = Lib.join ss sep
  | [] => rfl
  | [s] => by rw [joinC, Lib.join_one]
  | s :: t :: l => by
    have ih := joinC_eq sep (t :: l)
    rw [joinC, ih, Lib.join_cons, Lib.join_cons, Lib.joinTail, Lib.joinTail]
    simp
    intro h; cases h

theorem ofBytes (l : List UInt8) : (⟨⟨l⟩⟩ : ByteArray).data.toList = l := rfl
end Go.Kal
end

section
namespace Go.Kal
open Go Go.Proofs Go.RowKit

theorem split_miss {c : UInt8} : ∀ {l : List UInt8}, Lib.indexByte l c = -1 → splitC c l = [l]
  | [], _ => rfl
  | b :: l, h => by
    have hge := Lib.indexByte_ge l c
    rw [Lib.indexByte] at h
    by_cases hb : (b == c) = true
    · simp [hb] at h
    · have hb' : (b == c) = false := by simpa using hb
      simp only [hb', Bool.false_eq_true, if_false] at h
      by_cases h1 : Lib.indexByte l c = -1
      · rw [splitC, hb', split_miss h1]; rfl
      · have h2 : (Lib.indexByte l c == -1) = false := by simpa using h1
        simp only [h2, Bool.false_eq_true, if_false] at h
        omega
theorem split_hit {c : UInt8} : ∀ {l : List UInt8} {i : Nat}, Lib.indexByte l c = i → splitC c l = l.take i :: splitC c (l.drop (i + 1))
  | [], i, h => by
    rw [Lib.indexByte] at h
    omega
  | b :: l, i, h => by
    have hge := Lib.indexByte_ge l c
    rw [Lib.indexByte] at h
    by_cases hb : (b == c) = true
    · simp only [hb, if_true] at h
      have : i = 0 := by omega
      subst this
      rw [splitC, hb]; rfl
    · have hb' : (b == c) = false := by simpa using hb
      simp only [hb', Bool.false_eq_true, if_false] at h
      by_cases h1 : Lib.indexByte l c = -1
      · rw [h1] at h
        simp only [beq_self_eq_true, if_true] at h
        omega
      · have h2 : (Lib.indexByte l c == -1) = false := by simpa using h1
        simp only [h2, Bool.false_eq_true, if_false] at h
        obtain ⟨j, hj⟩ : ∃ j : Nat, Lib.indexByte l c = j := ⟨(Lib.indexByte l c).toNat, by omega⟩
        have hi : i = j + 1 := by omega
        subst hi
        rw [splitC, hb', split_hit hj]
        rfl
theorem splitK_eq (c : UInt8) : ∀ (k : Nat) (l : List UInt8), Lib.count l [c] = k → Lib.splitK [c] 0 k l = splitC c l
  | 0, l, hk => by
    rw [Lib.splitK]
    have h1 : Lib.index l [c] = -1 := by
      have hge := Lib.index_ge l [c]
      refine Classical.byContradiction fun hne => ?_
      obtain ⟨i, hi⟩ : ∃ i : Nat, Lib.index l [c] = i := ⟨(Lib.index l [c]).toNat, by omega⟩
      have := Lib.count_hit (s := l) (sub := [c]) (by simp) hi
      omega
    rw [split_miss (by rw [← Lib.index_one]; exact h1)]
  | k + 1, l, hk => by
    have h1 : Lib.index l [c] ≠ -1 := fun q => by rw [Lib.count_miss q] at hk; cases hk
    have hge := Lib.index_ge l [c]
    obtain ⟨i, hi⟩ : ∃ i : Nat, Lib.index l [c] = i := ⟨(Lib.index l [c]).toNat, by omega⟩
    have hc := Lib.count_hit (s := l) (sub := [c]) (by simp) hi
    have h2 : (Lib.index l [c] == -1) = false := by simpa using h1
    have e : (Lib.index l [c]).toNat = i := by omega
    rw [Lib.splitK, h2, e]
    simp only [Bool.false_eq_true, if_false, List.length_cons, List.length_nil, Nat.zero_add, Nat.add_zero] at hc ⊢
    rw [splitK_eq c k (l.drop (i + 1)) (by omega), split_hit (l := l) (i := i) (by rw [← Lib.index_one]; exact hi)]

theorem cut_eq (c : UInt8) : ∀ l : List UInt8, Lib.cut l [c] = cutC c l
  | [] => by simp [Lib.cut, Lib.index, cutC]
  | b :: l => by
    have ih := cut_eq c l
    have hge := Lib.index_ge l [c]
    unfold Lib.cut at ih ⊢
    rw [Lib.index_one] at ih ⊢
    rw [Lib.index_one] at hge
    rw [Lib.indexByte, cutC]
    by_cases hb : (b == c) = true
    · simp [hb]
    · have hb' : (b == c) = false := by simpa using hb
      simp only [hb', Bool.false_eq_true, if_false]
      by_cases h1 : Lib.indexByte l c = -1
      · simp only [h1, beq_self_eq_true, if_true] at ih ⊢
        rw [if_neg (by omega)] at ih ⊢
        rw [← ih]
      · have h2 : (Lib.indexByte l c == -1) = false := by simpa using h1
        simp only [h2, Bool.false_eq_true, if_false]
        rw [if_pos (by omega)] at ih ⊢
        obtain ⟨j, hj⟩ : ∃ j : Nat, Lib.indexByte l c = j := ⟨(Lib.indexByte l c).toNat, by omega⟩
        rw [← ih, hj]
        simp only [Int.toNat_natCast, List.length_cons, List.length_nil, Nat.zero_add]
        rw [show ((j : Int) + 1).toNat = j + 1 by omega]
        simp

theorem digits_acc : ∀ (k n : Nat) (acc : List UInt8), n < 10 ^ k → 0 < k → digitsN k n acc = Lib.decDigits n ++ acc
  | 0, n, acc, h, hk => by omega
  | k + 1, n, acc, h, hk => by
    rw [digitsN, Lib.decDigits]
    by_cases hn : n < 10
    · rw [if_pos hn, dif_pos hn]; rfl
    · rw [if_neg hn, dif_neg hn, digits_acc k (n / 10) _ (by rw [Nat.pow_succ] at h; omega) (by
        cases k with
        | zero => simp at h; omega
        | succ k => omega)]
      simp
theorem itoa_eq {n : Int} (h0 : -9223372036854775808 ≤ n) (h1 : n ≤ 9223372036854775807) : itoaN n = Lib.itoa n := by
  cases n with
  | ofNat m =>
    show digitsN 20 m [] = _
    rw [digits_acc 20 m [] (by have : (Int.ofNat m) = (m : Int) := rfl; omega) (by omega), Lib.itoa, if_neg (by have : (Int.ofNat m) = (m : Int) := rfl; omega)]
    simp
  | negSucc m =>
    show 45 :: digitsN 20 (m + 1) [] = _
    rw [digits_acc 20 (m + 1) [] (by omega) (by omega), Lib.itoa, if_pos (by omega)]
    simp

def libT : T (List AV → Option AV) := (.node (.node (.node (.node .leaf none (.node (.node (.node (.node .leaf (some nRepeat) .leaf) none .leaf) none .leaf) none .leaf)) none .leaf) none (.node (.node (.node .leaf (some nSplit) .leaf) none (.node (.node .leaf (some nJoin) .leaf) none .leaf)) none (.node .leaf none (.node .leaf (some nItoa) .leaf)))) none (.node (.node (.node (.node (.node .leaf (some nIndex) .leaf) none .leaf) (some nContains) .leaf) none (.node (.node .leaf none (.node (.node .leaf (some nAtoi) .leaf) none .leaf)) none (.node .leaf none (.node .leaf (some nCut) .leaf)))) none (.node (.node (.node .leaf none (.node .leaf none (.node .leaf (some nReplace) .leaf))) none .leaf) none .leaf)))

section
variable {G : K}

theorem strs_cells {J : K} {h : H} {w : World} (hW : W J h w) {tk : Option Nat} {ss : List (List UInt8)} {v' : Value} (hv : VR J (.vl tk (ss.map .str)) v') (h0 : ss ≠ []) :
    ∃ b off cap, v' = .slice (some ⟨b, off, none⟩) ss.length cap ∧ ss.length ≤ cap ∧ b < w.heap.size ∧ ∀ (j : Nat) x, (ss.map fun s => (⟨⟨s⟩⟩ : ByteArray))[j]? = some x → w.cell? ⟨b, off + j, none⟩ = some (.string x) := by
  have hco : ∀ l : List (List UInt8), cellsOfAll (l.map AV.str) = l.map AV.str := by
    intro l
    induction l with
    | nil => rfl
    | cons a l ih => rw [List.map_cons, cellsOfAll_cons, ih]; rfl
  generalize hes : ss.map AV.str = es at hv
  cases hv with
  | vl f hpos hsz hi hvv hcap htk ha hemp =>
    rename_i b off cap sz ad
    subst hes
    have hae := ha.resolve_left (fun q => h0 (by simpa using q.1))
    subst hae
    have hlen : (cellsOfAll (ss.map AV.str)).length = ss.length := by rw [hco]; simp
    have hcell : ∀ (j : Nat) (hj : j < ss.length), J.imm b (off + j) = some (.string ⟨⟨ss[j]⟩⟩) := by
      intro j hj
      have h1 := hi j (by rw [hlen]; exact hj)
      have h2 := hvv j (by rw [hlen]; exact hj)
      have h3 : (cellsOfAll (ss.map AV.str))[j]'(by rw [hlen]; exact hj) = .str ss[j] := by
        have := congrArg (·[j]?) (hco ss)
        simp only [List.getElem?_map, List.getElem?_eq_getElem hj, Option.map_some] at this
        rw [List.getElem?_eq_getElem (by rw [hlen]; exact hj)] at this
        simpa using this
      rw [h3] at h2
      generalize f j = fj at h1 h2
      cases h2
      exact h1
    refine ⟨b, off, cap, by simp, by simpa using hcap, ?_, ?_⟩
    · obtain ⟨s, l, rfl⟩ := List.exists_cons_of_ne_nil h0
      exact hW.imm_lt (hcell 0 (by simp))
    · intro j x hx
      obtain ⟨hj, hx'⟩ := List.getElem?_eq_some_iff.1 hx
      simp only [List.length_map] at hj
      simp only [List.getElem_map] at hx'
      rw [← hx']
      exact cell_imm hW (hcell j hj)

theorem intr_join : IntrOK G 41 nJoin := by
  intro args args' v J h w hga hl hG hW
  refine ⟨enter_of (f := 41) (fn := Tryz.f41) Tryz.func41 (by kernel_rfl) (by kernel_rfl), ?_⟩
  unfold nJoin at hga
  split at hga
  · rename_i l sep
    simp only [Option.bind_eq_some_iff] at hga
    obtain ⟨l0, hl0, ss, hss, hga⟩ := hga
    split at hga
    · rename_i hb
      cases hga
      obtain ⟨l', sep', rfl, hlv, hsv⟩ := args2 hl
      cases hsv
      have hmap := strsOf_eq hss
      subst hmap
      by_cases h0 : ss = []
      · subst h0
        have hsl : ∃ a c, l' = .slice a 0 c := by
          cases l <;> simp only [rowOf] at hl0 <;> try (cases hl0; done)
          · cases hlv; exact ⟨_, _, rfl⟩
          · cases hl0
            cases hlv with
            | vl => exact ⟨_, _, rfl⟩
        obtain ⟨a, c, rfl⟩ := hsl
        refine kcall_below hW ((Tryz.strings_Join_none a c ⟨⟨sep⟩⟩ w).mono fun e w' ⟨he, hw⟩ => ⟨he, by subst hw; exact Below.refl _ _⟩) (.str _)
      · cases l <;> simp only [rowOf] at hl0 <;> try (cases hl0; done)
        · exact absurd (by simpa using (Option.some.inj hl0).symm) h0
        · cases hl0
          obtain ⟨b, off, cap, rfl, hcap, hblt, hcells⟩   := strs_cells hW hlv h0
          have hmm : (ss.map fun s => (⟨⟨s⟩⟩ : ByteArray)).map (·.data.toList) = ss := by simp [List.map_map, Function.comp_def]
          have hc := Tryz.strings_Join b off cap (ss.map fun s => (⟨⟨s⟩⟩ : ByteArray)) ⟨⟨sep⟩⟩ w hcells hblt (by simpa using hb.1) (by simpa using hcap) (by rw [hmm, ← joinC_eq]; exact hb.2)
          rw [hmm] at hc
          simp only [List.length_map, ← joinC_eq] at hc
          exact kcall_below hW hc (.str _)
    · cases hga
  · cases hga

theorem intr_repeat : IntrOK G 135 nRepeat := by
  intro args args' v J h w hga hl hG hW
  refine ⟨enter_of (f := 135) (fn := Tryz.f135) Tryz.func135 (by kernel_rfl) (by kernel_rfl), ?_⟩
  unfold nRepeat at hga
  split at hga
  · rename_i s n
    split at hga
    · rename_i hb
      cases hga
      obtain ⟨s', n', rfl, hsv, hnv⟩ := args2 hl
      cases hsv
      cases hnv
      exact kcall_below hW (Tryz.strings_Repeat ⟨⟨s⟩⟩ n w hb.2 hb.1) (.str _)
    · cases hga
  · cases hga

theorem max_cell {J : K} {h : H} {w : World} (hg : GlobF G) (hG : G.le J) (hW : W J h w) : ∃ m, w.cell? ⟨1, 0, none⟩ = some (.int .i64 m) := by
  obtain ⟨m, el, fz, e⟩ := hg.maxLen
  exact ⟨m, by simp [World.cell?, pin_of hG hW e]⟩

theorem intr_split (hg : GlobF G) : IntrOK G 17 nSplit := by
  intro args args' v J h w hga hl hG hW
  refine ⟨enter_of (f := 17) (fn := Tryz.f17) Tryz.func17 (by kernel_rfl) (by kernel_rfl), ?_⟩
  unfold nSplit at hga
  split at hga
  · rename_i s c
    split at hga
    · rename_i hb
      cases hga
      obtain ⟨s', c', rfl, hsv, hcv⟩ := args2 hl
      cases hsv
      cases hcv
      obtain ⟨m, hm⟩ := max_cell hg hG hW
      have hc := Tryz.strings_Split ⟨⟨s⟩⟩ ⟨⟨[c]⟩⟩ m w hb hm (Nat.le_refl 1)
      have hlen := Lib.splitB_all ⟨⟨[c]⟩⟩ (Nat.le_refl 1) 0 (Lib.countB ⟨⟨s⟩⟩ ⟨⟨[c]⟩⟩) ⟨⟨s⟩⟩ rfl
      have hdata := Lib.splitB_data ⟨⟨[c]⟩⟩ 0 (Lib.countB ⟨⟨s⟩⟩ ⟨⟨[c]⟩⟩) ⟨⟨s⟩⟩
      generalize hps : Lib.splitB ⟨⟨[c]⟩⟩ 0 (Lib.countB ⟨⟨s⟩⟩ ⟨⟨[c]⟩⟩) ⟨⟨s⟩⟩ = ps at hc hlen hdata
      have hsp : ps.map (·.data.toList) = splitC c s := by
        rw [hdata]; exact splitK_eq c _ s rfl
      rw [← hlen] at hc
      refine CallK.of_calls (hc.mono fun e w' ⟨he, hw⟩ => ?_)
      subst hw
      obtain ⟨k1, k2⟩ := hW.known (x := none) (.cells (ps.map Value.string).toArray 9) (fun o => (ps.map Value.string)[o]?) (fun o v e => ⟨_, _, _, rfl, by simpa using e⟩)
      refine ⟨_, he, J.known w.heap.size (fun o => (ps.map Value.string)[o]?), ?_, k1, k2⟩
      have hco : cellsOfAll ((splitC c s).map AV.str) = (splitC c s).map AV.str := by
        generalize splitC c s = l
        induction l with
        | nil => rfl
        | cons a l ih => rw [List.map_cons, cellsOfAll_cons, ih]; rfl
      have hl2 : (splitC c s).length = ps.length := by rw [← hsp]; simp
      have hpos : 0 < ps.length := by omega
      have hlenE : ps.length = ((splitC c s).map AV.str).length := by simp [hl2]
      show VR _ (.vl none ((splitC c s).map AV.str)) (.slice (some ⟨w.heap.size, 0, none⟩) ps.length ps.length)
      rw [hlenE]
      refine .vl (b := w.heap.size) (off := 0) (sz := 1) (fun j => (ps.map Value.string).getD j (.bool false)) (by omega) (fun e he => ?_) (fun j hj => ?_) (fun j hj => ?_) (Nat.le_refl _) (fun t ht => by cases ht) (.inr rfl) (fun _ => .inl rfl)
      · obtain ⟨x, _, rfl⟩ := List.mem_map.1 he; rfl
      · have hj' : j < ps.length := by rw [hco] at hj; simpa [hl2] using hj
        simp only [K.known, if_true, Nat.zero_add]
        rw [List.getD_eq_getElem?_getD, List.getElem?_eq_getElem (by simpa using hj')]
        rfl
      · have hj' : j < ps.length := by rw [hco] at hj; simpa [hl2] using hj
        have e1 : (cellsOfAll ((splitC c s).map AV.str))[j] = .str (ps[j].data.toList) := by
          have h1 : (cellsOfAll ((splitC c s).map AV.str))[j]? = some (.str (ps[j].data.toList)) := by
            rw [hco, ← hsp]
            simp [hj']
          rw [List.getElem?_eq_getElem hj] at h1
          exact Option.some.inj h1
        rw [e1, List.getD_eq_getElem?_getD, List.getElem?_eq_getElem (by simpa using hj')]
        simp only [Option.getD_some, List.getElem_map]
        exact .str _
    · cases hga
  · cases hga

theorem intr_cut (hg : GlobF G) : IntrOK G 60 nCut := by
  intro args args' v J h w hga hl hG hW
  refine ⟨enter_of (f := 60) (fn := Tryz.f60) Tryz.func60 (by kernel_rfl) (by kernel_rfl), ?_⟩
  unfold nCut at hga
  split at hga
  · rename_i s c
    split at hga
    · rename_i hb
      cases hga
      obtain ⟨s', c', rfl, hsv, hcv⟩ := args2 hl
      cases hsv
      cases hcv
      obtain ⟨m, hm⟩ := max_cell hg hG hW
      have hc := Tryz.strings_Cut ⟨⟨s⟩⟩ ⟨⟨[c]⟩⟩ m w hb hm
      simp only [ofBytes, cut_eq] at hc
      exact kcall_below hW (hc.mono fun e w' ⟨he, n, hn⟩ => ⟨he, by subst hn; exact below_drewN (Below.refl _ _) n⟩) (VR.tup_iff.2 ⟨_, rfl, .cons (.str _) (.cons (.str _) (.cons (.bool _) (.nil J)))⟩)
    · cases hga
  · cases hga

theorem intr_index : IntrOK G 32 nIndex := by
  intro args args' v J h w hga hl hG hW
  refine ⟨enter_of (f := 32) (fn := Tryz.f32) Tryz.func32 (by kernel_rfl) (by kernel_rfl), ?_⟩
  unfold nIndex at hga
  split at hga
  · rename_i s c
    cases hga
    obtain ⟨s', c', rfl, hsv, hcv⟩ := args2 hl
    cases hsv
    cases hcv
    refine kcall_below hW ((Tryz.strings_Index_one ⟨⟨s⟩⟩ c w).mono fun e w' ⟨he, hw⟩ => ⟨he, by subst hw; exact Below.refl _ _⟩) ?_
    rw [idxB_eq]
    exact .int _ _
  · cases hga

theorem contains_eq (c : UInt8) : ∀ s : List UInt8, s.contains c = decide (0 ≤ Lib.indexByte s c)
  | [] => by simp [Lib.indexByte]
  | b :: l => by
    have hge := Lib.indexByte_ge l c
    rw [Lib.indexByte, List.contains_cons, contains_eq c l]
    by_cases hb : (b == c) = true
    · have : (c == b) = true := by rw [beq_iff_eq] at hb ⊢; exact hb.symm
      simp [hb, this]
    · have hb' : (b == c) = false := by simpa using hb
      have : (c == b) = false := by
        rw [beq_eq_false_iff_ne] at hb' ⊢
        exact fun q => hb' q.symm
      simp only [hb', this, Bool.false_or, Bool.false_eq_true, if_false]
      by_cases h1 : Lib.indexByte l c = -1
      · simp [h1]
      · have h2 : (Lib.indexByte l c == -1) = false := by simpa using h1
        simp only [h2, Bool.false_eq_true, if_false]
        rw [decide_eq_true (by omega), decide_eq_true (by omega)]

theorem intr_contains : IntrOK G 8 nContains := by
  intro args args' v J h w hga hl hG hW
  refine ⟨enter_of (f := 8) (fn := Tryz.f8) Tryz.func8 (by kernel_rfl) (by kernel_rfl), ?_⟩
  unfold nContains at hga
  split at hga
  · rename_i s c
    cases hga
    obtain ⟨s', c', rfl, hsv, hcv⟩ := args2 hl
    cases hsv
    cases hcv
    refine kcall_below hW ((Tryz.strings_Contains_one ⟨⟨s⟩⟩ c w).mono fun e w' ⟨he, hw⟩ => ⟨he, by subst hw; exact Below.refl _ _⟩) ?_
    rw [contains_eq]
    exact .bool _
  · cases hga

theorem intr_itoa (hg : GlobF G) : IntrOK G 29 nItoa := by
  intro args args' v J h w hga hl hG hW
  refine ⟨enter_of (f := 29) (fn := Tryz.f29) Tryz.func29 (by kernel_rfl) (by kernel_rfl), ?_⟩
  unfold nItoa at hga
  split at hga
  · rename_i n
    split at hga
    · rename_i hb
      cases hga
      obtain ⟨n', rfl, hnv⟩ := args1 (l := []) hl
      cases hnv
      obtain ⟨el, fz, e⟩ := hg.pow10
      have htab : Lib.TabIs Tryz.prog w "internal/strconv.uint64pow10" .u64 Lib.pow10Tab := by
        unfold Lib.TabIs World.var?
        rw [show Tryz.prog.globalNamed "internal/strconv.uint64pow10" = some 5 by kernel_rfl]
        simp only [Option.bind_some, pin_of hG hW e]
      refine kcall_below hW ((Tryz.strconv_Itoa n hb.1 hb.2 w htab).mono fun e w' ⟨he, k, os, hw⟩ => ⟨he, ?_⟩) ?_
      · subst hw
        refine (below_drewN (Below.refl w.heap.size w) k).trans ⟨rfl, rfl, rfl, by simp [«Sort».grow], fun j hj => ?_⟩
        have hj' : j < (w.drewN k).heap.size := hj
        show ((w.drewN k).heap ++ os)[j]? = _
        rw [Array.getElem?_append_left hj']
      · rw [itoa_eq hb.1 hb.2]
        exact .str _
    · cases hga
  · cases hga

theorem intr_atoi (hg : GlobF G) : IntrOK G 84 nAtoi := by
  intro args args' v J h w hga hl hG hW
  refine ⟨enter_of (f := 84) (fn := Tryz.f84) Tryz.func84 (by kernel_rfl) (by kernel_rfl), ?_⟩
  unfold nAtoi at hga
  split at hga
  · rename_i s
    split at hga
    · rename_i hb
      obtain ⟨s', rfl, hsv⟩ := args1 (l := []) hl
      cases hsv
      have hpv : ∀ N, VR J (.ifc 299 (.pv [])) (.iface 299 (.pointer (some ⟨N, 0, none⟩))) := fun N => .ifc (.pv (fun _ => .bool false) (fun j hj => absurd hj (by simp)) (fun j hj => absurd hj (by simp)))
      split at hga
      · rename_i n hn
        cases hga
        refine kcall_below hW ((Tryz.strconv_Atoi_ok ⟨⟨s⟩⟩ (by show s.length ≤ _; omega) n hn w).mono fun e w' ⟨he, hw⟩ => ⟨he, ?_⟩) (VR.tup_iff.2 ⟨_, rfl, .cons (.int _ _) (.cons .nili (.nil J))⟩)
        rcases hw with rfl | ⟨t, rfl⟩
        · exact Below.refl _ _
        · exact Lib.bytesWorld_below w 5 t
      · rename_i hn
        cases hga
        obtain ⟨tp, p, el, fz, e⟩ := hg.errR
        have hvar : w.var? Tryz.prog "strconv.ErrRange" = some #[.iface tp p] := by
          unfold World.var?
          rw [show Tryz.prog.globalNamed "strconv.ErrRange" = some 10 by kernel_rfl]
          simp only [Option.bind_some, pin_of hG hW e]
        refine CallK.of_calls ((Tryz.strconv_Atoi_range_var ⟨⟨s⟩⟩ hb hn tp p w hvar).mono fun e w' ⟨N, he, _, _, hbl⟩ => ⟨_, he, J, ?_, (hW.below hbl).1, (hW.below hbl).2⟩)
        exact VR.tup_iff.2 ⟨_, rfl, .cons (.int _ _) (.cons (hpv N) (.nil J))⟩
      · rename_i h1 h2
        have hn : Lib.atoiAll s = Lib.atoiAll [] := by
          cases hr : Lib.atoiAll s with
          | ok v => exact absurd hr (h1 v)
          | range => exact absurd hr h2
          | _ => rfl
        cases hga
        obtain ⟨tp, p, el, fz, e⟩ := hg.errS
        have hvar : w.var? Tryz.prog "strconv.ErrSyntax" = some #[.iface tp p] := by
          unfold World.var?
          rw [show Tryz.prog.globalNamed "strconv.ErrSyntax" = some 9 by kernel_rfl]
          simp only [Option.bind_some, pin_of hG hW e]
        refine CallK.of_calls ((Tryz.strconv_Atoi_syntax_var ⟨⟨s⟩⟩ hb hn tp p w hvar).mono fun e w' ⟨N, he, _, _, hbl⟩ => ⟨_, he, J, ?_, (hW.below hbl).1, (hW.below hbl).2⟩)
        exact VR.tup_iff.2 ⟨_, rfl, .cons (.int _ _) (.cons (hpv N) (.nil J))⟩
    · cases hga
  · cases hga

theorem args3 {J : K} {as' : Array Value} {u v x : AV} (hl : LR J [u, v, x] as'.toList) : ∃ u' v' x', as' = #[u', v', x'] ∧ VR J u u' ∧ VR J v v' ∧ VR J x x' := by
  obtain ⟨u', l1, e1, h1, hl⟩ := hl.uncons
  obtain ⟨v', l2, rfl, h2, hl⟩ := hl.uncons
  obtain ⟨x', l3, rfl, h3, hl⟩ := hl.uncons
  have := hl.nil_inv
  subst this
  exact ⟨u', v', x', by rw [← Array.toList_inj]; exact e1, h1, h2, h3⟩

theorem intr_replace (hg : GlobF G) : IntrOK G 114 nReplace := by
  intro args args' v J h w hga hl hG hW
  refine ⟨enter_of (f := 114) (fn := Tryz.f114) Tryz.func114 (by kernel_rfl) (by kernel_rfl), ?_⟩
  unfold nReplace at hga
  split at hga
  · rename_i s a b
    split at hga
    · rename_i hb
      cases hga
      obtain ⟨s', a', b', rfl, hsv, hav, hbv⟩ := args3 hl
      cases hsv
      cases hav
      cases hbv
      obtain ⟨m, hm⟩ := max_cell hg hG hW
      exact kcall_below hW (Tryz.strings_ReplaceAll ⟨⟨s⟩⟩ ⟨⟨[a]⟩⟩ ⟨⟨b⟩⟩ m w hb.1 hm (Nat.le_refl 1) hb.2) (.str _)
    · cases hga
  · cases hga

/-- the library's functions that go by their contracts -/
def libI (f : Nat) : Option (List AV → Option AV) := (libT.get f)
theorem libI_ok (hg : GlobF G) : ∀ f g, libI f = some g → IntrOK G f g := by
  intro f g e
  have hk := T.get_keys e
  have hkeys : libT.keys.all (fun n => n == 41 || n == 135 || n == 17 || n == 60 || n == 32 || n == 8 || n == 29 || n == 84 || n == 114) = true := by decide
  have := List.all_eq_true.1 hkeys f hk
  simp only [Bool.or_eq_true, beq_iff_eq] at this
  rcases this with ((((((((rfl | rfl) | rfl) | rfl) | rfl) | rfl) | rfl) | rfl) | rfl)
  · cases e; exact @intr_join G
  · cases e; exact @intr_repeat G
  · cases e; exact @intr_split G hg
  · cases e; exact @intr_cut G hg
  · cases e; exact @intr_index G
  · cases e; exact @intr_contains G
  · cases e; exact @intr_itoa G hg
  · cases e; exact @intr_atoi G hg
  · cases e; exact @intr_replace G hg
end
end Go.Kal
end
