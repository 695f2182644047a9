/-
The wrap of a row.
-/
import Derived.Test.YtacoaajilnpeiaaGreatDoorSh
import Derived.Deep.DeepLaidRun
import Derived.Carry

set_option linter.unusedVariables false
set_option linter.unusedSimpArgs false

section
namespace Go.Kal
open Go Go.Proofs Go.Proofs.YtacoaajilnpeiaaGreatDoor

def firstCells : Array Value := ((Pinned.utf8FirstZ.map fun (z : Nat) => Value.int .u8 (z : Int))).toArray
noncomputable def laidW (os : Os) : World :=
  let w := World.doorLaid Tryz.prog 105 os
  { w with heap := w.heap.modify 7 fun
      | .cells _ t frozen => .cells firstCells t frozen
      | o => o }
theorem laidW_met (os : Os) (args : Array Value) : laidMetH Tryz.prog laidL ((laidW os).forCall (fun _ _ => 0) ⟨#[], args, []⟩).memory :=
  show laidMet Tryz.prog laidL _ from laidMet_of_run3 8 (by kernel_rfl) (by kernel_rfl) (by kernel_rfl)
theorem laidW_shaped (os : Os) (args : Array Value) : ((laidW os).forCall (fun _ _ => 0) ⟨#[], args, []⟩).Shaped Tryz.checked.prog :=
  World.shaped_of_RefB (by kernel_rfl) (by kernel_rfl)
end Go.Kal
end

section
namespace Go.Kal
open Go Go.Proofs Go.Proofs.YtacoaajilnpeiaaGreatDoor Go.ChangeShapes Go.WideShapes Go.ChangeAt Go.RowKit

theorem and_t {a b : Bool} (ha : a = true) (hb : b = true) : (a && b) = true := by rw [ha, hb]; rfl

theorem below_of_ext {G J' : K} {w w' : World} {h' : Kal.H} (e : Ext none G H.empty w J' h' w') : Below w.heap.size w w' :=
  ⟨e.os, e.tape, e.output, e.size, fun k hk => e.keep hk fun id hid => by cases hid⟩

section
variable {H : Type} {enc : TypeId × Value → H}
theorem trodAll_below {P : Program} (hl : laidOutB P = true) {W W' : World} (hb : Below W.heap.size W W') : ∀ {ts : List TypeId} {vs : List Value} {ds : List (DataW H)} {p : List MemPlace},
    (ts.all fun t => P.readableRec t && decide (t < P.types.size)) = true → DataW.TrodAll enc P W 0 (fun _ => true) true ts vs ds p → (∀ x ∈ p, x.block < W.heap.size) → DataW.TrodAll enc P W' 0 (fun b => decide (b < W.heap.size)) true ts vs ds p
  | [], [], [], _, _, h, _ => h
  | t :: ts, v :: vs, d :: ds, _, ha, ⟨p, q, h1, h2, e⟩, hx => by
    simp only [List.all_cons, Bool.and_eq_true, decide_eq_true_eq] at ha
    subst e
    exact ⟨p, q, Below.trod hl ha.1.1 ha.1.2 h1 hb (fun x hm => hx x (List.mem_append.2 (.inl hm))), trodAll_below hl hb ha.2 h2 (fun x hm => hx x (List.mem_append.2 (.inr hm))), rfl⟩
  | [], _ :: _, _, _, _, h, _ | [], [], _ :: _, _, _, h, _ | _ :: _, [], _, _, _, h, _ | _ :: _, _ :: _, [], _, _, h, _ => h.elim
theorem trodAll_len {P : Program} {W : World} {b : Nat} {sp : Nat → Bool} {hd : Bool} : ∀ {ts : List TypeId} {vs : List Value} {ds : List (DataW H)} {p : List MemPlace}, DataW.TrodAll enc P W b sp hd ts vs ds p → ds.length = ts.length
  | [], [], [], _, _ => rfl
  | _ :: _, _ :: _, _ :: _, _, ⟨_, _, _, h2, _⟩ => by simp [trodAll_len h2]
  | [], _ :: _, _, _, h | [], [], _ :: _, _, h | _ :: _, [], _, _, h | _ :: _, _ :: _, [], _, h => h.elim

set_option maxRecDepth 100000
theorem laidOut : laidOutB Tryz.prog = true := by kernel_rfl
theorem own : ownKnob Tryz.prog.godebug = none := by kernel_rfl
theorem under_bool : Tryz.prog.underlying 4 = some .bool := by kernel_rfl

/-- **THE WRAP.** 'g': the law's contract; 'hargs': what comes in is an argument of it. -/
theorem law_lifted {laid : List (String × DataW Unit)} (hlaid : laid = laidL) (os : Os) (started : os.Started) {f : Nat} {fn : Func} {s : ChangeSpec} (g : List AV → Option AV) (args0 : Array Value)
    (hfn : Tryz.checked.prog.funcs[f]? = some fn) (noInit : Tryz.checked.prog.inits.idxOf? f = none) (hvars : s.vars = [])
    (hspec : ∀ ds : List (DataW H), ds.length = fn.params.size → s.fn H ds = { results := [.lit (.bool true)], args := ds })
    (hres : fn.resultTypes.toList = [4]) (hsize : fn.resultTypes.size = 1)
    (hread : (fn.params.toList.all fun t => Tryz.prog.readableRec t && decide (t < Tryz.prog.types.size)) = true)
    (hok : Input.okWideB Tryz.checked.prog ((laidW os).forCall (fun _ _ => 0) ⟨#[], args0, []⟩) f ⟨#[], args0, []⟩ = true)
    (hpre : s.preB enc Tryz.checked.prog fn [] false ((laidW os).forCall (fun _ _ => 0) ⟨#[], args0, []⟩).memory args0 8 = true)
    (hsz : s.sizedB enc Tryz.checked.prog fn false ((laidW os).forCall (fun _ _ => 0) ⟨#[], args0, []⟩).memory args0 8 = true)
    (hg : ∀ G, GOK G → IntrOK G f g)
    (hargs : ∀ (W : World) (base : Nat) (args : Array Value) (ds : List (DataW H)) (p : List MemPlace), (∀ (j : Nat) t v, fn.params[j]? = some t → args[j]? = some v → Value.okWide Tryz.prog W .any base t v) →
      DataW.TrodAll enc Tryz.prog W 0 (fun _ => true) true fn.params.toList args.toList ds p → ∃ avs, LR (K0 W) avs args.toList ∧ g avs = some (.bool true)) :
    ReturnsInHanded {} Tryz.checked os f .any (fun w args => (s.pre enc Tryz.prog fn [] false w args ∧ laidMetH Tryz.prog laid w) ∧ sizedMet enc Tryz.prog fn (OpenSpec.ofChange s) false w args)
      (s.post enc Tryz.prog fn false true false false) := by
  subst hlaid
  refine returnsInHanded_of_calls own started noInit
    (ChangeSpec.witness_shaped (enc := enc) (C := Tryz.checked) (os := os) (X := fun w _ => laidMetH Tryz.prog laidL w) false (laidW os) args0 8 rfl (laidW_shaped os args0) hok hpre hsz (laidW_met os _)) ?_
  intro w tape i _ hsh _ hok hp hholds
  obtain ⟨_, _, _, fn', hfn', _, _, _, _, hval⟩ := hok
  have e : fn' = fn := Option.some.inj (hfn'.symm.trans hfn)
  subst e
  obtain ⟨⟨⟨ds, gs, before, hw, hc⟩, hx⟩, hz⟩ := hp
  generalize hW : w.forCall tape i = W at hsh hval hholds
  have hh : (w.forCall tape i).memory.heap = W.heap := by rw [← hW]; rfl
  have hw' : DataW.Whole enc Tryz.prog fn'.params.toList s.vars false W i.args.toList ds gs before := DataW.Whole.of_heap (w' := W) hh hw
  have hL : laidMetH Tryz.prog laidL W := hx.of_heap hh
  have hwhole := hw'
  obtain ⟨p, q, hA, hV, rfl, hfz, hnd⟩ := hw'
  rw [hvars] at hV
  obtain ⟨rfl, rfl⟩ : gs = [] ∧ q = [] := by
    cases gs with
    | nil => exact ⟨rfl, hV⟩
    | cons g r => exact absurd hV (by intro h; cases h)
  obtain ⟨avs, hl, hga⟩ := hargs W w.heap.size i.args ds p hval hA
  obtain ⟨_, hcall⟩ := hg (K0 W) (gok_of (laid_of hL) hsh) hga hl (.refl _) (K0_W W)
  refine (hcall.calls).mono fun e W' he => ?_
  cases e with
  | returned v =>
    obtain ⟨J', hv, _, hext⟩ := he
    have hv' : VR J' (.bool true) v := hv
    cases hv'
    have hb : Below W.heap.size W W' := below_of_ext hext
    have hsp := hspec ds (by rw [trodAll_len hA]; simp)
    refine ChangeSpec.post_blind ?_
    refine ⟨ds, [], p ++ [], [], p, [], hwhole, ?_, ?_, ?_, hb.frame _, fun h => by cases h⟩
    · rw [List.append_nil, hsp, hres, hsize]
      exact trodAll_mk1 (shut_bool under_bool true)
    · rw [List.append_nil, hsp]
      exact trodAll_below laidOut hb hread hA (fun x hx => by simpa using hwhole.lt x (List.mem_append.2 (.inl hx)))
    · rw [List.append_nil, hsp, hvars]
      rfl
  | panicked c => obtain ⟨v, _, J', hv, _⟩ := he; exact hv.elim
  | outgrown => exact he.elim
end
end Go.Kal
end
