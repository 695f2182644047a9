/-
DeskRequests: for every text the law answers true; the text need only be one that memory can hold.
-/
import Derived.Test.YtacoaajilnpeiaaGreatDoorDesk2
import Derived.Test.YtacoaajilnpeiaaGreatDoorDesk1
import Derived.Test.YtacoaajilnpeiaaGreatDoorCards
import Derived.Test.YtacoaajilnpeiaaGreatDoorTie
import Derived.SevenTiedAt

set_option linter.unusedVariables false
set_option linter.unusedSimpArgs false

section
namespace Go.Kal
open Go Go.Proofs Go.Proofs.YtacoaajilnpeiaaGreatDoor
set_option maxRecDepth 100000

theorem desk_intr (G : K) (hG : GOK G) : IntrOK G 4 nDesk := by
  refine intr_of (G := G) (I := I6) (hG.call (I6_ok hG)) hG.env (fn := Tryz.f4) (N := 4000) (n := 30) fn4 body4 intr4 (fun args v hv h => ?_)
  unfold nDesk at hv
  split at hv
  · rename_i s
    cases hv
    exact desk_call s h
  · cases hv
theorem deskRequests_holds : Rows.DeskRequestsSaid := deskRequests_of desk_intr

theorem main_is : Tryz.pinned.checked.prog.mainIs = some (true, "a40a9ba9d51c1cdc85d5c31c96b272be242c5d26e043bb24cac1c00c1e4c486a".toList) := by kernel_rfl
theorem looks_are : true = Tryz.pinned.checked.prog.looks [] := by kernel_rfl
theorem desk_text : Rows.deskRequestsRow.wfByText (OpenSpec.ofChange Rows.deskRequestsSpec) = true := by kernel_rfl
theorem desk_goes : false = Rows.deskRequestsRow.goesBy Tryz.pinned.checked.prog := by kernel_rfl
theorem desk_alone : Tryz.pinned.checked.prog.wantsStandIn 9 = false := by kernel_rfl
theorem desk_fn {f : FuncId} {fn : Func} (hf : Tryz.pinned.checked.prog.funcNamed Rows.deskRequestsRow.func = some f) (hfn : Tryz.pinned.checked.prog.funcs[f]? = some fn) : true = Tryz.pinned.checked.prog.looks [] ∧ ∀ (j : Nat) t, fn.params[j]? = some t → Tryz.pinned.checked.prog.wantsStandIn t = false := by
  obtain rfl : f = 4 := Option.some.inj (deskRequests_num.symm.trans hf) |>.symm
  obtain rfl : fn = Tryz.f4 := (Option.some.inj (Tryz.func4.symm.trans hfn)).symm
  refine ⟨looks_are, fun j t ht => ?_⟩
  have hp : Tryz.f4.params = #[9] := by kernel_rfl
  rw [hp] at ht
  rcases j with _ | j
  · cases ht
    exact desk_alone
  · cases ht
end Go.Kal
namespace Go.Proofs.YtacoaajilnpeiaaGreatDoor
open Go Go.Kal
theorem deskRequestsCard_holds : Rows.DeskRequestsCardSaid :=
  Claim7.holds_tied_plain_at .later [] [.data, .data, .data, .data, .sentinel, .sentinel, .data, .widerDeep, .widerDeep, .data, .widerDeep, .pinned] true (true, "a40a9ba9d51c1cdc85d5c31c96b272be242c5d26e043bb24cac1c00c1e4c486a") true
    deskRequests_holds (fun _ h => by cases h) desk_text (fun _ h => by cases h) deskRequests_row_tie rfl ⟨rfl, rfl⟩ main_is rfl
    (fun _ _ hf hfn => desk_fn hf hfn)
    desk_goes
end Go.Proofs.YtacoaajilnpeiaaGreatDoor
end
