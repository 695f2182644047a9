/-
DeskRequests: the closed facts of the row.
-/
import Derived.Test.YtacoaajilnpeiaaGreatDoorSi

set_option linter.unusedVariables false
set_option linter.unusedSimpArgs false

section
namespace Go.Kal
open Go Go.Proofs Go.Proofs.YtacoaajilnpeiaaGreatDoor
set_option maxRecDepth 100000
theorem deskRequests_l0 : (Rows.deskRequestsRow.wf (OpenSpec.ofChange Rows.deskRequestsSpec)) = true := by kernel_rfl
theorem deskRequests_l1 : (laidOutB Tryz.pinned.checked.prog) = true := by kernel_rfl
theorem deskRequests_l2 : (mapsRowed Tryz.pinned.checked.prog) = true := by kernel_rfl
theorem deskRequests_l3 : (Tryz.f4.params.all (Tryz.pinned.checked.prog.readableRec ·)) = true := by kernel_rfl
theorem deskRequests_l4 : (namedTie Tryz.pinned.checked.prog Rows.deskRequestsRow.named Rows.deskRequestsSpec.vars) = true := by kernel_rfl
theorem deskRequests_l5 : ((Rows.deskRequestsRow.stops == [])) = true := by kernel_rfl
theorem deskRequests_l6 : ((Tryz.pinned.checked.prog.stops == [])) = true := by kernel_rfl
theorem deskRequests_l7 : ((Rows.deskRequestsRow.knobs == [])) = true := by kernel_rfl
theorem deskRequests_l8 : ((Tryz.pinned.checked.prog.stopKnobs == [])) = true := by kernel_rfl
theorem deskRequests_l9 : ((Rows.deskRequestsRow.inPlace == Tryz.pinned.checked.prog.inPlace 4)) = true := by kernel_rfl
theorem deskRequests_l10 : ((Rows.deskRequestsRow.unfollowed == Tryz.pinned.checked.prog.unfollowed 4)) = true := by kernel_rfl
theorem deskRequests_l11 : ((Rows.deskRequestsRow.recurses == Tryz.pinned.checked.prog.recurses 4)) = true := by kernel_rfl
theorem deskRequests_l12 : ((Rows.deskRequestsRow.named == Tryz.pinned.checked.prog.varsNamed 4)) = true := by kernel_rfl
theorem deskRequests_l13 : ((Rows.deskRequestsRow.maps == (Tryz.f4.params.toList ++ Rows.deskRequestsSpec.plain.varTypes Tryz.pinned.checked.prog).any (Tryz.pinned.checked.prog.mapsRec ·))) = true := by kernel_rfl
theorem deskRequests_l14 : ((Rows.deskRequestsRow.ifaces == (Tryz.f4.params.toList ++ Rows.deskRequestsSpec.plain.varTypes Tryz.pinned.checked.prog).any (Tryz.pinned.checked.prog.ifacesRec ·))) = true := by kernel_rfl
theorem deskRequests_l15 : ((Rows.deskRequestsRow.mapsOut == Tryz.pinned.checked.prog.mapsAmong Tryz.f4.resultTypes.toList)) = true := by kernel_rfl
theorem deskRequests_l16 : ((Rows.deskRequestsRow.loops == (Tryz.f4.params.toList ++ Rows.deskRequestsSpec.plain.varTypes Tryz.pinned.checked.prog).any (Tryz.pinned.checked.prog.loopsFrom ·))) = true := by kernel_rfl
theorem deskRequests_l17 : ((Rows.deskRequestsRow.wideKeys == (Tryz.f4.params.toList ++ Rows.deskRequestsSpec.plain.varTypes Tryz.pinned.checked.prog ++ Tryz.f4.resultTypes.toList).any (Tryz.pinned.checked.prog.wideKeysFrom ·))) = true := by kernel_rfl
theorem deskRequests_l18 : (Rows.deskRequestsSpec.vars.all (Tryz.pinned.checked.prog.varReadable ·)) = true := by kernel_rfl
theorem deskRequests_l19 : (Tryz.f4.resultTypes.all (fun t => Tryz.pinned.checked.prog.readableRec t && decide (t < Tryz.pinned.checked.prog.types.size))) = true := by kernel_rfl
theorem deskRequests_l20 : ((Rows.deskRequestsRow.ifacesOut == Tryz.f4.resultTypes.toList.any (Tryz.pinned.checked.prog.ifacesRec ·))) = true := by kernel_rfl
theorem deskRequests_l21 : ((Rows.deskRequestsRow.loopsOut == Tryz.f4.resultTypes.toList.any (Tryz.pinned.checked.prog.loopsFrom ·))) = true := by kernel_rfl
theorem deskRequests_l22 : ((Rows.deskRequestsRow.plainKeys == Tryz.pinned.checked.prog.plainKeys)) = true := by kernel_rfl
theorem deskRequests_l23 : (Rows.deskRequestsRow.shortTexts.isNone) = true := by kernel_rfl
theorem deskRequests_l24 : (Tryz.pinned.checked.prog.stopsHeard) = true := by kernel_rfl
theorem deskRequests_l25 : (Tryz.pinned.checked.prog.mayEnter) = true := by kernel_rfl
theorem deskRequests_l26 : ((Rows.deskRequestsRow.lifted == Tryz.pinned.checked.prog.liftsFinal)) = true := by kernel_rfl
theorem deskRequests_l27 : ((Tryz.pinned.checked.prog.make == some Rows.deskRequestsRow.make)) = true := by kernel_rfl
theorem deskRequests_l28 : ((Rows.deskRequestsRow.kinds == (if Rows.deskRequestsRow.domain.isEmpty then [] else Tryz.f4.params.toList.map fun t => match Tryz.pinned.checked.prog.underlying t with | some (.int k) => some k | _ => none))) = true := by kernel_rfl
theorem deskRequests_l29 : ((Rows.deskRequestsRow.pinned == Rows.deskRequestsRow.pinnedBy)) = true := by kernel_rfl
theorem deskRequests_l30 : ((Rows.deskRequestsRow.veiled == (Tryz.f4.params.toList ++ Rows.deskRequestsSpec.plain.varTypes Tryz.pinned.checked.prog ++ Tryz.f4.resultTypes.toList).any (Tryz.pinned.checked.prog.veiledRec ·))) = true := by kernel_rfl
theorem deskRequests_l31 : (Rows.deskRequestsRow.veiledFits Tryz.pinned.checked.prog Tryz.f4.params.toList (Tryz.f4.params.toList ++ Rows.deskRequestsSpec.plain.varTypes Tryz.pinned.checked.prog ++ Tryz.f4.resultTypes.toList)) = true := by kernel_rfl
theorem deskRequests_facts : joinedFacts Tryz.pinned.checked.prog 4 Tryz.f4 Rows.deskRequestsSpec Rows.deskRequestsRow = true := (and_t (and_t (and_t (and_t (and_t (and_t (and_t (and_t (and_t (and_t (and_t (and_t (and_t (and_t (and_t (and_t (and_t (and_t (and_t (and_t (and_t (and_t (and_t (and_t (and_t (and_t (and_t (and_t (and_t (and_t (and_t deskRequests_l0 deskRequests_l1) deskRequests_l2) deskRequests_l3) deskRequests_l4) deskRequests_l5) deskRequests_l6) deskRequests_l7) deskRequests_l8) deskRequests_l9) deskRequests_l10) deskRequests_l11) deskRequests_l12) deskRequests_l13) deskRequests_l14) deskRequests_l15) deskRequests_l16) deskRequests_l17) deskRequests_l18) deskRequests_l19) deskRequests_l20) deskRequests_l21) deskRequests_l22) deskRequests_l23) deskRequests_l24) deskRequests_l25) deskRequests_l26) deskRequests_l27) deskRequests_l28) deskRequests_l29) deskRequests_l30) deskRequests_l31)
theorem deskRequests_num : Tryz.pinned.checked.prog.funcNamed Rows.deskRequestsRow.func = some 4 := by kernel_rfl
theorem deskRequests_inst : Tryz.f4.isInstance Tryz.pinned.checked.prog Rows.deskRequestsRow.origin Rows.deskRequestsRow.targs := of_decide_eq_true (by kernel_rfl)
theorem deskRequests_wrap : Tryz.f4.isWrapper Tryz.pinned.checked.prog Rows.deskRequestsRow.wrapper Rows.deskRequestsRow.mainSum := by
  unfold Func.isWrapper
  rw [if_neg (of_decide_eq_false (by kernel_rfl))]
  exact ⟨rfl, rfl⟩
end Go.Kal
end

section
namespace Go.Kal
open Go Go.Proofs Go.Proofs.YtacoaajilnpeiaaGreatDoor Go.ChangeShapes Go.WideShapes Go.ChangeAt Go.RowKit Go.ChangeMaps Go.WideMaps Go.WideElems
set_option maxRecDepth 100000

def nDesk : List AV → Option AV
  | [.str _] => some (.bool true)
  | _ => none
theorem params4 : Tryz.f4.params.toList = [9] := by kernel_rfl
theorem under_str : Tryz.prog.underlying 9 = some .string := by kernel_rfl
theorem desk_ok (os : Os) : Input.okWideB Tryz.checked.prog ((laidW os).forCall (fun _ _ => 0) ⟨#[], #[.string ⟨#[]⟩], []⟩) 4 ⟨#[], #[.string ⟨#[]⟩], []⟩ = true := by kernel_rfl
theorem desk_pre (os : Os) (H : Type) (enc : TypeId × Value → H) : Rows.deskRequestsSpec.preB enc Tryz.checked.prog Tryz.f4 [] false ((laidW os).forCall (fun _ _ => 0) ⟨#[], #[.string ⟨#[]⟩], []⟩).memory #[.string ⟨#[]⟩] 8 = true := by kernel_rfl
theorem desk_sized (os : Os) (H : Type) (enc : TypeId × Value → H) : Rows.deskRequestsSpec.sizedB enc Tryz.checked.prog Tryz.f4 false ((laidW os).forCall (fun _ _ => 0) ⟨#[], #[.string ⟨#[]⟩], []⟩).memory #[.string ⟨#[]⟩] 8 = true := by kernel_rfl
theorem desk_read : (Tryz.f4.params.toList.all fun t => Tryz.prog.readableRec t && decide (t < Tryz.prog.types.size)) = true := by kernel_rfl
theorem desk_init : Tryz.checked.prog.inits.idxOf? 4 = none := by kernel_rfl
theorem desk_res : Tryz.f4.resultTypes.toList = [4] := by kernel_rfl
theorem desk_size : Tryz.f4.resultTypes.size = 1 := by kernel_rfl
theorem deskRequests_of (hg : ∀ G, GOK G → IntrOK G 4 nDesk) : Rows.DeskRequestsSaid :=
  OpenClaim.holds_of_wide 4 Tryz.f4 rfl rfl rfl rfl rfl rfl rfl ⟨rfl, rfl, rfl, rfl, rfl⟩ rfl rfl rfl rfl rfl deskRequests_num Tryz.func4 deskRequests_facts deskRequests_inst deskRequests_wrap
    (fun os started H enc _ => law_lifted (s := Rows.deskRequestsSpec) (enc := enc) (laid := Rows.deskRequestsRow.laid) rfl os started nDesk #[.string ⟨#[]⟩] Tryz.func4 desk_init rfl
      (fun ds h => by
        match ds, h with
        | [d], _ => rfl) desk_res desk_size desk_read (desk_ok os) (desk_pre os H enc) (desk_sized os H enc) hg
      (fun W base args ds p hval hA => by
        rw [params4] at hA
        obtain ⟨v0, d0, hv, rfl, h0⟩ := trodAll_one hA
        subst hv
        obtain ⟨s, rfl, _, _, _⟩ := open_string under_str (hval 0 9 v0 (by kernel_rfl) rfl) h0
        exact ⟨[.str s.data.toList], LR.cons (.str _) (LR.nil _), rfl⟩))
end Go.Kal
end
