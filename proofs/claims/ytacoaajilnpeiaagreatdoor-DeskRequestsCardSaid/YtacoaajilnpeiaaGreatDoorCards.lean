/-
  DERIVED. GIVEN WITH THE SEED: THE CARDS: each row of YtacoaajilnpeiaaGreatDoorRows.lean that lists a variable, with what it lists TIED to the program's text (the seventh form; the later family's looks); each row that meets fmt, with fmt's text TOLD by the authors' own Lean function (tested against real Go, not proved from fmt's source: count such statements apart). THE CARD IS WHAT COUNTS. Prove the row's statement (the work); the ties are given (YtacoaajilnpeiaaGreatDoorTie.lean); close each card by the builder's one call (the guide's Derived/Test/ToyasCard.lean, 'card_holds'). Laid BY PROGRAM, IN A SANDBOX (cutbox-door.mjs). By AI agents, Wed Nov 11 2026. No macro, syntax, notation, axiom, sorry.
-/
import Derived.Test.YtacoaajilnpeiaaGreatDoorRows
import GoSem.ClaimSeven
namespace Go.Proofs.YtacoaajilnpeiaaGreatDoor
namespace Rows

/-- THE TIED CARD OF 'kalendslaw20.ServerNone'. -/
def serverNoneCard : Claim7 := { stood := { row := serverNoneRow, standIns := [], harness := (true, "a40a9ba9d51c1cdc85d5c31c96b272be242c5d26e043bb24cac1c00c1e4c486a"), looks := true }, kinds := [], alts := [], laidByText := true, laidKinds := [.data, .data, .data, .data, .sentinel, .sentinel, .data, .widerDeep, .widerDeep, .data, .widerDeep, .pinned], laidTests := true, laidLooks := .later }
def ServerNoneCardSaid : Prop := Claim7.holds Tryz.pinned (.plain (OpenSpec.ofChange serverNoneSpec)) serverNoneCard

/-- THE TIED CARD OF 'kalendslaw21.DeskRequests'. -/
def deskRequestsCard : Claim7 := { stood := { row := deskRequestsRow, standIns := [], harness := (true, "a40a9ba9d51c1cdc85d5c31c96b272be242c5d26e043bb24cac1c00c1e4c486a"), looks := true }, kinds := [], alts := [], laidByText := true, laidKinds := [.data, .data, .data, .data, .sentinel, .sentinel, .data, .widerDeep, .widerDeep, .data, .widerDeep, .pinned], laidTests := true, laidLooks := .later }
def DeskRequestsCardSaid : Prop := Claim7.holds Tryz.pinned (.plain (OpenSpec.ofChange deskRequestsSpec)) deskRequestsCard

/-- THE TIED CARD OF 'kalendstop.TopStart'. -/
def topStartCard : Claim7 := { stood := { row := topStartRow, standIns := [], harness := (true, "a40a9ba9d51c1cdc85d5c31c96b272be242c5d26e043bb24cac1c00c1e4c486a"), looks := true }, kinds := [], alts := [], laidByText := true, laidKinds := [.data, .data, .data, .data, .sentinel, .sentinel, .data, .widerDeep, .widerDeep, .data, .widerDeep, .pinned], laidTests := true, laidLooks := .later }
def TopStartCardSaid : Prop := Claim7.holds Tryz.pinned (.plain (OpenSpec.ofChange topStartSpec)) topStartCard

/-- THE TIED CARD OF 'kalendstop.TopMonthdays'. -/
def topMonthdaysCard : Claim7 := { stood := { row := topMonthdaysRow, standIns := [], harness := (true, "a40a9ba9d51c1cdc85d5c31c96b272be242c5d26e043bb24cac1c00c1e4c486a"), looks := true }, kinds := [], alts := [], laidByText := true, laidKinds := [.data, .data, .data, .data, .sentinel, .sentinel, .data, .widerDeep, .widerDeep, .data, .widerDeep, .pinned], laidTests := true, laidLooks := .later }
def TopMonthdaysCardSaid : Prop := Claim7.holds Tryz.pinned (.plain (OpenSpec.ofChange topMonthdaysSpec)) topMonthdaysCard

/-- THE SECOND FORM's CARD OF 'kalendslaw20.ServerNone'. -/
def serverNoneUptoCard : Claim7 := { stood := { row := serverNoneUptoRow, standIns := [], harness := (true, "a40a9ba9d51c1cdc85d5c31c96b272be242c5d26e043bb24cac1c00c1e4c486a"), looks := true }, kinds := [], alts := [], laidByText := true, laidKinds := [.data, .data, .data, .data, .sentinel, .sentinel, .data, .widerDeep, .widerDeep, .data, .widerDeep, .pinned], laidTests := true, laidLooks := .later }
def ServerNoneUptoCardSaid : Prop := Claim7.holds Tryz.pinned (.plain (OpenSpec.upto serverNoneSpec)) serverNoneUptoCard

/-- THE SECOND FORM's CARD OF 'kalendslaw21.DeskRequests'. -/
def deskRequestsUptoCard : Claim7 := { stood := { row := deskRequestsUptoRow, standIns := [], harness := (true, "a40a9ba9d51c1cdc85d5c31c96b272be242c5d26e043bb24cac1c00c1e4c486a"), looks := true }, kinds := [], alts := [], laidByText := true, laidKinds := [.data, .data, .data, .data, .sentinel, .sentinel, .data, .widerDeep, .widerDeep, .data, .widerDeep, .pinned], laidTests := true, laidLooks := .later }
def DeskRequestsUptoCardSaid : Prop := Claim7.holds Tryz.pinned (.plain (OpenSpec.upto deskRequestsSpec)) deskRequestsUptoCard

/-- THE SECOND FORM's CARD OF 'kalendstop.TopStart'. -/
def topStartUptoCard : Claim7 := { stood := { row := topStartUptoRow, standIns := [], harness := (true, "a40a9ba9d51c1cdc85d5c31c96b272be242c5d26e043bb24cac1c00c1e4c486a"), looks := true }, kinds := [], alts := [], laidByText := true, laidKinds := [.data, .data, .data, .data, .sentinel, .sentinel, .data, .widerDeep, .widerDeep, .data, .widerDeep, .pinned], laidTests := true, laidLooks := .later }
def TopStartUptoCardSaid : Prop := Claim7.holds Tryz.pinned (.plain (OpenSpec.upto topStartSpec)) topStartUptoCard

/-- THE SECOND FORM's CARD OF 'kalendstop.TopMonthdays'. -/
def topMonthdaysUptoCard : Claim7 := { stood := { row := topMonthdaysUptoRow, standIns := [], harness := (true, "a40a9ba9d51c1cdc85d5c31c96b272be242c5d26e043bb24cac1c00c1e4c486a"), looks := true }, kinds := [], alts := [], laidByText := true, laidKinds := [.data, .data, .data, .data, .sentinel, .sentinel, .data, .widerDeep, .widerDeep, .data, .widerDeep, .pinned], laidTests := true, laidLooks := .later }
def TopMonthdaysUptoCardSaid : Prop := Claim7.holds Tryz.pinned (.plain (OpenSpec.upto topMonthdaysSpec)) topMonthdaysUptoCard
end Rows
end Go.Proofs.YtacoaajilnpeiaaGreatDoor
