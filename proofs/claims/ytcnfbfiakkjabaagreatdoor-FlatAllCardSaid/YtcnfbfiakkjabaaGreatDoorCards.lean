/-
  DERIVED. GIVEN WITH THE SEED: THE CARDS: each row of YtcnfbfiakkjabaaGreatDoorRows.lean that lists a variable, with what it lists TIED to the program's text (the seventh form; the later family's looks); each row that meets fmt, with fmt's text TOLD by the authors' own Lean function (tested against real Go, not proved from fmt's source: count such statements apart). THE CARD IS WHAT COUNTS. Prove the row's statement (the work); the ties are given (YtcnfbfiakkjabaaGreatDoorTie.lean); close each card by the builder's one call (the guide's Derived/Test/ToyasCard.lean, 'card_holds'). Laid BY PROGRAM, IN A SANDBOX (cutbox-door.mjs). By AI agents, Wed Nov 11 2026. No macro, syntax, notation, axiom, sorry.
-/
import Derived.Test.YtcnfbfiakkjabaaGreatDoorRows
import GoSem.ClaimSeven
namespace Go.Proofs.YtcnfbfiakkjabaaGreatDoor
namespace Rows

/-- THE TIED CARD OF 'fieldfarelaw13.FlatOrder'. -/
def flatOrderCard : Claim7 := { stood := { row := flatOrderRow, standIns := [], harness := (true, "e04b4dc7c8377513c79669966fe69045d0029e156480d981b57976a9b3570c87"), looks := true }, kinds := [], alts := [], laidByText := true, laidKinds := [.data, .handle], laidTests := true, laidLooks := .later }
def FlatOrderCardSaid : Prop := Claim7.holds Tryz.pinned (.plain (OpenSpec.ofChange flatOrderSpec)) flatOrderCard

/-- THE TIED CARD OF 'fieldfarelaw13.IvfNear'. -/
def ivfNearCard : Claim7 := { stood := { row := ivfNearRow, standIns := [], harness := (true, "e04b4dc7c8377513c79669966fe69045d0029e156480d981b57976a9b3570c87"), looks := true }, kinds := [], alts := [], laidByText := true, laidKinds := [.data, .handle], laidTests := true, laidLooks := .later }
def IvfNearCardSaid : Prop := Claim7.holds Tryz.pinned (.plain (OpenSpec.ofChange ivfNearSpec)) ivfNearCard

/-- THE TIED CARD OF 'fieldfarelaw13.FlatAlone'. -/
def flatAloneCard : Claim7 := { stood := { row := flatAloneRow, standIns := [], harness := (true, "e04b4dc7c8377513c79669966fe69045d0029e156480d981b57976a9b3570c87"), looks := true }, kinds := [], alts := [], laidByText := true, laidKinds := [.data, .handle], laidTests := true, laidLooks := .later }
def FlatAloneCardSaid : Prop := Claim7.holds Tryz.pinned (.plain (OpenSpec.ofChange flatAloneSpec)) flatAloneCard

/-- THE TIED CARD OF 'fieldfarelaw13.IvfLists'. -/
def ivfListsCard : Claim7 := { stood := { row := ivfListsRow, standIns := [], harness := (true, "e04b4dc7c8377513c79669966fe69045d0029e156480d981b57976a9b3570c87"), looks := true }, kinds := [], alts := [], laidByText := true, laidKinds := [.data, .handle], laidTests := true, laidLooks := .later }
def IvfListsCardSaid : Prop := Claim7.holds Tryz.pinned (.plain (OpenSpec.ofChange ivfListsSpec)) ivfListsCard

/-- THE TIED CARD OF 'fieldfarelaw13.IvfMove'. -/
def ivfMoveCard : Claim7 := { stood := { row := ivfMoveRow, standIns := [], harness := (true, "e04b4dc7c8377513c79669966fe69045d0029e156480d981b57976a9b3570c87"), looks := true }, kinds := [], alts := [], laidByText := true, laidKinds := [.data, .handle], laidTests := true, laidLooks := .later }
def IvfMoveCardSaid : Prop := Claim7.holds Tryz.pinned (.plain (OpenSpec.ofChange ivfMoveSpec)) ivfMoveCard

/-- THE TIED CARD OF 'fieldfarelaw13.FlatAll'. -/
def flatAllCard : Claim7 := { stood := { row := flatAllRow, standIns := [], harness := (true, "e04b4dc7c8377513c79669966fe69045d0029e156480d981b57976a9b3570c87"), looks := true }, kinds := [], alts := [], laidByText := true, laidKinds := [.data, .handle], laidTests := true, laidLooks := .later }
def FlatAllCardSaid : Prop := Claim7.holds Tryz.pinned (.plain (OpenSpec.ofChange flatAllSpec)) flatAllCard

/-- THE SECOND FORM's CARD OF 'fieldfarelaw13.FlatOrder'. -/
def flatOrderUptoCard : Claim7 := { stood := { row := flatOrderUptoRow, standIns := [], harness := (true, "e04b4dc7c8377513c79669966fe69045d0029e156480d981b57976a9b3570c87"), looks := true }, kinds := [], alts := [], laidByText := true, laidKinds := [.data, .handle], laidTests := true, laidLooks := .later }
def FlatOrderUptoCardSaid : Prop := Claim7.holds Tryz.pinned (.plain (OpenSpec.upto flatOrderSpec)) flatOrderUptoCard

/-- THE SECOND FORM's CARD OF 'fieldfarelaw13.IvfNear'. -/
def ivfNearUptoCard : Claim7 := { stood := { row := ivfNearUptoRow, standIns := [], harness := (true, "e04b4dc7c8377513c79669966fe69045d0029e156480d981b57976a9b3570c87"), looks := true }, kinds := [], alts := [], laidByText := true, laidKinds := [.data, .handle], laidTests := true, laidLooks := .later }
def IvfNearUptoCardSaid : Prop := Claim7.holds Tryz.pinned (.plain (OpenSpec.upto ivfNearSpec)) ivfNearUptoCard

/-- THE SECOND FORM's CARD OF 'fieldfarelaw13.FlatAlone'. -/
def flatAloneUptoCard : Claim7 := { stood := { row := flatAloneUptoRow, standIns := [], harness := (true, "e04b4dc7c8377513c79669966fe69045d0029e156480d981b57976a9b3570c87"), looks := true }, kinds := [], alts := [], laidByText := true, laidKinds := [.data, .handle], laidTests := true, laidLooks := .later }
def FlatAloneUptoCardSaid : Prop := Claim7.holds Tryz.pinned (.plain (OpenSpec.upto flatAloneSpec)) flatAloneUptoCard

/-- THE SECOND FORM's CARD OF 'fieldfarelaw13.IvfLists'. -/
def ivfListsUptoCard : Claim7 := { stood := { row := ivfListsUptoRow, standIns := [], harness := (true, "e04b4dc7c8377513c79669966fe69045d0029e156480d981b57976a9b3570c87"), looks := true }, kinds := [], alts := [], laidByText := true, laidKinds := [.data, .handle], laidTests := true, laidLooks := .later }
def IvfListsUptoCardSaid : Prop := Claim7.holds Tryz.pinned (.plain (OpenSpec.upto ivfListsSpec)) ivfListsUptoCard

/-- THE SECOND FORM's CARD OF 'fieldfarelaw13.IvfMove'. -/
def ivfMoveUptoCard : Claim7 := { stood := { row := ivfMoveUptoRow, standIns := [], harness := (true, "e04b4dc7c8377513c79669966fe69045d0029e156480d981b57976a9b3570c87"), looks := true }, kinds := [], alts := [], laidByText := true, laidKinds := [.data, .handle], laidTests := true, laidLooks := .later }
def IvfMoveUptoCardSaid : Prop := Claim7.holds Tryz.pinned (.plain (OpenSpec.upto ivfMoveSpec)) ivfMoveUptoCard

/-- THE SECOND FORM's CARD OF 'fieldfarelaw13.FlatAll'. -/
def flatAllUptoCard : Claim7 := { stood := { row := flatAllUptoRow, standIns := [], harness := (true, "e04b4dc7c8377513c79669966fe69045d0029e156480d981b57976a9b3570c87"), looks := true }, kinds := [], alts := [], laidByText := true, laidKinds := [.data, .handle], laidTests := true, laidLooks := .later }
def FlatAllUptoCardSaid : Prop := Claim7.holds Tryz.pinned (.plain (OpenSpec.upto flatAllSpec)) flatAllUptoCard
end Rows
end Go.Proofs.YtcnfbfiakkjabaaGreatDoor
