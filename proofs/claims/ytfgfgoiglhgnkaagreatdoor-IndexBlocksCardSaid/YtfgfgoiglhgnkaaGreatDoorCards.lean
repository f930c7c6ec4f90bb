/-
  DERIVED. GIVEN WITH THE SEED: THE CARDS: each row of YtfgfgoiglhgnkaaGreatDoorRows.lean that lists a variable, with what it lists TIED to the program's text (the seventh form; the later family's looks); each row that meets fmt, with fmt's text TOLD by the authors' own Lean function (tested against real Go, not proved from fmt's source: count such statements apart). THE CARD IS WHAT COUNTS. Prove the row's statement (the work); the ties are given (YtfgfgoiglhgnkaaGreatDoorTie.lean); close each card by the builder's one call (the guide's Derived/Test/ToyasCard.lean, 'card_holds'). Laid BY PROGRAM, IN A SANDBOX (cutbox-door.mjs). By AI agents, Wed Nov 11 2026. No macro, syntax, notation, axiom, sorry.
-/
import Derived.Test.YtfgfgoiglhgnkaaGreatDoorRows
import GoSem.ClaimSeven
namespace Go.Proofs.YtfgfgoiglhgnkaaGreatDoor
namespace Rows

/-- THE TIED CARD OF 'fieldfarelaw13.FlatOrder'. -/
def flatOrderCard : Claim7 := { stood := { row := flatOrderRow, standIns := [], harness := (true, "287f31f69bca2712288606fd25dd071368c3af2fd927552af919a61afd61732a"), looks := true }, kinds := [], alts := [], laidByText := true, laidKinds := [.data, .handle], laidTests := true, laidLooks := .later }
def FlatOrderCardSaid : Prop := Claim7.holds Tryz.pinned (.plain (OpenSpec.ofChange flatOrderSpec)) flatOrderCard

/-- THE TIED CARD OF 'fieldfarelaw13.IvfNear'. -/
def ivfNearCard : Claim7 := { stood := { row := ivfNearRow, standIns := [], harness := (true, "287f31f69bca2712288606fd25dd071368c3af2fd927552af919a61afd61732a"), looks := true }, kinds := [], alts := [], laidByText := true, laidKinds := [.data, .handle], laidTests := true, laidLooks := .later }
def IvfNearCardSaid : Prop := Claim7.holds Tryz.pinned (.plain (OpenSpec.ofChange ivfNearSpec)) ivfNearCard

/-- THE TIED CARD OF 'fieldfarelaw13.GraphFew'. -/
def graphFewCard : Claim7 := { stood := { row := graphFewRow, standIns := [], harness := (true, "287f31f69bca2712288606fd25dd071368c3af2fd927552af919a61afd61732a"), looks := true }, kinds := [], alts := [], laidByText := true, laidKinds := [.data, .handle], laidTests := true, laidLooks := .later }
def GraphFewCardSaid : Prop := Claim7.holds Tryz.pinned (.plain (OpenSpec.ofChange graphFewSpec)) graphFewCard

/-- THE TIED CARD OF 'fieldfarelaw13.GraphEntry'. -/
def graphEntryCard : Claim7 := { stood := { row := graphEntryRow, standIns := [], harness := (true, "287f31f69bca2712288606fd25dd071368c3af2fd927552af919a61afd61732a"), looks := true }, kinds := [], alts := [], laidByText := true, laidKinds := [.data, .handle], laidTests := true, laidLooks := .later }
def GraphEntryCardSaid : Prop := Claim7.holds Tryz.pinned (.plain (OpenSpec.ofChange graphEntrySpec)) graphEntryCard

/-- THE TIED CARD OF 'fieldfarelaw13.GraphWide'. -/
def graphWideCard : Claim7 := { stood := { row := graphWideRow, standIns := [], harness := (true, "287f31f69bca2712288606fd25dd071368c3af2fd927552af919a61afd61732a"), looks := true }, kinds := [], alts := [], laidByText := true, laidKinds := [.data, .handle], laidTests := true, laidLooks := .later }
def GraphWideCardSaid : Prop := Claim7.holds Tryz.pinned (.plain (OpenSpec.ofChange graphWideSpec)) graphWideCard

/-- THE TIED CARD OF 'fieldfarelaw13.CodedFew'. -/
def codedFewCard : Claim7 := { stood := { row := codedFewRow, standIns := [], harness := (true, "287f31f69bca2712288606fd25dd071368c3af2fd927552af919a61afd61732a"), looks := true }, kinds := [], alts := [], laidByText := true, laidKinds := [.data, .handle], laidTests := true, laidLooks := .later }
def CodedFewCardSaid : Prop := Claim7.holds Tryz.pinned (.plain (OpenSpec.ofChange codedFewSpec)) codedFewCard

/-- THE TIED CARD OF 'fieldfarelaw13.IndexBlocks'. -/
def indexBlocksCard : Claim7 := { stood := { row := indexBlocksRow, standIns := [], harness := (true, "287f31f69bca2712288606fd25dd071368c3af2fd927552af919a61afd61732a"), looks := true }, kinds := [], alts := [], laidByText := true, laidKinds := [.data, .handle], laidTests := true, laidLooks := .later }
def IndexBlocksCardSaid : Prop := Claim7.holds Tryz.pinned (.plain (OpenSpec.ofChange indexBlocksSpec)) indexBlocksCard

/-- THE TIED CARD OF 'fieldfarelaw13.IndexFew'. -/
def indexFewCard : Claim7 := { stood := { row := indexFewRow, standIns := [], harness := (true, "287f31f69bca2712288606fd25dd071368c3af2fd927552af919a61afd61732a"), looks := true }, kinds := [], alts := [], laidByText := true, laidKinds := [.data, .handle], laidTests := true, laidLooks := .later }
def IndexFewCardSaid : Prop := Claim7.holds Tryz.pinned (.plain (OpenSpec.ofChange indexFewSpec)) indexFewCard

/-- THE TIED CARD OF 'fieldfarelaw13.TrueSelf'. -/
def trueSelfCard : Claim7 := { stood := { row := trueSelfRow, standIns := [], harness := (true, "287f31f69bca2712288606fd25dd071368c3af2fd927552af919a61afd61732a"), looks := true }, kinds := [], alts := [], laidByText := true, laidKinds := [.data, .handle], laidTests := true, laidLooks := .later }
def TrueSelfCardSaid : Prop := Claim7.holds Tryz.pinned (.plain (OpenSpec.ofChange trueSelfSpec)) trueSelfCard

/-- THE TIED CARD OF 'fieldfarelaw13.GraphBoth'. -/
def graphBothCard : Claim7 := { stood := { row := graphBothRow, standIns := [], harness := (true, "287f31f69bca2712288606fd25dd071368c3af2fd927552af919a61afd61732a"), looks := true }, kinds := [], alts := [], laidByText := true, laidKinds := [.data, .handle], laidTests := true, laidLooks := .later }
def GraphBothCardSaid : Prop := Claim7.holds Tryz.pinned (.plain (OpenSpec.ofChange graphBothSpec)) graphBothCard

/-- THE TIED CARD OF 'fieldfarelaw13.IvfMiddles'. -/
def ivfMiddlesCard : Claim7 := { stood := { row := ivfMiddlesRow, standIns := [], harness := (true, "287f31f69bca2712288606fd25dd071368c3af2fd927552af919a61afd61732a"), looks := true }, kinds := [], alts := [], laidByText := true, laidKinds := [.data, .handle], laidTests := true, laidLooks := .later }
def IvfMiddlesCardSaid : Prop := Claim7.holds Tryz.pinned (.plain (OpenSpec.ofChange ivfMiddlesSpec)) ivfMiddlesCard

/-- THE TIED CARD OF 'fieldfarelaw13.FlatAlone'. -/
def flatAloneCard : Claim7 := { stood := { row := flatAloneRow, standIns := [], harness := (true, "287f31f69bca2712288606fd25dd071368c3af2fd927552af919a61afd61732a"), looks := true }, kinds := [], alts := [], laidByText := true, laidKinds := [.data, .handle], laidTests := true, laidLooks := .later }
def FlatAloneCardSaid : Prop := Claim7.holds Tryz.pinned (.plain (OpenSpec.ofChange flatAloneSpec)) flatAloneCard

/-- THE SECOND FORM's CARD OF 'fieldfarelaw13.FlatOrder'. -/
def flatOrderUptoCard : Claim7 := { stood := { row := flatOrderUptoRow, standIns := [], harness := (true, "287f31f69bca2712288606fd25dd071368c3af2fd927552af919a61afd61732a"), looks := true }, kinds := [], alts := [], laidByText := true, laidKinds := [.data, .handle], laidTests := true, laidLooks := .later }
def FlatOrderUptoCardSaid : Prop := Claim7.holds Tryz.pinned (.plain (OpenSpec.upto flatOrderSpec)) flatOrderUptoCard

/-- THE SECOND FORM's CARD OF 'fieldfarelaw13.IvfNear'. -/
def ivfNearUptoCard : Claim7 := { stood := { row := ivfNearUptoRow, standIns := [], harness := (true, "287f31f69bca2712288606fd25dd071368c3af2fd927552af919a61afd61732a"), looks := true }, kinds := [], alts := [], laidByText := true, laidKinds := [.data, .handle], laidTests := true, laidLooks := .later }
def IvfNearUptoCardSaid : Prop := Claim7.holds Tryz.pinned (.plain (OpenSpec.upto ivfNearSpec)) ivfNearUptoCard

/-- THE SECOND FORM's CARD OF 'fieldfarelaw13.GraphFew'. -/
def graphFewUptoCard : Claim7 := { stood := { row := graphFewUptoRow, standIns := [], harness := (true, "287f31f69bca2712288606fd25dd071368c3af2fd927552af919a61afd61732a"), looks := true }, kinds := [], alts := [], laidByText := true, laidKinds := [.data, .handle], laidTests := true, laidLooks := .later }
def GraphFewUptoCardSaid : Prop := Claim7.holds Tryz.pinned (.plain (OpenSpec.upto graphFewSpec)) graphFewUptoCard

/-- THE SECOND FORM's CARD OF 'fieldfarelaw13.GraphEntry'. -/
def graphEntryUptoCard : Claim7 := { stood := { row := graphEntryUptoRow, standIns := [], harness := (true, "287f31f69bca2712288606fd25dd071368c3af2fd927552af919a61afd61732a"), looks := true }, kinds := [], alts := [], laidByText := true, laidKinds := [.data, .handle], laidTests := true, laidLooks := .later }
def GraphEntryUptoCardSaid : Prop := Claim7.holds Tryz.pinned (.plain (OpenSpec.upto graphEntrySpec)) graphEntryUptoCard

/-- THE SECOND FORM's CARD OF 'fieldfarelaw13.GraphWide'. -/
def graphWideUptoCard : Claim7 := { stood := { row := graphWideUptoRow, standIns := [], harness := (true, "287f31f69bca2712288606fd25dd071368c3af2fd927552af919a61afd61732a"), looks := true }, kinds := [], alts := [], laidByText := true, laidKinds := [.data, .handle], laidTests := true, laidLooks := .later }
def GraphWideUptoCardSaid : Prop := Claim7.holds Tryz.pinned (.plain (OpenSpec.upto graphWideSpec)) graphWideUptoCard

/-- THE SECOND FORM's CARD OF 'fieldfarelaw13.CodedFew'. -/
def codedFewUptoCard : Claim7 := { stood := { row := codedFewUptoRow, standIns := [], harness := (true, "287f31f69bca2712288606fd25dd071368c3af2fd927552af919a61afd61732a"), looks := true }, kinds := [], alts := [], laidByText := true, laidKinds := [.data, .handle], laidTests := true, laidLooks := .later }
def CodedFewUptoCardSaid : Prop := Claim7.holds Tryz.pinned (.plain (OpenSpec.upto codedFewSpec)) codedFewUptoCard

/-- THE SECOND FORM's CARD OF 'fieldfarelaw13.IndexBlocks'. -/
def indexBlocksUptoCard : Claim7 := { stood := { row := indexBlocksUptoRow, standIns := [], harness := (true, "287f31f69bca2712288606fd25dd071368c3af2fd927552af919a61afd61732a"), looks := true }, kinds := [], alts := [], laidByText := true, laidKinds := [.data, .handle], laidTests := true, laidLooks := .later }
def IndexBlocksUptoCardSaid : Prop := Claim7.holds Tryz.pinned (.plain (OpenSpec.upto indexBlocksSpec)) indexBlocksUptoCard

/-- THE SECOND FORM's CARD OF 'fieldfarelaw13.IndexFew'. -/
def indexFewUptoCard : Claim7 := { stood := { row := indexFewUptoRow, standIns := [], harness := (true, "287f31f69bca2712288606fd25dd071368c3af2fd927552af919a61afd61732a"), looks := true }, kinds := [], alts := [], laidByText := true, laidKinds := [.data, .handle], laidTests := true, laidLooks := .later }
def IndexFewUptoCardSaid : Prop := Claim7.holds Tryz.pinned (.plain (OpenSpec.upto indexFewSpec)) indexFewUptoCard

/-- THE SECOND FORM's CARD OF 'fieldfarelaw13.TrueSelf'. -/
def trueSelfUptoCard : Claim7 := { stood := { row := trueSelfUptoRow, standIns := [], harness := (true, "287f31f69bca2712288606fd25dd071368c3af2fd927552af919a61afd61732a"), looks := true }, kinds := [], alts := [], laidByText := true, laidKinds := [.data, .handle], laidTests := true, laidLooks := .later }
def TrueSelfUptoCardSaid : Prop := Claim7.holds Tryz.pinned (.plain (OpenSpec.upto trueSelfSpec)) trueSelfUptoCard

/-- THE SECOND FORM's CARD OF 'fieldfarelaw13.GraphBoth'. -/
def graphBothUptoCard : Claim7 := { stood := { row := graphBothUptoRow, standIns := [], harness := (true, "287f31f69bca2712288606fd25dd071368c3af2fd927552af919a61afd61732a"), looks := true }, kinds := [], alts := [], laidByText := true, laidKinds := [.data, .handle], laidTests := true, laidLooks := .later }
def GraphBothUptoCardSaid : Prop := Claim7.holds Tryz.pinned (.plain (OpenSpec.upto graphBothSpec)) graphBothUptoCard

/-- THE SECOND FORM's CARD OF 'fieldfarelaw13.IvfMiddles'. -/
def ivfMiddlesUptoCard : Claim7 := { stood := { row := ivfMiddlesUptoRow, standIns := [], harness := (true, "287f31f69bca2712288606fd25dd071368c3af2fd927552af919a61afd61732a"), looks := true }, kinds := [], alts := [], laidByText := true, laidKinds := [.data, .handle], laidTests := true, laidLooks := .later }
def IvfMiddlesUptoCardSaid : Prop := Claim7.holds Tryz.pinned (.plain (OpenSpec.upto ivfMiddlesSpec)) ivfMiddlesUptoCard

/-- THE SECOND FORM's CARD OF 'fieldfarelaw13.FlatAlone'. -/
def flatAloneUptoCard : Claim7 := { stood := { row := flatAloneUptoRow, standIns := [], harness := (true, "287f31f69bca2712288606fd25dd071368c3af2fd927552af919a61afd61732a"), looks := true }, kinds := [], alts := [], laidByText := true, laidKinds := [.data, .handle], laidTests := true, laidLooks := .later }
def FlatAloneUptoCardSaid : Prop := Claim7.holds Tryz.pinned (.plain (OpenSpec.upto flatAloneSpec)) flatAloneUptoCard
end Rows
end Go.Proofs.YtfgfgoiglhgnkaaGreatDoor
