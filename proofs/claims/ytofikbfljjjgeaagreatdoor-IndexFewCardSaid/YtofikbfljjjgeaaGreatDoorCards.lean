/-
  DERIVED. GIVEN WITH THE SEED: THE CARDS: each row of YtofikbfljjjgeaaGreatDoorRows.lean that lists a variable, with what it lists TIED to the program's text (the seventh form; the later family's looks); each row that meets fmt, with fmt's text TOLD by the authors' own Lean function (tested against real Go, not proved from fmt's source: count such statements apart). THE CARD IS WHAT COUNTS. Prove the row's statement (the work); the ties are given (YtofikbfljjjgeaaGreatDoorTie.lean); close each card by the builder's one call (the guide's Derived/Test/ToyasCard.lean, 'card_holds'). Laid BY PROGRAM, IN A SANDBOX (cutbox-door.mjs). By AI agents, Wed Nov 11 2026. No macro, syntax, notation, axiom, sorry.
-/
import Derived.Test.YtofikbfljjjgeaaGreatDoorRows
import GoSem.ClaimSeven
namespace Go.Proofs.YtofikbfljjjgeaaGreatDoor
namespace Rows

/-- THE TIED CARD OF 'fieldfarelaw13.GraphFew'. -/
def graphFewCard : Claim7 := { stood := { row := graphFewRow, standIns := [], harness := (true, "132025c619a3a68fa460bc3b1377c0be1b70f5e044035f08231230f8ad6d9feb"), looks := true }, kinds := [], alts := [], laidByText := true, laidKinds := [.data, .handle], laidTests := true, laidLooks := .later }
def GraphFewCardSaid : Prop := Claim7.holds Tryz.pinned (.plain (OpenSpec.ofChange graphFewSpec)) graphFewCard

/-- THE TIED CARD OF 'fieldfarelaw13.GraphEntry'. -/
def graphEntryCard : Claim7 := { stood := { row := graphEntryRow, standIns := [], harness := (true, "132025c619a3a68fa460bc3b1377c0be1b70f5e044035f08231230f8ad6d9feb"), looks := true }, kinds := [], alts := [], laidByText := true, laidKinds := [.data, .handle], laidTests := true, laidLooks := .later }
def GraphEntryCardSaid : Prop := Claim7.holds Tryz.pinned (.plain (OpenSpec.ofChange graphEntrySpec)) graphEntryCard

/-- THE TIED CARD OF 'fieldfarelaw13.GraphWide'. -/
def graphWideCard : Claim7 := { stood := { row := graphWideRow, standIns := [], harness := (true, "132025c619a3a68fa460bc3b1377c0be1b70f5e044035f08231230f8ad6d9feb"), looks := true }, kinds := [], alts := [], laidByText := true, laidKinds := [.data, .handle], laidTests := true, laidLooks := .later }
def GraphWideCardSaid : Prop := Claim7.holds Tryz.pinned (.plain (OpenSpec.ofChange graphWideSpec)) graphWideCard

/-- THE TIED CARD OF 'fieldfarelaw13.CodedFew'. -/
def codedFewCard : Claim7 := { stood := { row := codedFewRow, standIns := [], harness := (true, "132025c619a3a68fa460bc3b1377c0be1b70f5e044035f08231230f8ad6d9feb"), looks := true }, kinds := [], alts := [], laidByText := true, laidKinds := [.data, .handle], laidTests := true, laidLooks := .later }
def CodedFewCardSaid : Prop := Claim7.holds Tryz.pinned (.plain (OpenSpec.ofChange codedFewSpec)) codedFewCard

/-- THE TIED CARD OF 'fieldfarelaw13.IndexFew'. -/
def indexFewCard : Claim7 := { stood := { row := indexFewRow, standIns := [], harness := (true, "132025c619a3a68fa460bc3b1377c0be1b70f5e044035f08231230f8ad6d9feb"), looks := true }, kinds := [], alts := [], laidByText := true, laidKinds := [.data, .handle], laidTests := true, laidLooks := .later }
def IndexFewCardSaid : Prop := Claim7.holds Tryz.pinned (.plain (OpenSpec.ofChange indexFewSpec)) indexFewCard

/-- THE TIED CARD OF 'fieldfarelaw13.TrueSelf'. -/
def trueSelfCard : Claim7 := { stood := { row := trueSelfRow, standIns := [], harness := (true, "132025c619a3a68fa460bc3b1377c0be1b70f5e044035f08231230f8ad6d9feb"), looks := true }, kinds := [], alts := [], laidByText := true, laidKinds := [.data, .handle], laidTests := true, laidLooks := .later }
def TrueSelfCardSaid : Prop := Claim7.holds Tryz.pinned (.plain (OpenSpec.ofChange trueSelfSpec)) trueSelfCard

/-- THE TIED CARD OF 'fieldfarelaw13.GraphBoth'. -/
def graphBothCard : Claim7 := { stood := { row := graphBothRow, standIns := [], harness := (true, "132025c619a3a68fa460bc3b1377c0be1b70f5e044035f08231230f8ad6d9feb"), looks := true }, kinds := [], alts := [], laidByText := true, laidKinds := [.data, .handle], laidTests := true, laidLooks := .later }
def GraphBothCardSaid : Prop := Claim7.holds Tryz.pinned (.plain (OpenSpec.ofChange graphBothSpec)) graphBothCard

/-- THE TIED CARD OF 'fieldfarelaw13.CodedTrue'. -/
def codedTrueCard : Claim7 := { stood := { row := codedTrueRow, standIns := [], harness := (true, "132025c619a3a68fa460bc3b1377c0be1b70f5e044035f08231230f8ad6d9feb"), looks := true }, kinds := [], alts := [], laidByText := true, laidKinds := [.data, .handle], laidTests := true, laidLooks := .later }
def CodedTrueCardSaid : Prop := Claim7.holds Tryz.pinned (.plain (OpenSpec.ofChange codedTrueSpec)) codedTrueCard

/-- THE TIED CARD OF 'fieldfarelaw13.IndexAll'. -/
def indexAllCard : Claim7 := { stood := { row := indexAllRow, standIns := [], harness := (true, "132025c619a3a68fa460bc3b1377c0be1b70f5e044035f08231230f8ad6d9feb"), looks := true }, kinds := [], alts := [], laidByText := true, laidKinds := [.data, .handle], laidTests := true, laidLooks := .later }
def IndexAllCardSaid : Prop := Claim7.holds Tryz.pinned (.plain (OpenSpec.ofChange indexAllSpec)) indexAllCard

/-- THE TIED CARD OF 'fieldfarelaw13.GraphAll'. -/
def graphAllCard : Claim7 := { stood := { row := graphAllRow, standIns := [], harness := (true, "132025c619a3a68fa460bc3b1377c0be1b70f5e044035f08231230f8ad6d9feb"), looks := true }, kinds := [], alts := [], laidByText := true, laidKinds := [.data, .handle], laidTests := true, laidLooks := .later }
def GraphAllCardSaid : Prop := Claim7.holds Tryz.pinned (.plain (OpenSpec.ofChange graphAllSpec)) graphAllCard

/-- THE TIED CARD OF 'fieldfarelaw13.IvfAll'. -/
def ivfAllCard : Claim7 := { stood := { row := ivfAllRow, standIns := [], harness := (true, "132025c619a3a68fa460bc3b1377c0be1b70f5e044035f08231230f8ad6d9feb"), looks := true }, kinds := [], alts := [], laidByText := true, laidKinds := [.data, .handle], laidTests := true, laidLooks := .later }
def IvfAllCardSaid : Prop := Claim7.holds Tryz.pinned (.plain (OpenSpec.ofChange ivfAllSpec)) ivfAllCard

/-- THE TIED CARD OF 'fieldfarelaw13.CodedAll'. -/
def codedAllCard : Claim7 := { stood := { row := codedAllRow, standIns := [], harness := (true, "132025c619a3a68fa460bc3b1377c0be1b70f5e044035f08231230f8ad6d9feb"), looks := true }, kinds := [], alts := [], laidByText := true, laidKinds := [.data, .handle], laidTests := true, laidLooks := .later }
def CodedAllCardSaid : Prop := Claim7.holds Tryz.pinned (.plain (OpenSpec.ofChange codedAllSpec)) codedAllCard

/-- THE SECOND FORM's CARD OF 'fieldfarelaw13.GraphFew'. -/
def graphFewUptoCard : Claim7 := { stood := { row := graphFewUptoRow, standIns := [], harness := (true, "132025c619a3a68fa460bc3b1377c0be1b70f5e044035f08231230f8ad6d9feb"), looks := true }, kinds := [], alts := [], laidByText := true, laidKinds := [.data, .handle], laidTests := true, laidLooks := .later }
def GraphFewUptoCardSaid : Prop := Claim7.holds Tryz.pinned (.plain (OpenSpec.upto graphFewSpec)) graphFewUptoCard

/-- THE SECOND FORM's CARD OF 'fieldfarelaw13.GraphEntry'. -/
def graphEntryUptoCard : Claim7 := { stood := { row := graphEntryUptoRow, standIns := [], harness := (true, "132025c619a3a68fa460bc3b1377c0be1b70f5e044035f08231230f8ad6d9feb"), looks := true }, kinds := [], alts := [], laidByText := true, laidKinds := [.data, .handle], laidTests := true, laidLooks := .later }
def GraphEntryUptoCardSaid : Prop := Claim7.holds Tryz.pinned (.plain (OpenSpec.upto graphEntrySpec)) graphEntryUptoCard

/-- THE SECOND FORM's CARD OF 'fieldfarelaw13.GraphWide'. -/
def graphWideUptoCard : Claim7 := { stood := { row := graphWideUptoRow, standIns := [], harness := (true, "132025c619a3a68fa460bc3b1377c0be1b70f5e044035f08231230f8ad6d9feb"), looks := true }, kinds := [], alts := [], laidByText := true, laidKinds := [.data, .handle], laidTests := true, laidLooks := .later }
def GraphWideUptoCardSaid : Prop := Claim7.holds Tryz.pinned (.plain (OpenSpec.upto graphWideSpec)) graphWideUptoCard

/-- THE SECOND FORM's CARD OF 'fieldfarelaw13.CodedFew'. -/
def codedFewUptoCard : Claim7 := { stood := { row := codedFewUptoRow, standIns := [], harness := (true, "132025c619a3a68fa460bc3b1377c0be1b70f5e044035f08231230f8ad6d9feb"), looks := true }, kinds := [], alts := [], laidByText := true, laidKinds := [.data, .handle], laidTests := true, laidLooks := .later }
def CodedFewUptoCardSaid : Prop := Claim7.holds Tryz.pinned (.plain (OpenSpec.upto codedFewSpec)) codedFewUptoCard

/-- THE SECOND FORM's CARD OF 'fieldfarelaw13.IndexFew'. -/
def indexFewUptoCard : Claim7 := { stood := { row := indexFewUptoRow, standIns := [], harness := (true, "132025c619a3a68fa460bc3b1377c0be1b70f5e044035f08231230f8ad6d9feb"), looks := true }, kinds := [], alts := [], laidByText := true, laidKinds := [.data, .handle], laidTests := true, laidLooks := .later }
def IndexFewUptoCardSaid : Prop := Claim7.holds Tryz.pinned (.plain (OpenSpec.upto indexFewSpec)) indexFewUptoCard

/-- THE SECOND FORM's CARD OF 'fieldfarelaw13.TrueSelf'. -/
def trueSelfUptoCard : Claim7 := { stood := { row := trueSelfUptoRow, standIns := [], harness := (true, "132025c619a3a68fa460bc3b1377c0be1b70f5e044035f08231230f8ad6d9feb"), looks := true }, kinds := [], alts := [], laidByText := true, laidKinds := [.data, .handle], laidTests := true, laidLooks := .later }
def TrueSelfUptoCardSaid : Prop := Claim7.holds Tryz.pinned (.plain (OpenSpec.upto trueSelfSpec)) trueSelfUptoCard

/-- THE SECOND FORM's CARD OF 'fieldfarelaw13.GraphBoth'. -/
def graphBothUptoCard : Claim7 := { stood := { row := graphBothUptoRow, standIns := [], harness := (true, "132025c619a3a68fa460bc3b1377c0be1b70f5e044035f08231230f8ad6d9feb"), looks := true }, kinds := [], alts := [], laidByText := true, laidKinds := [.data, .handle], laidTests := true, laidLooks := .later }
def GraphBothUptoCardSaid : Prop := Claim7.holds Tryz.pinned (.plain (OpenSpec.upto graphBothSpec)) graphBothUptoCard

/-- THE SECOND FORM's CARD OF 'fieldfarelaw13.CodedTrue'. -/
def codedTrueUptoCard : Claim7 := { stood := { row := codedTrueUptoRow, standIns := [], harness := (true, "132025c619a3a68fa460bc3b1377c0be1b70f5e044035f08231230f8ad6d9feb"), looks := true }, kinds := [], alts := [], laidByText := true, laidKinds := [.data, .handle], laidTests := true, laidLooks := .later }
def CodedTrueUptoCardSaid : Prop := Claim7.holds Tryz.pinned (.plain (OpenSpec.upto codedTrueSpec)) codedTrueUptoCard

/-- THE SECOND FORM's CARD OF 'fieldfarelaw13.IndexAll'. -/
def indexAllUptoCard : Claim7 := { stood := { row := indexAllUptoRow, standIns := [], harness := (true, "132025c619a3a68fa460bc3b1377c0be1b70f5e044035f08231230f8ad6d9feb"), looks := true }, kinds := [], alts := [], laidByText := true, laidKinds := [.data, .handle], laidTests := true, laidLooks := .later }
def IndexAllUptoCardSaid : Prop := Claim7.holds Tryz.pinned (.plain (OpenSpec.upto indexAllSpec)) indexAllUptoCard

/-- THE SECOND FORM's CARD OF 'fieldfarelaw13.GraphAll'. -/
def graphAllUptoCard : Claim7 := { stood := { row := graphAllUptoRow, standIns := [], harness := (true, "132025c619a3a68fa460bc3b1377c0be1b70f5e044035f08231230f8ad6d9feb"), looks := true }, kinds := [], alts := [], laidByText := true, laidKinds := [.data, .handle], laidTests := true, laidLooks := .later }
def GraphAllUptoCardSaid : Prop := Claim7.holds Tryz.pinned (.plain (OpenSpec.upto graphAllSpec)) graphAllUptoCard

/-- THE SECOND FORM's CARD OF 'fieldfarelaw13.IvfAll'. -/
def ivfAllUptoCard : Claim7 := { stood := { row := ivfAllUptoRow, standIns := [], harness := (true, "132025c619a3a68fa460bc3b1377c0be1b70f5e044035f08231230f8ad6d9feb"), looks := true }, kinds := [], alts := [], laidByText := true, laidKinds := [.data, .handle], laidTests := true, laidLooks := .later }
def IvfAllUptoCardSaid : Prop := Claim7.holds Tryz.pinned (.plain (OpenSpec.upto ivfAllSpec)) ivfAllUptoCard

/-- THE SECOND FORM's CARD OF 'fieldfarelaw13.CodedAll'. -/
def codedAllUptoCard : Claim7 := { stood := { row := codedAllUptoRow, standIns := [], harness := (true, "132025c619a3a68fa460bc3b1377c0be1b70f5e044035f08231230f8ad6d9feb"), looks := true }, kinds := [], alts := [], laidByText := true, laidKinds := [.data, .handle], laidTests := true, laidLooks := .later }
def CodedAllUptoCardSaid : Prop := Claim7.holds Tryz.pinned (.plain (OpenSpec.upto codedAllSpec)) codedAllUptoCard
end Rows
end Go.Proofs.YtofikbfljjjgeaaGreatDoor
