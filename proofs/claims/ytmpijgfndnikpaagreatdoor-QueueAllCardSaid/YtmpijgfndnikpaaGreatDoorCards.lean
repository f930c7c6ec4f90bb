/-
  DERIVED. GIVEN WITH THE SEED: THE CARDS: each row of YtmpijgfndnikpaaGreatDoorRows.lean that lists a variable, with what it lists TIED to the program's text (the seventh form; the later family's looks); each row that meets fmt, with fmt's text TOLD by the authors' own Lean function (tested against real Go, not proved from fmt's source: count such statements apart). THE CARD IS WHAT COUNTS. Prove the row's statement (the work); the ties are given (YtmpijgfndnikpaaGreatDoorTie.lean); close each card by the builder's one call (the guide's Derived/Test/ToyasCard.lean, 'card_holds'). Laid BY PROGRAM, IN A SANDBOX (cutbox-door.mjs). By AI agents, Wed Nov 11 2026. No macro, syntax, notation, axiom, sorry.
-/
import Derived.Test.YtmpijgfndnikpaaGreatDoorRows
import GoSem.ClaimSeven
namespace Go.Proofs.YtmpijgfndnikpaaGreatDoor
namespace Rows

/-- THE TIED CARD OF 'fieldfarelaw13.IndexNone'. -/
def indexNoneCard : Claim7 := { stood := { row := indexNoneRow, standIns := [], harness := (true, "5a89125a6fd7d84907d8cc0c1b5b18a6e05b75fad46dac3b906d37505a0bc5f0"), looks := true }, kinds := [], alts := [], laidByText := true, laidKinds := [.data, .handle], laidTests := true, laidLooks := .later }
def IndexNoneCardSaid : Prop := Claim7.holds Tryz.pinned (.plain (OpenSpec.ofChange indexNoneSpec)) indexNoneCard

/-- THE TIED CARD OF 'fieldfarelaw18.MoveNone'. -/
def moveNoneCard : Claim7 := { stood := { row := moveNoneRow, standIns := [], harness := (true, "5a89125a6fd7d84907d8cc0c1b5b18a6e05b75fad46dac3b906d37505a0bc5f0"), looks := true }, kinds := [], alts := [], laidByText := true, laidKinds := [.data, .handle], laidTests := true, laidLooks := .later }
def MoveNoneCardSaid : Prop := Claim7.holds Tryz.pinned (.plain (OpenSpec.ofChange moveNoneSpec)) moveNoneCard

/-- THE TIED CARD OF 'fieldfarelaw18.MoveEmpty'. -/
def moveEmptyCard : Claim7 := { stood := { row := moveEmptyRow, standIns := [], harness := (true, "5a89125a6fd7d84907d8cc0c1b5b18a6e05b75fad46dac3b906d37505a0bc5f0"), looks := true }, kinds := [], alts := [], laidByText := true, laidKinds := [.data, .handle], laidTests := true, laidLooks := .later }
def MoveEmptyCardSaid : Prop := Claim7.holds Tryz.pinned (.plain (OpenSpec.ofChange moveEmptySpec)) moveEmptyCard

/-- THE TIED CARD OF 'fieldfarelaw18.BucketPace'. -/
def bucketPaceCard : Claim7 := { stood := { row := bucketPaceRow, standIns := [], harness := (true, "5a89125a6fd7d84907d8cc0c1b5b18a6e05b75fad46dac3b906d37505a0bc5f0"), looks := true }, kinds := [], alts := [], laidByText := true, laidKinds := [.data, .handle], laidTests := true, laidLooks := .later }
def BucketPaceCardSaid : Prop := Claim7.holds Tryz.pinned (.plain (OpenSpec.ofChange bucketPaceSpec)) bucketPaceCard

/-- THE TIED CARD OF 'fieldfarelaw18.BucketBound'. -/
def bucketBoundCard : Claim7 := { stood := { row := bucketBoundRow, standIns := [], harness := (true, "5a89125a6fd7d84907d8cc0c1b5b18a6e05b75fad46dac3b906d37505a0bc5f0"), looks := true }, kinds := [], alts := [], laidByText := true, laidKinds := [.data, .handle], laidTests := true, laidLooks := .later }
def BucketBoundCardSaid : Prop := Claim7.holds Tryz.pinned (.plain (OpenSpec.ofChange bucketBoundSpec)) bucketBoundCard

/-- THE TIED CARD OF 'fieldfarelaw18.QueueFull'. -/
def queueFullCard : Claim7 := { stood := { row := queueFullRow, standIns := [], harness := (true, "5a89125a6fd7d84907d8cc0c1b5b18a6e05b75fad46dac3b906d37505a0bc5f0"), looks := true }, kinds := [], alts := [], laidByText := true, laidKinds := [.data, .handle], laidTests := true, laidLooks := .later }
def QueueFullCardSaid : Prop := Claim7.holds Tryz.pinned (.plain (OpenSpec.ofChange queueFullSpec)) queueFullCard

/-- THE TIED CARD OF 'fieldfarelaw18.QueueAll'. -/
def queueAllCard : Claim7 := { stood := { row := queueAllRow, standIns := [], harness := (true, "5a89125a6fd7d84907d8cc0c1b5b18a6e05b75fad46dac3b906d37505a0bc5f0"), looks := true }, kinds := [], alts := [], laidByText := true, laidKinds := [.data, .handle], laidTests := true, laidLooks := .later }
def QueueAllCardSaid : Prop := Claim7.holds Tryz.pinned (.plain (OpenSpec.ofChange queueAllSpec)) queueAllCard

/-- THE TIED CARD OF 'fieldfarelaw18.ShadowSame'. -/
def shadowSameCard : Claim7 := { stood := { row := shadowSameRow, standIns := [], harness := (true, "5a89125a6fd7d84907d8cc0c1b5b18a6e05b75fad46dac3b906d37505a0bc5f0"), looks := true }, kinds := [], alts := [], laidByText := true, laidKinds := [.data, .handle], laidTests := true, laidLooks := .later }
def ShadowSameCardSaid : Prop := Claim7.holds Tryz.pinned (.plain (OpenSpec.ofChange shadowSameSpec)) shadowSameCard

/-- THE TIED CARD OF 'fieldfarelaw18.ShadowAll'. -/
def shadowAllCard : Claim7 := { stood := { row := shadowAllRow, standIns := [], harness := (true, "5a89125a6fd7d84907d8cc0c1b5b18a6e05b75fad46dac3b906d37505a0bc5f0"), looks := true }, kinds := [], alts := [], laidByText := true, laidKinds := [.data, .handle], laidTests := true, laidLooks := .later }
def ShadowAllCardSaid : Prop := Claim7.holds Tryz.pinned (.plain (OpenSpec.ofChange shadowAllSpec)) shadowAllCard

/-- THE TIED CARD OF 'fieldfarelaw18.StoreOwn'. -/
def storeOwnCard : Claim7 := { stood := { row := storeOwnRow, standIns := [], harness := (true, "5a89125a6fd7d84907d8cc0c1b5b18a6e05b75fad46dac3b906d37505a0bc5f0"), looks := true }, kinds := [], alts := [], laidByText := true, laidKinds := [.data, .handle], laidTests := true, laidLooks := .later }
def StoreOwnCardSaid : Prop := Claim7.holds Tryz.pinned (.plain (OpenSpec.ofChange storeOwnSpec)) storeOwnCard

/-- THE TIED CARD OF 'fieldfarelaw18.StoreSeq'. -/
def storeSeqCard : Claim7 := { stood := { row := storeSeqRow, standIns := [], harness := (true, "5a89125a6fd7d84907d8cc0c1b5b18a6e05b75fad46dac3b906d37505a0bc5f0"), looks := true }, kinds := [], alts := [], laidByText := true, laidKinds := [.data, .handle], laidTests := true, laidLooks := .later }
def StoreSeqCardSaid : Prop := Claim7.holds Tryz.pinned (.plain (OpenSpec.ofChange storeSeqSpec)) storeSeqCard

/-- THE TIED CARD OF 'fieldfarelaw18.StoreScan'. -/
def storeScanCard : Claim7 := { stood := { row := storeScanRow, standIns := [], harness := (true, "5a89125a6fd7d84907d8cc0c1b5b18a6e05b75fad46dac3b906d37505a0bc5f0"), looks := true }, kinds := [], alts := [], laidByText := true, laidKinds := [.data, .handle], laidTests := true, laidLooks := .later }
def StoreScanCardSaid : Prop := Claim7.holds Tryz.pinned (.plain (OpenSpec.ofChange storeScanSpec)) storeScanCard

/-- THE SECOND FORM's CARD OF 'fieldfarelaw13.IndexNone'. -/
def indexNoneUptoCard : Claim7 := { stood := { row := indexNoneUptoRow, standIns := [], harness := (true, "5a89125a6fd7d84907d8cc0c1b5b18a6e05b75fad46dac3b906d37505a0bc5f0"), looks := true }, kinds := [], alts := [], laidByText := true, laidKinds := [.data, .handle], laidTests := true, laidLooks := .later }
def IndexNoneUptoCardSaid : Prop := Claim7.holds Tryz.pinned (.plain (OpenSpec.upto indexNoneSpec)) indexNoneUptoCard

/-- THE SECOND FORM's CARD OF 'fieldfarelaw18.MoveNone'. -/
def moveNoneUptoCard : Claim7 := { stood := { row := moveNoneUptoRow, standIns := [], harness := (true, "5a89125a6fd7d84907d8cc0c1b5b18a6e05b75fad46dac3b906d37505a0bc5f0"), looks := true }, kinds := [], alts := [], laidByText := true, laidKinds := [.data, .handle], laidTests := true, laidLooks := .later }
def MoveNoneUptoCardSaid : Prop := Claim7.holds Tryz.pinned (.plain (OpenSpec.upto moveNoneSpec)) moveNoneUptoCard

/-- THE SECOND FORM's CARD OF 'fieldfarelaw18.MoveEmpty'. -/
def moveEmptyUptoCard : Claim7 := { stood := { row := moveEmptyUptoRow, standIns := [], harness := (true, "5a89125a6fd7d84907d8cc0c1b5b18a6e05b75fad46dac3b906d37505a0bc5f0"), looks := true }, kinds := [], alts := [], laidByText := true, laidKinds := [.data, .handle], laidTests := true, laidLooks := .later }
def MoveEmptyUptoCardSaid : Prop := Claim7.holds Tryz.pinned (.plain (OpenSpec.upto moveEmptySpec)) moveEmptyUptoCard

/-- THE SECOND FORM's CARD OF 'fieldfarelaw18.BucketPace'. -/
def bucketPaceUptoCard : Claim7 := { stood := { row := bucketPaceUptoRow, standIns := [], harness := (true, "5a89125a6fd7d84907d8cc0c1b5b18a6e05b75fad46dac3b906d37505a0bc5f0"), looks := true }, kinds := [], alts := [], laidByText := true, laidKinds := [.data, .handle], laidTests := true, laidLooks := .later }
def BucketPaceUptoCardSaid : Prop := Claim7.holds Tryz.pinned (.plain (OpenSpec.upto bucketPaceSpec)) bucketPaceUptoCard

/-- THE SECOND FORM's CARD OF 'fieldfarelaw18.BucketBound'. -/
def bucketBoundUptoCard : Claim7 := { stood := { row := bucketBoundUptoRow, standIns := [], harness := (true, "5a89125a6fd7d84907d8cc0c1b5b18a6e05b75fad46dac3b906d37505a0bc5f0"), looks := true }, kinds := [], alts := [], laidByText := true, laidKinds := [.data, .handle], laidTests := true, laidLooks := .later }
def BucketBoundUptoCardSaid : Prop := Claim7.holds Tryz.pinned (.plain (OpenSpec.upto bucketBoundSpec)) bucketBoundUptoCard

/-- THE SECOND FORM's CARD OF 'fieldfarelaw18.QueueFull'. -/
def queueFullUptoCard : Claim7 := { stood := { row := queueFullUptoRow, standIns := [], harness := (true, "5a89125a6fd7d84907d8cc0c1b5b18a6e05b75fad46dac3b906d37505a0bc5f0"), looks := true }, kinds := [], alts := [], laidByText := true, laidKinds := [.data, .handle], laidTests := true, laidLooks := .later }
def QueueFullUptoCardSaid : Prop := Claim7.holds Tryz.pinned (.plain (OpenSpec.upto queueFullSpec)) queueFullUptoCard

/-- THE SECOND FORM's CARD OF 'fieldfarelaw18.QueueAll'. -/
def queueAllUptoCard : Claim7 := { stood := { row := queueAllUptoRow, standIns := [], harness := (true, "5a89125a6fd7d84907d8cc0c1b5b18a6e05b75fad46dac3b906d37505a0bc5f0"), looks := true }, kinds := [], alts := [], laidByText := true, laidKinds := [.data, .handle], laidTests := true, laidLooks := .later }
def QueueAllUptoCardSaid : Prop := Claim7.holds Tryz.pinned (.plain (OpenSpec.upto queueAllSpec)) queueAllUptoCard

/-- THE SECOND FORM's CARD OF 'fieldfarelaw18.ShadowSame'. -/
def shadowSameUptoCard : Claim7 := { stood := { row := shadowSameUptoRow, standIns := [], harness := (true, "5a89125a6fd7d84907d8cc0c1b5b18a6e05b75fad46dac3b906d37505a0bc5f0"), looks := true }, kinds := [], alts := [], laidByText := true, laidKinds := [.data, .handle], laidTests := true, laidLooks := .later }
def ShadowSameUptoCardSaid : Prop := Claim7.holds Tryz.pinned (.plain (OpenSpec.upto shadowSameSpec)) shadowSameUptoCard

/-- THE SECOND FORM's CARD OF 'fieldfarelaw18.ShadowAll'. -/
def shadowAllUptoCard : Claim7 := { stood := { row := shadowAllUptoRow, standIns := [], harness := (true, "5a89125a6fd7d84907d8cc0c1b5b18a6e05b75fad46dac3b906d37505a0bc5f0"), looks := true }, kinds := [], alts := [], laidByText := true, laidKinds := [.data, .handle], laidTests := true, laidLooks := .later }
def ShadowAllUptoCardSaid : Prop := Claim7.holds Tryz.pinned (.plain (OpenSpec.upto shadowAllSpec)) shadowAllUptoCard

/-- THE SECOND FORM's CARD OF 'fieldfarelaw18.StoreOwn'. -/
def storeOwnUptoCard : Claim7 := { stood := { row := storeOwnUptoRow, standIns := [], harness := (true, "5a89125a6fd7d84907d8cc0c1b5b18a6e05b75fad46dac3b906d37505a0bc5f0"), looks := true }, kinds := [], alts := [], laidByText := true, laidKinds := [.data, .handle], laidTests := true, laidLooks := .later }
def StoreOwnUptoCardSaid : Prop := Claim7.holds Tryz.pinned (.plain (OpenSpec.upto storeOwnSpec)) storeOwnUptoCard

/-- THE SECOND FORM's CARD OF 'fieldfarelaw18.StoreSeq'. -/
def storeSeqUptoCard : Claim7 := { stood := { row := storeSeqUptoRow, standIns := [], harness := (true, "5a89125a6fd7d84907d8cc0c1b5b18a6e05b75fad46dac3b906d37505a0bc5f0"), looks := true }, kinds := [], alts := [], laidByText := true, laidKinds := [.data, .handle], laidTests := true, laidLooks := .later }
def StoreSeqUptoCardSaid : Prop := Claim7.holds Tryz.pinned (.plain (OpenSpec.upto storeSeqSpec)) storeSeqUptoCard

/-- THE SECOND FORM's CARD OF 'fieldfarelaw18.StoreScan'. -/
def storeScanUptoCard : Claim7 := { stood := { row := storeScanUptoRow, standIns := [], harness := (true, "5a89125a6fd7d84907d8cc0c1b5b18a6e05b75fad46dac3b906d37505a0bc5f0"), looks := true }, kinds := [], alts := [], laidByText := true, laidKinds := [.data, .handle], laidTests := true, laidLooks := .later }
def StoreScanUptoCardSaid : Prop := Claim7.holds Tryz.pinned (.plain (OpenSpec.upto storeScanSpec)) storeScanUptoCard
end Rows
end Go.Proofs.YtmpijgfndnikpaaGreatDoor
