/-
  DERIVED. GIVEN WITH THE SEED: THE CARDS: each row of YthkmcfiijooddaaGreatDoorRows.lean that lists a variable, with what it lists TIED to the program's text (the seventh form; the later family's looks); each row that meets fmt, with fmt's text TOLD by the authors' own Lean function (tested against real Go, not proved from fmt's source: count such statements apart). THE CARD IS WHAT COUNTS. Prove the row's statement (the work); the ties are given (YthkmcfiijooddaaGreatDoorTie.lean); close each card by the builder's one call (the guide's Derived/Test/ToyasCard.lean, 'card_holds'). Laid BY PROGRAM, IN A SANDBOX (cutbox-door.mjs). By AI agents, Wed Nov 11 2026. No macro, syntax, notation, axiom, sorry.
-/
import Derived.Test.YthkmcfiijooddaaGreatDoorRows
import GoSem.ClaimSeven
namespace Go.Proofs.YthkmcfiijooddaaGreatDoor
namespace Rows

/-- THE TIED CARD OF 'fieldfarelaw18.MoveNew'. -/
def moveNewCard : Claim7 := { stood := { row := moveNewRow, standIns := [], harness := (true, "b80c4a19a7312a99fb26ba642549ac01509e2f7203e259a58fb7777f4915bfc5"), looks := true }, kinds := [], alts := [], laidByText := true, laidKinds := [.data, .handle], laidTests := true, laidLooks := .later }
def MoveNewCardSaid : Prop := Claim7.holds Tryz.pinned (.plain (OpenSpec.ofChange moveNewSpec)) moveNewCard

/-- THE TIED CARD OF 'fieldfarelaw18.StoreLoad'. -/
def storeLoadCard : Claim7 := { stood := { row := storeLoadRow, standIns := [], harness := (true, "b80c4a19a7312a99fb26ba642549ac01509e2f7203e259a58fb7777f4915bfc5"), looks := true }, kinds := [], alts := [], laidByText := true, laidKinds := [.data, .handle], laidTests := true, laidLooks := .later }
def StoreLoadCardSaid : Prop := Claim7.holds Tryz.pinned (.plain (OpenSpec.ofChange storeLoadSpec)) storeLoadCard

/-- THE TIED CARD OF 'fieldfarelaw18.StoreScan'. -/
def storeScanCard : Claim7 := { stood := { row := storeScanRow, standIns := [], harness := (true, "b80c4a19a7312a99fb26ba642549ac01509e2f7203e259a58fb7777f4915bfc5"), looks := true }, kinds := [], alts := [], laidByText := true, laidKinds := [.data, .handle], laidTests := true, laidLooks := .later }
def StoreScanCardSaid : Prop := Claim7.holds Tryz.pinned (.plain (OpenSpec.ofChange storeScanSpec)) storeScanCard

/-- THE TIED CARD OF 'fieldfarelaw18.StoreAll'. -/
def storeAllCard : Claim7 := { stood := { row := storeAllRow, standIns := [], harness := (true, "b80c4a19a7312a99fb26ba642549ac01509e2f7203e259a58fb7777f4915bfc5"), looks := true }, kinds := [], alts := [], laidByText := true, laidKinds := [.data, .handle], laidTests := true, laidLooks := .later }
def StoreAllCardSaid : Prop := Claim7.holds Tryz.pinned (.plain (OpenSpec.ofChange storeAllSpec)) storeAllCard

/-- THE TIED CARD OF 'fieldfarelaw18.StoreSweep'. -/
def storeSweepCard : Claim7 := { stood := { row := storeSweepRow, standIns := [], harness := (true, "b80c4a19a7312a99fb26ba642549ac01509e2f7203e259a58fb7777f4915bfc5"), looks := true }, kinds := [], alts := [], laidByText := true, laidKinds := [.data, .handle], laidTests := true, laidLooks := .later }
def StoreSweepCardSaid : Prop := Claim7.holds Tryz.pinned (.plain (OpenSpec.ofChange storeSweepSpec)) storeSweepCard

/-- THE TIED CARD OF 'fieldfarelaw18.StoreBack'. -/
def storeBackCard : Claim7 := { stood := { row := storeBackRow, standIns := [], harness := (true, "b80c4a19a7312a99fb26ba642549ac01509e2f7203e259a58fb7777f4915bfc5"), looks := true }, kinds := [], alts := [], laidByText := true, laidKinds := [.data, .handle], laidTests := true, laidLooks := .later }
def StoreBackCardSaid : Prop := Claim7.holds Tryz.pinned (.plain (OpenSpec.ofChange storeBackSpec)) storeBackCard

/-- THE SECOND FORM's CARD OF 'fieldfarelaw18.MoveNew'. -/
def moveNewUptoCard : Claim7 := { stood := { row := moveNewUptoRow, standIns := [], harness := (true, "b80c4a19a7312a99fb26ba642549ac01509e2f7203e259a58fb7777f4915bfc5"), looks := true }, kinds := [], alts := [], laidByText := true, laidKinds := [.data, .handle], laidTests := true, laidLooks := .later }
def MoveNewUptoCardSaid : Prop := Claim7.holds Tryz.pinned (.plain (OpenSpec.upto moveNewSpec)) moveNewUptoCard

/-- THE SECOND FORM's CARD OF 'fieldfarelaw18.StoreLoad'. -/
def storeLoadUptoCard : Claim7 := { stood := { row := storeLoadUptoRow, standIns := [], harness := (true, "b80c4a19a7312a99fb26ba642549ac01509e2f7203e259a58fb7777f4915bfc5"), looks := true }, kinds := [], alts := [], laidByText := true, laidKinds := [.data, .handle], laidTests := true, laidLooks := .later }
def StoreLoadUptoCardSaid : Prop := Claim7.holds Tryz.pinned (.plain (OpenSpec.upto storeLoadSpec)) storeLoadUptoCard

/-- THE SECOND FORM's CARD OF 'fieldfarelaw18.StoreScan'. -/
def storeScanUptoCard : Claim7 := { stood := { row := storeScanUptoRow, standIns := [], harness := (true, "b80c4a19a7312a99fb26ba642549ac01509e2f7203e259a58fb7777f4915bfc5"), looks := true }, kinds := [], alts := [], laidByText := true, laidKinds := [.data, .handle], laidTests := true, laidLooks := .later }
def StoreScanUptoCardSaid : Prop := Claim7.holds Tryz.pinned (.plain (OpenSpec.upto storeScanSpec)) storeScanUptoCard

/-- THE SECOND FORM's CARD OF 'fieldfarelaw18.StoreAll'. -/
def storeAllUptoCard : Claim7 := { stood := { row := storeAllUptoRow, standIns := [], harness := (true, "b80c4a19a7312a99fb26ba642549ac01509e2f7203e259a58fb7777f4915bfc5"), looks := true }, kinds := [], alts := [], laidByText := true, laidKinds := [.data, .handle], laidTests := true, laidLooks := .later }
def StoreAllUptoCardSaid : Prop := Claim7.holds Tryz.pinned (.plain (OpenSpec.upto storeAllSpec)) storeAllUptoCard

/-- THE SECOND FORM's CARD OF 'fieldfarelaw18.StoreSweep'. -/
def storeSweepUptoCard : Claim7 := { stood := { row := storeSweepUptoRow, standIns := [], harness := (true, "b80c4a19a7312a99fb26ba642549ac01509e2f7203e259a58fb7777f4915bfc5"), looks := true }, kinds := [], alts := [], laidByText := true, laidKinds := [.data, .handle], laidTests := true, laidLooks := .later }
def StoreSweepUptoCardSaid : Prop := Claim7.holds Tryz.pinned (.plain (OpenSpec.upto storeSweepSpec)) storeSweepUptoCard

/-- THE SECOND FORM's CARD OF 'fieldfarelaw18.StoreBack'. -/
def storeBackUptoCard : Claim7 := { stood := { row := storeBackUptoRow, standIns := [], harness := (true, "b80c4a19a7312a99fb26ba642549ac01509e2f7203e259a58fb7777f4915bfc5"), looks := true }, kinds := [], alts := [], laidByText := true, laidKinds := [.data, .handle], laidTests := true, laidLooks := .later }
def StoreBackUptoCardSaid : Prop := Claim7.holds Tryz.pinned (.plain (OpenSpec.upto storeBackSpec)) storeBackUptoCard
end Rows
end Go.Proofs.YthkmcfiijooddaaGreatDoor
