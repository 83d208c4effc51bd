/-
  DERIVED. GIVEN WITH THE SEED: THE CARDS: each row of YtplebjehcgcdeaaGreatDoorRows.lean that lists a variable, with what it lists TIED to the program's text (the seventh form; the later family's looks); each row that meets fmt, with fmt's text TOLD by the authors' own Lean function (tested against real Go, not proved from fmt's source: count such statements apart). THE CARD IS WHAT COUNTS. Prove the row's statement (the work); the ties are given (YtplebjehcgcdeaaGreatDoorTie.lean); close each card by the builder's one call (the guide's Derived/Test/ToyasCard.lean, 'card_holds'). Laid BY PROGRAM, IN A SANDBOX (cutbox-door.mjs). By AI agents, Wed Nov 11 2026. No macro, syntax, notation, axiom, sorry.
-/
import Derived.Test.YtplebjehcgcdeaaGreatDoorRows
import GoSem.ClaimSeven
namespace Go.Proofs.YtplebjehcgcdeaaGreatDoor
namespace Rows

/-- THE TIED CARD OF 'greenbeltlaw19.DrawingTells'. -/
def drawingTellsCard : Claim7 := { stood := { row := drawingTellsRow, standIns := [], harness := (true, "b4bfb9393c54f03ea2fab72da3e8d751103f9cd31728bf849eddaf80237db9da"), looks := true }, kinds := [], alts := [], laidByText := true, laidKinds := [.data, .data, .data, .sentinel, .sentinel], laidTests := true, laidLooks := .later }
def DrawingTellsCardSaid : Prop := Claim7.holds Tryz.pinned (.plain (OpenSpec.ofChange drawingTellsSpec)) drawingTellsCard

/-- THE TIED CARD OF 'greenbeltlaw19.DrawingReads'. -/
def drawingReadsCard : Claim7 := { stood := { row := drawingReadsRow, standIns := [], harness := (true, "b4bfb9393c54f03ea2fab72da3e8d751103f9cd31728bf849eddaf80237db9da"), looks := true }, kinds := [], alts := [], laidByText := true, laidKinds := [.data, .data, .data, .sentinel, .sentinel], laidTests := true, laidLooks := .later }
def DrawingReadsCardSaid : Prop := Claim7.holds Tryz.pinned (.plain (OpenSpec.ofChange drawingReadsSpec)) drawingReadsCard

/-- THE TIED CARD OF 'greenbeltlaw19.DrawingBack'. -/
def drawingBackCard : Claim7 := { stood := { row := drawingBackRow, standIns := [], harness := (true, "b4bfb9393c54f03ea2fab72da3e8d751103f9cd31728bf849eddaf80237db9da"), looks := true }, kinds := [], alts := [], laidByText := true, laidKinds := [.data, .data, .data, .sentinel, .sentinel], laidTests := true, laidLooks := .later }
def DrawingBackCardSaid : Prop := Claim7.holds Tryz.pinned (.plain (OpenSpec.ofChange drawingBackSpec)) drawingBackCard

/-- THE TIED CARD OF 'greenbeltlaw19.DrawingCanonical'. -/
def drawingCanonicalCard : Claim7 := { stood := { row := drawingCanonicalRow, standIns := [], harness := (true, "b4bfb9393c54f03ea2fab72da3e8d751103f9cd31728bf849eddaf80237db9da"), looks := true }, kinds := [], alts := [], laidByText := true, laidKinds := [.data, .data, .data, .sentinel, .sentinel], laidTests := true, laidLooks := .later }
def DrawingCanonicalCardSaid : Prop := Claim7.holds Tryz.pinned (.plain (OpenSpec.ofChange drawingCanonicalSpec)) drawingCanonicalCard

/-- THE TIED CARD OF 'greenbeltlaw19.DrawingProbes'. -/
def drawingProbesCard : Claim7 := { stood := { row := drawingProbesRow, standIns := [], harness := (true, "b4bfb9393c54f03ea2fab72da3e8d751103f9cd31728bf849eddaf80237db9da"), looks := true }, kinds := [], alts := [], laidByText := true, laidKinds := [.data, .data, .data, .sentinel, .sentinel], laidTests := true, laidLooks := .later }
def DrawingProbesCardSaid : Prop := Claim7.holds Tryz.pinned (.plain (OpenSpec.ofChange drawingProbesSpec)) drawingProbesCard

/-- THE TIED CARD OF 'greenbeltlaw19.DrawingInside'. -/
def drawingInsideCard : Claim7 := { stood := { row := drawingInsideRow, standIns := [], harness := (true, "b4bfb9393c54f03ea2fab72da3e8d751103f9cd31728bf849eddaf80237db9da"), looks := true }, kinds := [], alts := [], laidByText := true, laidKinds := [.data, .data, .data, .sentinel, .sentinel], laidTests := true, laidLooks := .later }
def DrawingInsideCardSaid : Prop := Claim7.holds Tryz.pinned (.plain (OpenSpec.ofChange drawingInsideSpec)) drawingInsideCard

/-- THE TIED CARD OF 'greenbeltlaw19.DrawingParts'. -/
def drawingPartsCard : Claim7 := { stood := { row := drawingPartsRow, standIns := [], harness := (true, "b4bfb9393c54f03ea2fab72da3e8d751103f9cd31728bf849eddaf80237db9da"), looks := true }, kinds := [], alts := [], laidByText := true, laidKinds := [.data, .data, .data, .sentinel, .sentinel], laidTests := true, laidLooks := .later }
def DrawingPartsCardSaid : Prop := Claim7.holds Tryz.pinned (.plain (OpenSpec.ofChange drawingPartsSpec)) drawingPartsCard

/-- THE TIED CARD OF 'greenbeltlaw19.DrawingVolumes'. -/
def drawingVolumesCard : Claim7 := { stood := { row := drawingVolumesRow, standIns := [], harness := (true, "b4bfb9393c54f03ea2fab72da3e8d751103f9cd31728bf849eddaf80237db9da"), looks := true }, kinds := [], alts := [], laidByText := true, laidKinds := [.data, .data, .data, .sentinel, .sentinel], laidTests := true, laidLooks := .later }
def DrawingVolumesCardSaid : Prop := Claim7.holds Tryz.pinned (.plain (OpenSpec.ofChange drawingVolumesSpec)) drawingVolumesCard

/-- THE SECOND FORM's CARD OF 'greenbeltlaw19.DrawingTells'. -/
def drawingTellsUptoCard : Claim7 := { stood := { row := drawingTellsUptoRow, standIns := [], harness := (true, "b4bfb9393c54f03ea2fab72da3e8d751103f9cd31728bf849eddaf80237db9da"), looks := true }, kinds := [], alts := [], laidByText := true, laidKinds := [.data, .data, .data, .sentinel, .sentinel], laidTests := true, laidLooks := .later }
def DrawingTellsUptoCardSaid : Prop := Claim7.holds Tryz.pinned (.plain (OpenSpec.upto drawingTellsSpec)) drawingTellsUptoCard

/-- THE SECOND FORM's CARD OF 'greenbeltlaw19.DrawingReads'. -/
def drawingReadsUptoCard : Claim7 := { stood := { row := drawingReadsUptoRow, standIns := [], harness := (true, "b4bfb9393c54f03ea2fab72da3e8d751103f9cd31728bf849eddaf80237db9da"), looks := true }, kinds := [], alts := [], laidByText := true, laidKinds := [.data, .data, .data, .sentinel, .sentinel], laidTests := true, laidLooks := .later }
def DrawingReadsUptoCardSaid : Prop := Claim7.holds Tryz.pinned (.plain (OpenSpec.upto drawingReadsSpec)) drawingReadsUptoCard

/-- THE SECOND FORM's CARD OF 'greenbeltlaw19.DrawingBack'. -/
def drawingBackUptoCard : Claim7 := { stood := { row := drawingBackUptoRow, standIns := [], harness := (true, "b4bfb9393c54f03ea2fab72da3e8d751103f9cd31728bf849eddaf80237db9da"), looks := true }, kinds := [], alts := [], laidByText := true, laidKinds := [.data, .data, .data, .sentinel, .sentinel], laidTests := true, laidLooks := .later }
def DrawingBackUptoCardSaid : Prop := Claim7.holds Tryz.pinned (.plain (OpenSpec.upto drawingBackSpec)) drawingBackUptoCard

/-- THE SECOND FORM's CARD OF 'greenbeltlaw19.DrawingCanonical'. -/
def drawingCanonicalUptoCard : Claim7 := { stood := { row := drawingCanonicalUptoRow, standIns := [], harness := (true, "b4bfb9393c54f03ea2fab72da3e8d751103f9cd31728bf849eddaf80237db9da"), looks := true }, kinds := [], alts := [], laidByText := true, laidKinds := [.data, .data, .data, .sentinel, .sentinel], laidTests := true, laidLooks := .later }
def DrawingCanonicalUptoCardSaid : Prop := Claim7.holds Tryz.pinned (.plain (OpenSpec.upto drawingCanonicalSpec)) drawingCanonicalUptoCard

/-- THE SECOND FORM's CARD OF 'greenbeltlaw19.DrawingProbes'. -/
def drawingProbesUptoCard : Claim7 := { stood := { row := drawingProbesUptoRow, standIns := [], harness := (true, "b4bfb9393c54f03ea2fab72da3e8d751103f9cd31728bf849eddaf80237db9da"), looks := true }, kinds := [], alts := [], laidByText := true, laidKinds := [.data, .data, .data, .sentinel, .sentinel], laidTests := true, laidLooks := .later }
def DrawingProbesUptoCardSaid : Prop := Claim7.holds Tryz.pinned (.plain (OpenSpec.upto drawingProbesSpec)) drawingProbesUptoCard

/-- THE SECOND FORM's CARD OF 'greenbeltlaw19.DrawingInside'. -/
def drawingInsideUptoCard : Claim7 := { stood := { row := drawingInsideUptoRow, standIns := [], harness := (true, "b4bfb9393c54f03ea2fab72da3e8d751103f9cd31728bf849eddaf80237db9da"), looks := true }, kinds := [], alts := [], laidByText := true, laidKinds := [.data, .data, .data, .sentinel, .sentinel], laidTests := true, laidLooks := .later }
def DrawingInsideUptoCardSaid : Prop := Claim7.holds Tryz.pinned (.plain (OpenSpec.upto drawingInsideSpec)) drawingInsideUptoCard

/-- THE SECOND FORM's CARD OF 'greenbeltlaw19.DrawingParts'. -/
def drawingPartsUptoCard : Claim7 := { stood := { row := drawingPartsUptoRow, standIns := [], harness := (true, "b4bfb9393c54f03ea2fab72da3e8d751103f9cd31728bf849eddaf80237db9da"), looks := true }, kinds := [], alts := [], laidByText := true, laidKinds := [.data, .data, .data, .sentinel, .sentinel], laidTests := true, laidLooks := .later }
def DrawingPartsUptoCardSaid : Prop := Claim7.holds Tryz.pinned (.plain (OpenSpec.upto drawingPartsSpec)) drawingPartsUptoCard

/-- THE SECOND FORM's CARD OF 'greenbeltlaw19.DrawingVolumes'. -/
def drawingVolumesUptoCard : Claim7 := { stood := { row := drawingVolumesUptoRow, standIns := [], harness := (true, "b4bfb9393c54f03ea2fab72da3e8d751103f9cd31728bf849eddaf80237db9da"), looks := true }, kinds := [], alts := [], laidByText := true, laidKinds := [.data, .data, .data, .sentinel, .sentinel], laidTests := true, laidLooks := .later }
def DrawingVolumesUptoCardSaid : Prop := Claim7.holds Tryz.pinned (.plain (OpenSpec.upto drawingVolumesSpec)) drawingVolumesUptoCard
end Rows
end Go.Proofs.YtplebjehcgcdeaaGreatDoor
