/-
  DERIVED. GIVEN WITH THE SEED: THE CARDS: each row of YtgefjhjmkejjbaaDoorRows.lean that lists a variable, with what it lists TIED to the program's text (the seventh form; the later family's looks); each row that meets fmt, with fmt's text TOLD by the authors' own Lean function (tested against real Go, not proved from fmt's source: count such statements apart). THE CARD IS WHAT COUNTS. Prove the row's statement (the work); the ties are given (YtgefjhjmkejjbaaDoorTie.lean); close each card by the builder's one call (the guide's Derived/Test/ToyasCard.lean, 'card_holds'). Laid BY PROGRAM, IN A SANDBOX (cutbox-door.mjs). By AI agents, Wed Nov 11 2026. No macro, syntax, notation, axiom, sorry.
-/
import Derived.Test.YtgefjhjmkejjbaaDoorRows
import GoSem.ClaimSeven
namespace Go.Proofs.YtgefjhjmkejjbaaDoor
namespace Rows

/-- THE TIED CARD OF 'greenbeltlaw27.CoreTells'. -/
def coreTellsCard : Claim7 := { stood := { row := coreTellsRow, standIns := [], harness := (true, "9e9cf80370c187103ffbf5e4cb8ff2df6c519d2ece61b31242e453ee470e8dc0"), looks := false }, kinds := [], alts := [], laidByText := true, laidKinds := [.data, .data], laidTests := true, laidLooks := .later }
def CoreTellsCardSaid : Prop := Claim7.holds Tryd.pinned (.plain (OpenSpec.ofChange coreTellsSpec)) coreTellsCard

/-- THE TIED CARD OF 'greenbeltlaw27.CoreLeast'. -/
def coreLeastCard : Claim7 := { stood := { row := coreLeastRow, standIns := [], harness := (true, "9e9cf80370c187103ffbf5e4cb8ff2df6c519d2ece61b31242e453ee470e8dc0"), looks := false }, kinds := [], alts := [], laidByText := true, laidKinds := [.data, .data], laidTests := true, laidLooks := .later }
def CoreLeastCardSaid : Prop := Claim7.holds Tryd.pinned (.plain (OpenSpec.ofChange coreLeastSpec)) coreLeastCard

/-- THE TIED CARD OF 'greenbeltlaw27.CoreProofs'. -/
def coreProofsCard : Claim7 := { stood := { row := coreProofsRow, standIns := [], harness := (true, "9e9cf80370c187103ffbf5e4cb8ff2df6c519d2ece61b31242e453ee470e8dc0"), looks := false }, kinds := [], alts := [], laidByText := true, laidKinds := [.data, .data], laidTests := true, laidLooks := .later }
def CoreProofsCardSaid : Prop := Claim7.holds Tryd.pinned (.plain (OpenSpec.ofChange coreProofsSpec)) coreProofsCard

/-- THE TIED CARD OF 'greenbeltlaw27.CoreGrows'. -/
def coreGrowsCard : Claim7 := { stood := { row := coreGrowsRow, standIns := [], harness := (true, "9e9cf80370c187103ffbf5e4cb8ff2df6c519d2ece61b31242e453ee470e8dc0"), looks := false }, kinds := [], alts := [], laidByText := true, laidKinds := [.data, .data], laidTests := true, laidLooks := .later }
def CoreGrowsCardSaid : Prop := Claim7.holds Tryd.pinned (.plain (OpenSpec.ofChange coreGrowsSpec)) coreGrowsCard

/-- THE TIED CARD OF 'greenbeltlaw27.CoreRenames'. -/
def coreRenamesCard : Claim7 := { stood := { row := coreRenamesRow, standIns := [], harness := (true, "9e9cf80370c187103ffbf5e4cb8ff2df6c519d2ece61b31242e453ee470e8dc0"), looks := false }, kinds := [], alts := [], laidByText := true, laidKinds := [.data, .data], laidTests := true, laidLooks := .later }
def CoreRenamesCardSaid : Prop := Claim7.holds Tryd.pinned (.plain (OpenSpec.ofChange coreRenamesSpec)) coreRenamesCard

/-- THE SECOND FORM's CARD OF 'greenbeltlaw27.CoreTells'. -/
def coreTellsUptoCard : Claim7 := { stood := { row := coreTellsUptoRow, standIns := [], harness := (true, "9e9cf80370c187103ffbf5e4cb8ff2df6c519d2ece61b31242e453ee470e8dc0"), looks := false }, kinds := [], alts := [], laidByText := true, laidKinds := [.data, .data], laidTests := true, laidLooks := .later }
def CoreTellsUptoCardSaid : Prop := Claim7.holds Tryd.pinned (.plain (OpenSpec.upto coreTellsSpec)) coreTellsUptoCard

/-- THE SECOND FORM's CARD OF 'greenbeltlaw27.CoreLeast'. -/
def coreLeastUptoCard : Claim7 := { stood := { row := coreLeastUptoRow, standIns := [], harness := (true, "9e9cf80370c187103ffbf5e4cb8ff2df6c519d2ece61b31242e453ee470e8dc0"), looks := false }, kinds := [], alts := [], laidByText := true, laidKinds := [.data, .data], laidTests := true, laidLooks := .later }
def CoreLeastUptoCardSaid : Prop := Claim7.holds Tryd.pinned (.plain (OpenSpec.upto coreLeastSpec)) coreLeastUptoCard

/-- THE SECOND FORM's CARD OF 'greenbeltlaw27.CoreProofs'. -/
def coreProofsUptoCard : Claim7 := { stood := { row := coreProofsUptoRow, standIns := [], harness := (true, "9e9cf80370c187103ffbf5e4cb8ff2df6c519d2ece61b31242e453ee470e8dc0"), looks := false }, kinds := [], alts := [], laidByText := true, laidKinds := [.data, .data], laidTests := true, laidLooks := .later }
def CoreProofsUptoCardSaid : Prop := Claim7.holds Tryd.pinned (.plain (OpenSpec.upto coreProofsSpec)) coreProofsUptoCard

/-- THE SECOND FORM's CARD OF 'greenbeltlaw27.CoreGrows'. -/
def coreGrowsUptoCard : Claim7 := { stood := { row := coreGrowsUptoRow, standIns := [], harness := (true, "9e9cf80370c187103ffbf5e4cb8ff2df6c519d2ece61b31242e453ee470e8dc0"), looks := false }, kinds := [], alts := [], laidByText := true, laidKinds := [.data, .data], laidTests := true, laidLooks := .later }
def CoreGrowsUptoCardSaid : Prop := Claim7.holds Tryd.pinned (.plain (OpenSpec.upto coreGrowsSpec)) coreGrowsUptoCard

/-- THE SECOND FORM's CARD OF 'greenbeltlaw27.CoreRenames'. -/
def coreRenamesUptoCard : Claim7 := { stood := { row := coreRenamesUptoRow, standIns := [], harness := (true, "9e9cf80370c187103ffbf5e4cb8ff2df6c519d2ece61b31242e453ee470e8dc0"), looks := false }, kinds := [], alts := [], laidByText := true, laidKinds := [.data, .data], laidTests := true, laidLooks := .later }
def CoreRenamesUptoCardSaid : Prop := Claim7.holds Tryd.pinned (.plain (OpenSpec.upto coreRenamesSpec)) coreRenamesUptoCard
end Rows
end Go.Proofs.YtgefjhjmkejjbaaDoor
