/-
 Chapter 19: the statement about strings that both readers read, as a tied card. By which it goes. Conditions: none.
-/
import Derived.Test.YtplebjehcgcdeaaGreatDoorCards
import Derived.Test.YtplebjehcgcdeaaGreatDoorTie
import Derived.Test.YtplebjehcgcdeaaGreatDoorQT30
namespace Go.Proofs.YtplebjehcgcdeaaGreatDoor
open Go Go.RowKit Go.ChangeShapes Go.Proofs.YtplebjehcgcdeaaGreatDoor.Bm
set_option maxRecDepth 100000 in
theorem cg4:false=Rows.drawingReadsRow.goesBy Tryz.pinned.checked.prog:=by kernel_rfl
end Go.Proofs.YtplebjehcgcdeaaGreatDoor
