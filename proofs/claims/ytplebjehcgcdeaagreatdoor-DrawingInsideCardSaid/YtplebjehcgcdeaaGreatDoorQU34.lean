/-
 Chapter 19: the statement about drawings inside of a lot, as a tied card. By which it goes. Conditions: none.
-/
import Derived.Test.YtplebjehcgcdeaaGreatDoorCards
import Derived.Test.YtplebjehcgcdeaaGreatDoorTie
import Derived.Test.YtplebjehcgcdeaaGreatDoorQU32
namespace Go.Proofs.YtplebjehcgcdeaaGreatDoor
open Go Go.RowKit Go.ChangeShapes Go.Proofs.YtplebjehcgcdeaaGreatDoor.Bm
set_option maxRecDepth 100000 in
theorem cg8:false=Rows.drawingInsideRow.goesBy Tryz.pinned.checked.prog:=by kernel_rfl
end Go.Proofs.YtplebjehcgcdeaaGreatDoor
