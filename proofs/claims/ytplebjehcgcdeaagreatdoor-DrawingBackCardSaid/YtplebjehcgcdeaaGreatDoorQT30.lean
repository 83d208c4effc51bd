/-
 Chapter 19: the statement about encodings, as a tied card. By which it goes. Conditions: none.
-/
import Derived.Test.YtplebjehcgcdeaaGreatDoorCards
import Derived.Test.YtplebjehcgcdeaaGreatDoorTie
import Derived.Test.YtplebjehcgcdeaaGreatDoorQT28
namespace Go.Proofs.YtplebjehcgcdeaaGreatDoor
open Go Go.RowKit Go.ChangeShapes Go.Proofs.YtplebjehcgcdeaaGreatDoor.Bm
set_option maxRecDepth 100000 in
theorem cg5:false=Rows.drawingBackRow.goesBy Tryz.pinned.checked.prog:=by kernel_rfl
end Go.Proofs.YtplebjehcgcdeaaGreatDoor
