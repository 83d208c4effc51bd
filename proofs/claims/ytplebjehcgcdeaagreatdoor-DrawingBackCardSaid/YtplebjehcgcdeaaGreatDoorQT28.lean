/-
 Chapter 19: the statement about strings that are accepted, as a tied card. Facts of its row. Conditions: none.
-/
import Derived.Test.YtplebjehcgcdeaaGreatDoorCards
import Derived.Test.YtplebjehcgcdeaaGreatDoorTie
import Derived.Test.YtplebjehcgcdeaaGreatDoorQT25
namespace Go.Proofs.YtplebjehcgcdeaaGreatDoor
open Go Go.RowKit Go.ChangeShapes Go.Proofs.YtplebjehcgcdeaaGreatDoor.Bm
set_option maxRecDepth 100000 in
theorem jf6_inPlace : (Rows.drawingCanonicalRow.inPlace == Tryz.pinned.checked.prog.inPlace 6) = true := by kernel_rfl
set_option maxRecDepth 100000 in
theorem jf6_unfollowed : (Rows.drawingCanonicalRow.unfollowed == Tryz.pinned.checked.prog.unfollowed 6) = true := by kernel_rfl
set_option maxRecDepth 100000 in
theorem jf6_recurses : (Rows.drawingCanonicalRow.recurses == Tryz.pinned.checked.prog.recurses 6) = true := by kernel_rfl
set_option maxRecDepth 100000 in
theorem jf6_named : (Rows.drawingCanonicalRow.named == Tryz.pinned.checked.prog.varsNamed 6) = true := by kernel_rfl
set_option maxRecDepth 100000 in
theorem jf6 : joinedFacts Tryz.pinned.checked.prog 6 Tryz.f6 Rows.drawingCanonicalSpec Rows.drawingCanonicalRow = true := by
 unfold joinedFacts
 rw [jf6_inPlace, jf6_unfollowed, jf6_recurses, jf6_named]
 kernel_rfl
end Go.Proofs.YtplebjehcgcdeaaGreatDoor
