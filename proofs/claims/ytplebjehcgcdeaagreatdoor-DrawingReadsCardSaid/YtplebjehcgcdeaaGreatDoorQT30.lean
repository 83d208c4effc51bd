/-
 Chapter 19: the statement about strings that both readers read, as a tied card. Facts of its row. Conditions: none.
-/
import Derived.Test.YtplebjehcgcdeaaGreatDoorCards
import Derived.Test.YtplebjehcgcdeaaGreatDoorTie
import Derived.Test.YtplebjehcgcdeaaGreatDoorQT25
namespace Go.Proofs.YtplebjehcgcdeaaGreatDoor
open Go Go.RowKit Go.ChangeShapes Go.Proofs.YtplebjehcgcdeaaGreatDoor.Bm
set_option maxRecDepth 100000 in
theorem jf4_inPlace:(Rows.drawingReadsRow.inPlace == Tryz.pinned.checked.prog.inPlace 4)=true:=by kernel_rfl
set_option maxRecDepth 100000 in
theorem jf4_unfollowed:(Rows.drawingReadsRow.unfollowed == Tryz.pinned.checked.prog.unfollowed 4)=true:=by kernel_rfl
set_option maxRecDepth 100000 in
theorem jf4_recurses:(Rows.drawingReadsRow.recurses == Tryz.pinned.checked.prog.recurses 4)=true:=by kernel_rfl
set_option maxRecDepth 100000 in
theorem jf4_named:(Rows.drawingReadsRow.named == Tryz.pinned.checked.prog.varsNamed 4)=true:=by kernel_rfl
set_option maxRecDepth 100000 in
theorem jf4:joinedFacts Tryz.pinned.checked.prog 4 Tryz.f4 Rows.drawingReadsSpec Rows.drawingReadsRow=true:=by
 unfold joinedFacts
 rw [jf4_inPlace,jf4_unfollowed,jf4_recurses,jf4_named]
 kernel_rfl
end Go.Proofs.YtplebjehcgcdeaaGreatDoor
