/-
 Chapter 19: the statement about encodings, as a tied card. Facts of its row. Conditions: none.
-/
import Derived.Test.YtplebjehcgcdeaaGreatDoorCards
import Derived.Test.YtplebjehcgcdeaaGreatDoorTie
import Derived.Test.YtplebjehcgcdeaaGreatDoorQT25
namespace Go.Proofs.YtplebjehcgcdeaaGreatDoor
open Go Go.RowKit Go.ChangeShapes Go.Proofs.YtplebjehcgcdeaaGreatDoor.Bm
set_option maxRecDepth 100000 in
theorem jf5_inPlace:(Rows.drawingBackRow.inPlace == Tryz.pinned.checked.prog.inPlace 5)=true:=by kernel_rfl
set_option maxRecDepth 100000 in
theorem jf5_unfollowed:(Rows.drawingBackRow.unfollowed == Tryz.pinned.checked.prog.unfollowed 5)=true:=by kernel_rfl
set_option maxRecDepth 100000 in
theorem jf5_recurses:(Rows.drawingBackRow.recurses == Tryz.pinned.checked.prog.recurses 5)=true:=by kernel_rfl
set_option maxRecDepth 100000 in
theorem jf5_named:(Rows.drawingBackRow.named == Tryz.pinned.checked.prog.varsNamed 5)=true:=by kernel_rfl
set_option maxRecDepth 100000 in
theorem jf5:joinedFacts Tryz.pinned.checked.prog 5 Tryz.f5 Rows.drawingBackSpec Rows.drawingBackRow=true:=by
 unfold joinedFacts
 rw [jf5_inPlace,jf5_unfollowed,jf5_recurses,jf5_named]
 kernel_rfl
end Go.Proofs.YtplebjehcgcdeaaGreatDoor
