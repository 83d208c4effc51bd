/-
 Chapter 19: the statement about drawings inside of a lot, as a tied card. Facts of its row. Conditions: none.
-/
import Derived.Test.YtplebjehcgcdeaaGreatDoorCards
import Derived.Test.YtplebjehcgcdeaaGreatDoorTie
import Derived.Test.YtplebjehcgcdeaaGreatDoorQU24
namespace Go.Proofs.YtplebjehcgcdeaaGreatDoor
open Go Go.RowKit Go.ChangeShapes Go.Proofs.YtplebjehcgcdeaaGreatDoor.Bm
set_option maxRecDepth 100000 in
theorem jf8_inPlace:(Rows.drawingInsideRow.inPlace == Tryz.pinned.checked.prog.inPlace 8)=true:=by kernel_rfl
set_option maxRecDepth 100000 in
theorem jf8_unfollowed:(Rows.drawingInsideRow.unfollowed == Tryz.pinned.checked.prog.unfollowed 8)=true:=by kernel_rfl
set_option maxRecDepth 100000 in
theorem jf8_recurses:(Rows.drawingInsideRow.recurses == Tryz.pinned.checked.prog.recurses 8)=true:=by kernel_rfl
set_option maxRecDepth 100000 in
theorem jf8_named:(Rows.drawingInsideRow.named == Tryz.pinned.checked.prog.varsNamed 8)=true:=by kernel_rfl
set_option maxRecDepth 100000 in
theorem jf8:joinedFacts Tryz.pinned.checked.prog 8 Tryz.f8 Rows.drawingInsideSpec Rows.drawingInsideRow=true:=by
 unfold joinedFacts
 rw [jf8_inPlace,jf8_unfollowed,jf8_recurses,jf8_named]
 kernel_rfl
end Go.Proofs.YtplebjehcgcdeaaGreatDoor
