/-
 Chapter 19: the statement about strings that are accepted, as a tied card. The card. Conditions: none.
-/
import Derived.Test.YtplebjehcgcdeaaGreatDoorCards
import Derived.Test.YtplebjehcgcdeaaGreatDoorTie
import Derived.Test.YtplebjehcgcdeaaGreatDoorQT29
import Derived.Test.YtplebjehcgcdeaaGreatDoorQT30
namespace Go.Proofs.YtplebjehcgcdeaaGreatDoor
open Go Go.RowKit Go.ChangeShapes Go.Proofs.YtplebjehcgcdeaaGreatDoor.Bm
set_option maxRecDepth 100000 in
theorem cw6 : Rows.drawingCanonicalRow.wfByText (OpenSpec.ofChange Rows.drawingCanonicalSpec) = true := by kernel_rfl
set_option maxRecDepth 100000 in
theorem cm6 : Tryz.pinned.checked.prog.mainIs = some (true, "b4bfb9393c54f03ea2fab72da3e8d751103f9cd31728bf849eddaf80237db9da".toList) := by kernel_rfl
set_option maxRecDepth 100000 in
theorem cl6 : true = Tryz.pinned.checked.prog.looks [] := by kernel_rfl
set_option maxRecDepth 100000 in
theorem cf6 : Tryz.prog.funcNamed "greenbelt/greenbeltlaw19.DrawingCanonical" = some 6 := by kernel_rfl
set_option maxRecDepth 100000 in
theorem cs6 : ([9].all fun u => !Tryz.prog.wantsStandIn u) = true := by kernel_rfl
theorem drawingCanonical_holds : Rows.DrawingCanonicalCardSaid :=
 Claim7.holds_tied_plain_at .later [] [.data, .data, .data, .sentinel, .sentinel] true (true, "b4bfb9393c54f03ea2fab72da3e8d751103f9cd31728bf849eddaf80237db9da") true
  drawingCanonical_row (fun _ h => by cases h) cw6 (fun _ h => by cases h) drawingCanonical_row_tie rfl ⟨rfl, rfl⟩ cm6 rfl
  (fun f fn hf hfn => by
   obtain rfl : f = 6 := Option.some.inj (cf6.symm.trans hf) |>.symm
   obtain rfl : fn = Tryz.f6 := (Option.some.inj (Tryz.func6.symm.trans hfn)).symm
   exact ⟨cl6, fun j t ht => by
    rw [pr6] at ht
    have hm : t ∈ [9] := by simpa using Array.mem_of_getElem? ht
    have hall : ([9].all fun u => !Tryz.prog.wantsStandIn u) = true := cs6
    exact (show Tryz.prog.wantsStandIn t = false by simpa using List.all_eq_true.1 hall t hm)⟩)
  cg6
end Go.Proofs.YtplebjehcgcdeaaGreatDoor
