/-
 Chapter 19: the statement about drawings inside of a lot, as a tied card. The card. Conditions: none.
-/
import Derived.Test.YtplebjehcgcdeaaGreatDoorCards
import Derived.Test.YtplebjehcgcdeaaGreatDoorTie
import Derived.Test.YtplebjehcgcdeaaGreatDoorQU33
import Derived.Test.YtplebjehcgcdeaaGreatDoorQU34
namespace Go.Proofs.YtplebjehcgcdeaaGreatDoor
open Go Go.RowKit Go.ChangeShapes Go.Proofs.YtplebjehcgcdeaaGreatDoor.Bm
set_option maxRecDepth 100000 in
theorem cw8:Rows.drawingInsideRow.wfByText (OpenSpec.ofChange Rows.drawingInsideSpec)=true:=by kernel_rfl
set_option maxRecDepth 100000 in
theorem cm8 : Tryz.pinned.checked.prog.mainIs = some (true, "b4bfb9393c54f03ea2fab72da3e8d751103f9cd31728bf849eddaf80237db9da".toList) := by kernel_rfl
set_option maxRecDepth 100000 in
theorem cl8:true=Tryz.pinned.checked.prog.looks []:=by kernel_rfl
set_option maxRecDepth 100000 in
theorem cf8 : Tryz.prog.funcNamed "greenbelt/greenbeltlaw19.DrawingInside" = some 8 := by kernel_rfl
set_option maxRecDepth 100000 in
theorem cs8:([30,34,37,56].all fun u=>!Tryz.prog.wantsStandIn u)=true:=by kernel_rfl
theorem drawingInside_holds:Rows.DrawingInsideCardSaid :=
 Claim7.holds_tied_plain_at .later [] [.data, .data, .data, .sentinel, .sentinel] true (true, "b4bfb9393c54f03ea2fab72da3e8d751103f9cd31728bf849eddaf80237db9da") true
  drawingInside_row (fun _ h=>by cases h) cw8 (fun _ h=>by cases h) drawingInside_row_tie rfl ⟨rfl,rfl⟩ cm8 rfl
  (fun f fn hf hfn=>by
   obtain rfl:f=8:=Option.some.inj (cf8.symm.trans hf) |>.symm
   obtain rfl:fn=Tryz.f8:=(Option.some.inj (Tryz.func8.symm.trans hfn)).symm
   exact ⟨cl8,fun j t ht=>by
    rw [pr8] at ht
    have hm:t∈[30,34,37,56]:=by simpa using Array.mem_of_getElem? ht
    have hall:([30,34,37,56].all fun u=>!Tryz.prog.wantsStandIn u)=true:=cs8
    exact (show Tryz.prog.wantsStandIn t=false by simpa using List.all_eq_true.1 hall t hm)⟩)
  cg8
end Go.Proofs.YtplebjehcgcdeaaGreatDoor
