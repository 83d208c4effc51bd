/-
 Chapter 19: the statement about encodings, as a tied card. The card. Conditions: none.
-/
import Derived.Test.YtplebjehcgcdeaaGreatDoorCards
import Derived.Test.YtplebjehcgcdeaaGreatDoorTie
import Derived.Test.YtplebjehcgcdeaaGreatDoorQT29
import Derived.Test.YtplebjehcgcdeaaGreatDoorQT30
namespace Go.Proofs.YtplebjehcgcdeaaGreatDoor
open Go Go.RowKit Go.ChangeShapes Go.Proofs.YtplebjehcgcdeaaGreatDoor.Bm
set_option maxRecDepth 100000 in
theorem cw5:Rows.drawingBackRow.wfByText (OpenSpec.ofChange Rows.drawingBackSpec)=true:=by kernel_rfl
set_option maxRecDepth 100000 in
theorem cm5 : Tryz.pinned.checked.prog.mainIs = some (true, "b4bfb9393c54f03ea2fab72da3e8d751103f9cd31728bf849eddaf80237db9da".toList) := by kernel_rfl
set_option maxRecDepth 100000 in
theorem cl5:true=Tryz.pinned.checked.prog.looks []:=by kernel_rfl
set_option maxRecDepth 100000 in
theorem cf5 : Tryz.prog.funcNamed "greenbelt/greenbeltlaw19.DrawingBack" = some 5 := by kernel_rfl
set_option maxRecDepth 100000 in
theorem cs5:([37,37].all fun u=>!Tryz.prog.wantsStandIn u)=true:=by kernel_rfl
theorem drawingBack_holds:Rows.DrawingBackCardSaid :=
 Claim7.holds_tied_plain_at .later [] [.data, .data, .data, .sentinel, .sentinel] true (true, "b4bfb9393c54f03ea2fab72da3e8d751103f9cd31728bf849eddaf80237db9da") true
  drawingBack_row (fun _ h=>by cases h) cw5 (fun _ h=>by cases h) drawingBack_row_tie rfl ⟨rfl,rfl⟩ cm5 rfl
  (fun f fn hf hfn=>by
   obtain rfl:f=5:=Option.some.inj (cf5.symm.trans hf) |>.symm
   obtain rfl:fn=Tryz.f5:=(Option.some.inj (Tryz.func5.symm.trans hfn)).symm
   exact ⟨cl5,fun j t ht=>by
    rw [pr5] at ht
    have hm:t∈[37,37]:=by simpa using Array.mem_of_getElem? ht
    have hall:([37,37].all fun u=>!Tryz.prog.wantsStandIn u)=true:=cs5
    exact (show Tryz.prog.wantsStandIn t=false by simpa using List.all_eq_true.1 hall t hm)⟩)
  cg5
end Go.Proofs.YtplebjehcgcdeaaGreatDoor
