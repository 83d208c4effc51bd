/-
 Chapter 19: the statement about strings that both readers read, as a tied card. The card. Conditions: none.
-/
import Derived.Test.YtplebjehcgcdeaaGreatDoorCards
import Derived.Test.YtplebjehcgcdeaaGreatDoorTie
import Derived.Test.YtplebjehcgcdeaaGreatDoorQT31
import Derived.Test.YtplebjehcgcdeaaGreatDoorQT32
namespace Go.Proofs.YtplebjehcgcdeaaGreatDoor
open Go Go.RowKit Go.ChangeShapes Go.Proofs.YtplebjehcgcdeaaGreatDoor.Bm
set_option maxRecDepth 100000 in
theorem cw4:Rows.drawingReadsRow.wfByText (OpenSpec.ofChange Rows.drawingReadsSpec)=true:=by kernel_rfl
set_option maxRecDepth 100000 in
theorem cm4 : Tryz.pinned.checked.prog.mainIs = some (true, "b4bfb9393c54f03ea2fab72da3e8d751103f9cd31728bf849eddaf80237db9da".toList) := by kernel_rfl
set_option maxRecDepth 100000 in
theorem cl4:true=Tryz.pinned.checked.prog.looks []:=by kernel_rfl
set_option maxRecDepth 100000 in
theorem cf4 : Tryz.prog.funcNamed "greenbelt/greenbeltlaw19.DrawingReads" = some 4 := by kernel_rfl
set_option maxRecDepth 100000 in
theorem cs4:([9].all fun u=>!Tryz.prog.wantsStandIn u)=true:=by kernel_rfl
theorem drawingReads_holds:Rows.DrawingReadsCardSaid :=
 Claim7.holds_tied_plain_at .later [] [.data, .data, .data, .sentinel, .sentinel] true (true, "b4bfb9393c54f03ea2fab72da3e8d751103f9cd31728bf849eddaf80237db9da") true
  drawingReads_row (fun _ h=>by cases h) cw4 (fun _ h=>by cases h) drawingReads_row_tie rfl ⟨rfl,rfl⟩ cm4 rfl
  (fun f fn hf hfn=>by
   obtain rfl:f=4:=Option.some.inj (cf4.symm.trans hf) |>.symm
   obtain rfl:fn=Tryz.f4:=(Option.some.inj (Tryz.func4.symm.trans hfn)).symm
   exact ⟨cl4,fun j t ht=>by
    rw [pr4] at ht
    have hm:t∈[9]:=by simpa using Array.mem_of_getElem? ht
    have hall:([9].all fun u=>!Tryz.prog.wantsStandIn u)=true:=cs4
    exact (show Tryz.prog.wantsStandIn t=false by simpa using List.all_eq_true.1 hall t hm)⟩)
  cg4
end Go.Proofs.YtplebjehcgcdeaaGreatDoor
