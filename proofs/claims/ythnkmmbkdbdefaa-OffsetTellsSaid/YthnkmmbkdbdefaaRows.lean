/-
  No cell of these rows narrows 'for every input' (looked for: loops, veiled, ifaces, maps, wideKeys, modest, calm, conditions, laid).
  DERIVED. THE GIVEN ROWS OF THIS SEAT. 6 by the template 'for every input the law returns true; each argument reads behind the call as it read before'; 0 by the template 'total and deterministic' (their statements: YthnkmmbkdbdefaaTotals.lean).
  GIVEN WITH THE SEED: the statements are not yours to turn. If you find one false, say at which input.
  Laid BY PROGRAM, IN A SANDBOX (cutbox-rows.mjs): the forced cells as the released guide's own fill.sh prints them over the translation f7ef35d93cfbac95… (all of the seat's roots in one cut). By AI agents, Wed Nov 11 2026. No macro, syntax, notation, axiom, sorry.
-/
import Derived.Test.YthnkmmbkdbdefaaChecked
import GoSem.Claim
import GoSem.ClaimJoined
import GoSem.ClaimMapViews
import Derived.JoinedTies
import Derived.KernelRfl
namespace Go.Proofs.Ythnkmmbkdbdefaa
/- THE CELL 'sum', in the pinned program and in every row, IS THE sha256 OF THE DUMP (.gsa) THAT YthnkmmbkdbdefaaProg.lean LOADS. Nothing in Lean hashes anything: it is a label: what it is worth is what the hold of that sum in a sandbox is worth. -/
noncomputable def Try.pinned : Pinned := { name := "ythnkmmbkdbdefaa", sum := "f7ef35d93cfbac95314397ec341500675ecbe6490c7b92dd339f707c3260ae18", checked := Try.checked }
namespace Rows
def none {H : Type} : Left H := { results := [], args := [] }

/-- 'greenbeltlaw08.OffsetTells': WHATEVER THE INPUT: true; the input reads as it did. -/
def offsetTellsSpec : ChangeSpec := { name := "offsetTells", fn := fun _ => fun
  | [d1, d2, d3, d4] => { results := [.lit (.bool true)], args := [d1, d2, d3, d4] }
  | _ => none }
def offsetTellsRow : OpenClaim := { program := "ythnkmmbkdbdefaa", sum := "f7ef35d93cfbac95314397ec341500675ecbe6490c7b92dd339f707c3260ae18", func := "greenbelt/greenbeltlaw08.OffsetTells", spec := "offsetTells", unfollowed := true, recurses := true, apart := false }
def OffsetTellsSaid : Prop := offsetTellsRow.holds Try.pinned (OpenSpec.ofChange offsetTellsSpec)

/-- ITS FALSE NEIGHBOUR: 'it returns false'. Refute it at one input. -/
def offsetTellsWrong : ChangeSpec := { name := "offsetTells", fn := fun _ => fun
  | [d1, d2, d3, d4] => { results := [.lit (.bool false)], args := [d1, d2, d3, d4] }
  | _ => none }
def OffsetTellsWrongFalsely : Prop := offsetTellsRow.holds Try.pinned (OpenSpec.ofChange offsetTellsWrong)

/-- 'greenbeltlaw08.OffsetCells': WHATEVER THE INPUT: true; the input reads as it did. -/
def offsetCellsSpec : ChangeSpec := { name := "offsetCells", fn := fun _ => fun
  | [d1, d2, d3, d4] => { results := [.lit (.bool true)], args := [d1, d2, d3, d4] }
  | _ => none }
def offsetCellsRow : OpenClaim := { program := "ythnkmmbkdbdefaa", sum := "f7ef35d93cfbac95314397ec341500675ecbe6490c7b92dd339f707c3260ae18", func := "greenbelt/greenbeltlaw08.OffsetCells", spec := "offsetCells", unfollowed := true, recurses := true, apart := false }
def OffsetCellsSaid : Prop := offsetCellsRow.holds Try.pinned (OpenSpec.ofChange offsetCellsSpec)

/-- ITS FALSE NEIGHBOUR: 'it returns false'. Refute it at one input. -/
def offsetCellsWrong : ChangeSpec := { name := "offsetCells", fn := fun _ => fun
  | [d1, d2, d3, d4] => { results := [.lit (.bool false)], args := [d1, d2, d3, d4] }
  | _ => none }
def OffsetCellsWrongFalsely : Prop := offsetCellsRow.holds Try.pinned (OpenSpec.ofChange offsetCellsWrong)

/-- 'greenbeltlaw08.OffsetAdds': WHATEVER THE INPUT: true; the input reads as it did. -/
def offsetAddsSpec : ChangeSpec := { name := "offsetAdds", fn := fun _ => fun
  | [d1, d2, d3] => { results := [.lit (.bool true)], args := [d1, d2, d3] }
  | _ => none }
def offsetAddsRow : OpenClaim := { program := "ythnkmmbkdbdefaa", sum := "f7ef35d93cfbac95314397ec341500675ecbe6490c7b92dd339f707c3260ae18", func := "greenbelt/greenbeltlaw08.OffsetAdds", spec := "offsetAdds", unfollowed := true, recurses := true, apart := false }
def OffsetAddsSaid : Prop := offsetAddsRow.holds Try.pinned (OpenSpec.ofChange offsetAddsSpec)

/-- ITS FALSE NEIGHBOUR: 'it returns false'. Refute it at one input. -/
def offsetAddsWrong : ChangeSpec := { name := "offsetAdds", fn := fun _ => fun
  | [d1, d2, d3] => { results := [.lit (.bool false)], args := [d1, d2, d3] }
  | _ => none }
def OffsetAddsWrongFalsely : Prop := offsetAddsRow.holds Try.pinned (OpenSpec.ofChange offsetAddsWrong)

/-- 'greenbeltlaw08.OffsetAdjoint': WHATEVER THE INPUT: true; the input reads as it did. -/
def offsetAdjointSpec : ChangeSpec := { name := "offsetAdjoint", fn := fun _ => fun
  | [d1, d2, d3] => { results := [.lit (.bool true)], args := [d1, d2, d3] }
  | _ => none }
def offsetAdjointRow : OpenClaim := { program := "ythnkmmbkdbdefaa", sum := "f7ef35d93cfbac95314397ec341500675ecbe6490c7b92dd339f707c3260ae18", func := "greenbelt/greenbeltlaw08.OffsetAdjoint", spec := "offsetAdjoint", unfollowed := true, recurses := true, apart := false }
def OffsetAdjointSaid : Prop := offsetAdjointRow.holds Try.pinned (OpenSpec.ofChange offsetAdjointSpec)

/-- ITS FALSE NEIGHBOUR: 'it returns false'. Refute it at one input. -/
def offsetAdjointWrong : ChangeSpec := { name := "offsetAdjoint", fn := fun _ => fun
  | [d1, d2, d3] => { results := [.lit (.bool false)], args := [d1, d2, d3] }
  | _ => none }
def OffsetAdjointWrongFalsely : Prop := offsetAdjointRow.holds Try.pinned (OpenSpec.ofChange offsetAdjointWrong)

/-- 'greenbeltlaw08.OffsetGaps': WHATEVER THE INPUT: true; the input reads as it did. -/
def offsetGapsSpec : ChangeSpec := { name := "offsetGaps", fn := fun _ => fun
  | [d1, d2, d3] => { results := [.lit (.bool true)], args := [d1, d2, d3] }
  | _ => none }
def offsetGapsRow : OpenClaim := { program := "ythnkmmbkdbdefaa", sum := "f7ef35d93cfbac95314397ec341500675ecbe6490c7b92dd339f707c3260ae18", func := "greenbelt/greenbeltlaw08.OffsetGaps", spec := "offsetGaps", unfollowed := true, recurses := true, apart := false }
def OffsetGapsSaid : Prop := offsetGapsRow.holds Try.pinned (OpenSpec.ofChange offsetGapsSpec)

/-- ITS FALSE NEIGHBOUR: 'it returns false'. Refute it at one input. -/
def offsetGapsWrong : ChangeSpec := { name := "offsetGaps", fn := fun _ => fun
  | [d1, d2, d3] => { results := [.lit (.bool false)], args := [d1, d2, d3] }
  | _ => none }
def OffsetGapsWrongFalsely : Prop := offsetGapsRow.holds Try.pinned (OpenSpec.ofChange offsetGapsWrong)

/-- 'greenbeltlaw08.OffsetNear': WHATEVER THE INPUT: true; the input reads as it did. -/
def offsetNearSpec : ChangeSpec := { name := "offsetNear", fn := fun _ => fun
  | [d1, d2, d3, d4] => { results := [.lit (.bool true)], args := [d1, d2, d3, d4] }
  | _ => none }
def offsetNearRow : OpenClaim := { program := "ythnkmmbkdbdefaa", sum := "f7ef35d93cfbac95314397ec341500675ecbe6490c7b92dd339f707c3260ae18", func := "greenbelt/greenbeltlaw08.OffsetNear", spec := "offsetNear", unfollowed := true, recurses := true, apart := false }
def OffsetNearSaid : Prop := offsetNearRow.holds Try.pinned (OpenSpec.ofChange offsetNearSpec)

/-- ITS FALSE NEIGHBOUR: 'it returns false'. Refute it at one input. -/
def offsetNearWrong : ChangeSpec := { name := "offsetNear", fn := fun _ => fun
  | [d1, d2, d3, d4] => { results := [.lit (.bool false)], args := [d1, d2, d3, d4] }
  | _ => none }
def OffsetNearWrongFalsely : Prop := offsetNearRow.holds Try.pinned (OpenSpec.ofChange offsetNearWrong)

/- THE SECOND FORM. 'bulk': how many values and letters a reading holds, each counted each time it is reached (what is shared counts as often as it is met; a slice's spare places count too). A statement '..UptoSaid' is the law's where the arguments, and the package variables that the reading takes, are together of bulk at most 1048576: NARROWER than '..Said'. Prove '..Said' where nothing that the law and all that it calls make is longer than what came in: it says more and counts as full. Else prove '..UptoSaid'. A law counts once. -/
mutual
def uptoBulk {H : Type} : DataW H → Nat
  | .lit (.string bytes) => bytes.length + 1
  | .lit _ => 1
  | .nil => 1
  | .ptr d => uptoBulk d + 1
  | .slice elems spare => uptoBulkAll elems + uptoBulkAll spare + 1
  | .agg parts => uptoBulkAll parts + 1
  | .iface _ d => uptoBulk d + 1
  | .map entries => uptoBulkEntries entries + 1
  | .held _ => 1
def uptoBulkAll {H : Type} : List (DataW H) → Nat
  | [] => 0
  | d :: r => uptoBulk d + uptoBulkAll r
def uptoBulkEntries {H : Type} : List (Lit × DataW H) → Nat
  | [] => 0
  | x :: r => uptoBulkEntry x + uptoBulkEntries r
def uptoBulkEntry {H : Type} : Lit × DataW H → Nat
  | (.string bytes, d) => bytes.length + uptoBulk d + 1
  | (_, d) => uptoBulk d + 1
 end
def uptoSmall : (H : Type) → List (DataW H) → Bool := fun _ ds => decide (uptoBulkAll ds ≤ 1048576)
def OpenSpec.upto (s : _root_.Go.ChangeSpec) : _root_.Go.OpenSpec := { _root_.Go.OpenSpec.ofChange s with cond := some uptoSmall }

/-- 'greenbeltlaw08.OffsetTells', WHERE WHAT IT READS IS OF BULK AT MOST 1048576: true; the input reads as it did. -/
def offsetTellsUptoRow : OpenClaim := { program := "ythnkmmbkdbdefaa", sum := "f7ef35d93cfbac95314397ec341500675ecbe6490c7b92dd339f707c3260ae18", func := "greenbelt/greenbeltlaw08.OffsetTells", spec := "offsetTells", unfollowed := true, recurses := true, apart := false, narrowed := true }
def OffsetTellsUptoSaid : Prop := offsetTellsUptoRow.holds Try.pinned (OpenSpec.upto offsetTellsSpec)

/-- 'greenbeltlaw08.OffsetCells', WHERE WHAT IT READS IS OF BULK AT MOST 1048576: true; the input reads as it did. -/
def offsetCellsUptoRow : OpenClaim := { program := "ythnkmmbkdbdefaa", sum := "f7ef35d93cfbac95314397ec341500675ecbe6490c7b92dd339f707c3260ae18", func := "greenbelt/greenbeltlaw08.OffsetCells", spec := "offsetCells", unfollowed := true, recurses := true, apart := false, narrowed := true }
def OffsetCellsUptoSaid : Prop := offsetCellsUptoRow.holds Try.pinned (OpenSpec.upto offsetCellsSpec)

/-- 'greenbeltlaw08.OffsetAdds', WHERE WHAT IT READS IS OF BULK AT MOST 1048576: true; the input reads as it did. -/
def offsetAddsUptoRow : OpenClaim := { program := "ythnkmmbkdbdefaa", sum := "f7ef35d93cfbac95314397ec341500675ecbe6490c7b92dd339f707c3260ae18", func := "greenbelt/greenbeltlaw08.OffsetAdds", spec := "offsetAdds", unfollowed := true, recurses := true, apart := false, narrowed := true }
def OffsetAddsUptoSaid : Prop := offsetAddsUptoRow.holds Try.pinned (OpenSpec.upto offsetAddsSpec)

/-- 'greenbeltlaw08.OffsetAdjoint', WHERE WHAT IT READS IS OF BULK AT MOST 1048576: true; the input reads as it did. -/
def offsetAdjointUptoRow : OpenClaim := { program := "ythnkmmbkdbdefaa", sum := "f7ef35d93cfbac95314397ec341500675ecbe6490c7b92dd339f707c3260ae18", func := "greenbelt/greenbeltlaw08.OffsetAdjoint", spec := "offsetAdjoint", unfollowed := true, recurses := true, apart := false, narrowed := true }
def OffsetAdjointUptoSaid : Prop := offsetAdjointUptoRow.holds Try.pinned (OpenSpec.upto offsetAdjointSpec)

/-- 'greenbeltlaw08.OffsetGaps', WHERE WHAT IT READS IS OF BULK AT MOST 1048576: true; the input reads as it did. -/
def offsetGapsUptoRow : OpenClaim := { program := "ythnkmmbkdbdefaa", sum := "f7ef35d93cfbac95314397ec341500675ecbe6490c7b92dd339f707c3260ae18", func := "greenbelt/greenbeltlaw08.OffsetGaps", spec := "offsetGaps", unfollowed := true, recurses := true, apart := false, narrowed := true }
def OffsetGapsUptoSaid : Prop := offsetGapsUptoRow.holds Try.pinned (OpenSpec.upto offsetGapsSpec)

/-- 'greenbeltlaw08.OffsetNear', WHERE WHAT IT READS IS OF BULK AT MOST 1048576: true; the input reads as it did. -/
def offsetNearUptoRow : OpenClaim := { program := "ythnkmmbkdbdefaa", sum := "f7ef35d93cfbac95314397ec341500675ecbe6490c7b92dd339f707c3260ae18", func := "greenbelt/greenbeltlaw08.OffsetNear", spec := "offsetNear", unfollowed := true, recurses := true, apart := false, narrowed := true }
def OffsetNearUptoSaid : Prop := offsetNearUptoRow.holds Try.pinned (OpenSpec.upto offsetNearSpec)

end Rows
end Go.Proofs.Ythnkmmbkdbdefaa
