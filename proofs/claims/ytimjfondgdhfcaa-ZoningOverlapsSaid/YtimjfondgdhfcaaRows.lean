/-
  NARROWER THAN 'FOR EVERY INPUT', by the rows' own cells (each row's printed sentence says how): ZoningTells: loops · ZoningChooses: loops · ZoningOverlaps: loops · ZoningCells: loops · ZoningShares: loops.
  DERIVED. THE GIVEN ROWS OF THIS SEAT. 5 by the template 'for every input the law returns true; each argument reads behind the call as it read before'; 0 by the template 'total and deterministic' (their statements: YtimjfondgdhfcaaTotals.lean).
  GIVEN WITH THE SEED: the statements are not yours to turn. If you find one false, say at which input.
  Laid BY PROGRAM, IN A SANDBOX (cutbox-rows.mjs): the forced cells as the released guide's own fill.sh prints them over the translation 13e17f86f6de9baf… (all of the seat's roots in one cut). By AI agents, Wed Nov 11 2026. No macro, syntax, notation, axiom, sorry.
-/
import Derived.Test.YtimjfondgdhfcaaChecked
import GoSem.Claim
import GoSem.ClaimJoined
import GoSem.ClaimMapViews
import Derived.JoinedTies
import Derived.KernelRfl
namespace Go.Proofs.Ytimjfondgdhfcaa
/- THE CELL 'sum', in the pinned program and in every row, IS THE sha256 OF THE DUMP (.gsa) THAT YtimjfondgdhfcaaProg.lean LOADS. Nothing in Lean hashes anything: it is a label: what it is worth is what the hold of that sum in a sandbox is worth. -/
noncomputable def Try.pinned : Pinned := { name := "ytimjfondgdhfcaa", sum := "13e17f86f6de9baf10e7b82495050408c627f39259af362c8142b626118ed720", checked := Try.checked }
namespace Rows
def none {H : Type} : Left H := { results := [], args := [] }

/-- 'greenbeltlaw18.ZoningTells': WHATEVER THE INPUT: true; the input reads as it did. -/
def zoningTellsSpec : ChangeSpec := { name := "zoningTells", fn := fun _ => fun
  | [d1, d2] => { results := [.lit (.bool true)], args := [d1, d2] }
  | _ => none }
def zoningTellsRow : OpenClaim := { program := "ytimjfondgdhfcaa", sum := "13e17f86f6de9baf10e7b82495050408c627f39259af362c8142b626118ed720", func := "greenbelt/greenbeltlaw18.ZoningTells", spec := "zoningTells", unfollowed := true, recurses := true, loops := true, apart := false }
def ZoningTellsSaid : Prop := zoningTellsRow.holds Try.pinned (OpenSpec.ofChange zoningTellsSpec)

/-- ITS FALSE NEIGHBOUR: 'it returns false'. Refute it at one input. -/
def zoningTellsWrong : ChangeSpec := { name := "zoningTells", fn := fun _ => fun
  | [d1, d2] => { results := [.lit (.bool false)], args := [d1, d2] }
  | _ => none }
def ZoningTellsWrongFalsely : Prop := zoningTellsRow.holds Try.pinned (OpenSpec.ofChange zoningTellsWrong)

/-- 'greenbeltlaw18.ZoningChooses': WHATEVER THE INPUT: true; the input reads as it did. -/
def zoningChoosesSpec : ChangeSpec := { name := "zoningChooses", fn := fun _ => fun
  | [d1, d2] => { results := [.lit (.bool true)], args := [d1, d2] }
  | _ => none }
def zoningChoosesRow : OpenClaim := { program := "ytimjfondgdhfcaa", sum := "13e17f86f6de9baf10e7b82495050408c627f39259af362c8142b626118ed720", func := "greenbelt/greenbeltlaw18.ZoningChooses", spec := "zoningChooses", unfollowed := true, recurses := true, loops := true, apart := false }
def ZoningChoosesSaid : Prop := zoningChoosesRow.holds Try.pinned (OpenSpec.ofChange zoningChoosesSpec)

/-- ITS FALSE NEIGHBOUR: 'it returns false'. Refute it at one input. -/
def zoningChoosesWrong : ChangeSpec := { name := "zoningChooses", fn := fun _ => fun
  | [d1, d2] => { results := [.lit (.bool false)], args := [d1, d2] }
  | _ => none }
def ZoningChoosesWrongFalsely : Prop := zoningChoosesRow.holds Try.pinned (OpenSpec.ofChange zoningChoosesWrong)

/-- 'greenbeltlaw18.ZoningOverlaps': WHATEVER THE INPUT: true; the input reads as it did. -/
def zoningOverlapsSpec : ChangeSpec := { name := "zoningOverlaps", fn := fun _ => fun
  | [d] => { results := [.lit (.bool true)], args := [d] }
  | _ => none }
def zoningOverlapsRow : OpenClaim := { program := "ytimjfondgdhfcaa", sum := "13e17f86f6de9baf10e7b82495050408c627f39259af362c8142b626118ed720", func := "greenbelt/greenbeltlaw18.ZoningOverlaps", spec := "zoningOverlaps", unfollowed := true, recurses := true, loops := true, apart := false }
def ZoningOverlapsSaid : Prop := zoningOverlapsRow.holds Try.pinned (OpenSpec.ofChange zoningOverlapsSpec)

/-- ITS FALSE NEIGHBOUR: 'it returns false'. Refute it at one input. -/
def zoningOverlapsWrong : ChangeSpec := { name := "zoningOverlaps", fn := fun _ => fun
  | [d] => { results := [.lit (.bool false)], args := [d] }
  | _ => none }
def ZoningOverlapsWrongFalsely : Prop := zoningOverlapsRow.holds Try.pinned (OpenSpec.ofChange zoningOverlapsWrong)

/-- 'greenbeltlaw18.ZoningCells': WHATEVER THE INPUT: true; the input reads as it did. -/
def zoningCellsSpec : ChangeSpec := { name := "zoningCells", fn := fun _ => fun
  | [d1, d2, d3, d4] => { results := [.lit (.bool true)], args := [d1, d2, d3, d4] }
  | _ => none }
def zoningCellsRow : OpenClaim := { program := "ytimjfondgdhfcaa", sum := "13e17f86f6de9baf10e7b82495050408c627f39259af362c8142b626118ed720", func := "greenbelt/greenbeltlaw18.ZoningCells", spec := "zoningCells", unfollowed := true, recurses := true, loops := true, apart := false }
def ZoningCellsSaid : Prop := zoningCellsRow.holds Try.pinned (OpenSpec.ofChange zoningCellsSpec)

/-- ITS FALSE NEIGHBOUR: 'it returns false'. Refute it at one input. -/
def zoningCellsWrong : ChangeSpec := { name := "zoningCells", fn := fun _ => fun
  | [d1, d2, d3, d4] => { results := [.lit (.bool false)], args := [d1, d2, d3, d4] }
  | _ => none }
def ZoningCellsWrongFalsely : Prop := zoningCellsRow.holds Try.pinned (OpenSpec.ofChange zoningCellsWrong)

/-- 'greenbeltlaw18.ZoningShares': WHATEVER THE INPUT: true; the input reads as it did. -/
def zoningSharesSpec : ChangeSpec := { name := "zoningShares", fn := fun _ => fun
  | [d1, d2, d3] => { results := [.lit (.bool true)], args := [d1, d2, d3] }
  | _ => none }
def zoningSharesRow : OpenClaim := { program := "ytimjfondgdhfcaa", sum := "13e17f86f6de9baf10e7b82495050408c627f39259af362c8142b626118ed720", func := "greenbelt/greenbeltlaw18.ZoningShares", spec := "zoningShares", unfollowed := true, recurses := true, loops := true, apart := false }
def ZoningSharesSaid : Prop := zoningSharesRow.holds Try.pinned (OpenSpec.ofChange zoningSharesSpec)

/-- ITS FALSE NEIGHBOUR: 'it returns false'. Refute it at one input. -/
def zoningSharesWrong : ChangeSpec := { name := "zoningShares", fn := fun _ => fun
  | [d1, d2, d3] => { results := [.lit (.bool false)], args := [d1, d2, d3] }
  | _ => none }
def ZoningSharesWrongFalsely : Prop := zoningSharesRow.holds Try.pinned (OpenSpec.ofChange zoningSharesWrong)

/- THE SECOND FORM. 'bulk': how many values and letters a reading holds, each counted each time it is reached (what is shared counts as often as it is met; a slice's spare places count too). A statement '..UptoSaid' is the law's where the arguments, and the package variables that the reading takes, are together of bulk at most 1048576: NARROWER than '..Said'. Prove '..Said' where nothing that the law and all that it calls make is longer than what came in: it says more and counts as full. Else prove '..UptoSaid'. A law counts once. -/
mutual
def uptoBulk {H : Type} : DataW H → Nat
  | .lit (.string bytes) => bytes.length + 1
  | .lit _ => 1
  | .nil => 1
  | .ptr d => uptoBulk d + 1
  | .slice elems spare => uptoBulkAll elems + uptoBulkAll spare + 1
  | .agg parts => uptoBulkAll parts + 1
  | .iface _ d => uptoBulk d + 1
  | .map entries => uptoBulkEntries entries + 1
  | .held _ => 1
def uptoBulkAll {H : Type} : List (DataW H) → Nat
  | [] => 0
  | d :: r => uptoBulk d + uptoBulkAll r
def uptoBulkEntries {H : Type} : List (Lit × DataW H) → Nat
  | [] => 0
  | x :: r => uptoBulkEntry x + uptoBulkEntries r
def uptoBulkEntry {H : Type} : Lit × DataW H → Nat
  | (.string bytes, d) => bytes.length + uptoBulk d + 1
  | (_, d) => uptoBulk d + 1
 end
def uptoSmall : (H : Type) → List (DataW H) → Bool := fun _ ds => decide (uptoBulkAll ds ≤ 1048576)
def OpenSpec.upto (s : _root_.Go.ChangeSpec) : _root_.Go.OpenSpec := { _root_.Go.OpenSpec.ofChange s with cond := some uptoSmall }

/-- 'greenbeltlaw18.ZoningTells', WHERE WHAT IT READS IS OF BULK AT MOST 1048576: true; the input reads as it did. -/
def zoningTellsUptoRow : OpenClaim := { program := "ytimjfondgdhfcaa", sum := "13e17f86f6de9baf10e7b82495050408c627f39259af362c8142b626118ed720", func := "greenbelt/greenbeltlaw18.ZoningTells", spec := "zoningTells", unfollowed := true, recurses := true, loops := true, apart := false, narrowed := true }
def ZoningTellsUptoSaid : Prop := zoningTellsUptoRow.holds Try.pinned (OpenSpec.upto zoningTellsSpec)

/-- 'greenbeltlaw18.ZoningChooses', WHERE WHAT IT READS IS OF BULK AT MOST 1048576: true; the input reads as it did. -/
def zoningChoosesUptoRow : OpenClaim := { program := "ytimjfondgdhfcaa", sum := "13e17f86f6de9baf10e7b82495050408c627f39259af362c8142b626118ed720", func := "greenbelt/greenbeltlaw18.ZoningChooses", spec := "zoningChooses", unfollowed := true, recurses := true, loops := true, apart := false, narrowed := true }
def ZoningChoosesUptoSaid : Prop := zoningChoosesUptoRow.holds Try.pinned (OpenSpec.upto zoningChoosesSpec)

/-- 'greenbeltlaw18.ZoningOverlaps', WHERE WHAT IT READS IS OF BULK AT MOST 1048576: true; the input reads as it did. -/
def zoningOverlapsUptoRow : OpenClaim := { program := "ytimjfondgdhfcaa", sum := "13e17f86f6de9baf10e7b82495050408c627f39259af362c8142b626118ed720", func := "greenbelt/greenbeltlaw18.ZoningOverlaps", spec := "zoningOverlaps", unfollowed := true, recurses := true, loops := true, apart := false, narrowed := true }
def ZoningOverlapsUptoSaid : Prop := zoningOverlapsUptoRow.holds Try.pinned (OpenSpec.upto zoningOverlapsSpec)

/-- 'greenbeltlaw18.ZoningCells', WHERE WHAT IT READS IS OF BULK AT MOST 1048576: true; the input reads as it did. -/
def zoningCellsUptoRow : OpenClaim := { program := "ytimjfondgdhfcaa", sum := "13e17f86f6de9baf10e7b82495050408c627f39259af362c8142b626118ed720", func := "greenbelt/greenbeltlaw18.ZoningCells", spec := "zoningCells", unfollowed := true, recurses := true, loops := true, apart := false, narrowed := true }
def ZoningCellsUptoSaid : Prop := zoningCellsUptoRow.holds Try.pinned (OpenSpec.upto zoningCellsSpec)

/-- 'greenbeltlaw18.ZoningShares', WHERE WHAT IT READS IS OF BULK AT MOST 1048576: true; the input reads as it did. -/
def zoningSharesUptoRow : OpenClaim := { program := "ytimjfondgdhfcaa", sum := "13e17f86f6de9baf10e7b82495050408c627f39259af362c8142b626118ed720", func := "greenbelt/greenbeltlaw18.ZoningShares", spec := "zoningShares", unfollowed := true, recurses := true, loops := true, apart := false, narrowed := true }
def ZoningSharesUptoSaid : Prop := zoningSharesUptoRow.holds Try.pinned (OpenSpec.upto zoningSharesSpec)

end Rows
end Go.Proofs.Ytimjfondgdhfcaa
