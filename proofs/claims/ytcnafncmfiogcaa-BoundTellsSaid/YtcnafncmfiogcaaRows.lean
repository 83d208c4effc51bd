/-
  No cell of these rows narrows 'for every input' (looked for: loops, veiled, ifaces, maps, wideKeys, modest, calm, conditions, laid).
  DERIVED. THE GIVEN ROWS OF THIS SEAT. 9 by the template 'for every input the law returns true; each argument reads behind the call as it read before'; 0 by the template 'total and deterministic' (their statements: YtcnafncmfiogcaaTotals.lean).
  GIVEN WITH THE SEED: the statements are not yours to turn. If you find one false, say at which input.
  Laid BY PROGRAM, IN A SANDBOX (cutbox-rows.mjs): the forced cells as the released guide's own fill.sh prints them over the translation 51a2453f25b067d1… (all of the seat's roots in one cut). By AI agents, Wed Nov 11 2026. No macro, syntax, notation, axiom, sorry.
-/
import Derived.Test.YtcnafncmfiogcaaChecked
import GoSem.Claim
import GoSem.ClaimJoined
import GoSem.ClaimMapViews
import Derived.JoinedTies
import Derived.KernelRfl
namespace Go.Proofs.Ytcnafncmfiogcaa
/- THE CELL 'sum', in the pinned program and in every row, IS THE sha256 OF THE DUMP (.gsa) THAT YtcnafncmfiogcaaProg.lean LOADS. Nothing in Lean hashes anything: it is a label: what it is worth is what the hold of that sum in a sandbox is worth. -/
noncomputable def Try.pinned : Pinned := { name := "ytcnafncmfiogcaa", sum := "51a2453f25b067d197330704df858e17702a51ceb0664fced429840987e2a1e9", checked := Try.checked }
namespace Rows
def none {H : Type} : Left H := { results := [], args := [] }

/-- 'greenbeltlaw25.CapacityBest': WHATEVER THE INPUT: true; the input reads as it did. -/
def capacityBestSpec : ChangeSpec := { name := "capacityBest", fn := fun _ => fun
  | [d1, d2] => { results := [.lit (.bool true)], args := [d1, d2] }
  | _ => none }
def capacityBestRow : OpenClaim := { program := "ytcnafncmfiogcaa", sum := "51a2453f25b067d197330704df858e17702a51ceb0664fced429840987e2a1e9", func := "greenbelt/greenbeltlaw25.CapacityBest", spec := "capacityBest", unfollowed := true, recurses := true, apart := false }
def CapacityBestSaid : Prop := capacityBestRow.holds Try.pinned (OpenSpec.ofChange capacityBestSpec)

/-- ITS FALSE NEIGHBOUR: 'it returns false'. Refute it at one input. -/
def capacityBestWrong : ChangeSpec := { name := "capacityBest", fn := fun _ => fun
  | [d1, d2] => { results := [.lit (.bool false)], args := [d1, d2] }
  | _ => none }
def CapacityBestWrongFalsely : Prop := capacityBestRow.holds Try.pinned (OpenSpec.ofChange capacityBestWrong)

/-- 'greenbeltlaw25.CapacityTree': WHATEVER THE INPUT: true; the input reads as it did. -/
def capacityTreeSpec : ChangeSpec := { name := "capacityTree", fn := fun _ => fun
  | [d1, d2] => { results := [.lit (.bool true)], args := [d1, d2] }
  | _ => none }
def capacityTreeRow : OpenClaim := { program := "ytcnafncmfiogcaa", sum := "51a2453f25b067d197330704df858e17702a51ceb0664fced429840987e2a1e9", func := "greenbelt/greenbeltlaw25.CapacityTree", spec := "capacityTree", unfollowed := true, recurses := true, apart := false }
def CapacityTreeSaid : Prop := capacityTreeRow.holds Try.pinned (OpenSpec.ofChange capacityTreeSpec)

/-- ITS FALSE NEIGHBOUR: 'it returns false'. Refute it at one input. -/
def capacityTreeWrong : ChangeSpec := { name := "capacityTree", fn := fun _ => fun
  | [d1, d2] => { results := [.lit (.bool false)], args := [d1, d2] }
  | _ => none }
def CapacityTreeWrongFalsely : Prop := capacityTreeRow.holds Try.pinned (OpenSpec.ofChange capacityTreeWrong)

/-- 'greenbeltlaw25.CapacityTells': WHATEVER THE INPUT: true; the input reads as it did. -/
def capacityTellsSpec : ChangeSpec := { name := "capacityTells", fn := fun _ => fun
  | [d1, d2, d3, d4] => { results := [.lit (.bool true)], args := [d1, d2, d3, d4] }
  | _ => none }
def capacityTellsRow : OpenClaim := { program := "ytcnafncmfiogcaa", sum := "51a2453f25b067d197330704df858e17702a51ceb0664fced429840987e2a1e9", func := "greenbelt/greenbeltlaw25.CapacityTells", spec := "capacityTells", unfollowed := true, recurses := true, apart := false }
def CapacityTellsSaid : Prop := capacityTellsRow.holds Try.pinned (OpenSpec.ofChange capacityTellsSpec)

/-- ITS FALSE NEIGHBOUR: 'it returns false'. Refute it at one input. -/
def capacityTellsWrong : ChangeSpec := { name := "capacityTells", fn := fun _ => fun
  | [d1, d2, d3, d4] => { results := [.lit (.bool false)], args := [d1, d2, d3, d4] }
  | _ => none }
def CapacityTellsWrongFalsely : Prop := capacityTellsRow.holds Try.pinned (OpenSpec.ofChange capacityTellsWrong)

/-- 'greenbeltlaw25.CapacityMore': WHATEVER THE INPUT: true; the input reads as it did. -/
def capacityMoreSpec : ChangeSpec := { name := "capacityMore", fn := fun _ => fun
  | [d1, d2, d3, d4] => { results := [.lit (.bool true)], args := [d1, d2, d3, d4] }
  | _ => none }
def capacityMoreRow : OpenClaim := { program := "ytcnafncmfiogcaa", sum := "51a2453f25b067d197330704df858e17702a51ceb0664fced429840987e2a1e9", func := "greenbelt/greenbeltlaw25.CapacityMore", spec := "capacityMore", unfollowed := true, recurses := true, apart := false }
def CapacityMoreSaid : Prop := capacityMoreRow.holds Try.pinned (OpenSpec.ofChange capacityMoreSpec)

/-- ITS FALSE NEIGHBOUR: 'it returns false'. Refute it at one input. -/
def capacityMoreWrong : ChangeSpec := { name := "capacityMore", fn := fun _ => fun
  | [d1, d2, d3, d4] => { results := [.lit (.bool false)], args := [d1, d2, d3, d4] }
  | _ => none }
def CapacityMoreWrongFalsely : Prop := capacityMoreRow.holds Try.pinned (OpenSpec.ofChange capacityMoreWrong)

/-- 'greenbeltlaw26.BoundTells': WHATEVER THE INPUT: true; the input reads as it did. -/
def boundTellsSpec : ChangeSpec := { name := "boundTells", fn := fun _ => fun
  | [d1, d2, d3, d4, d5] => { results := [.lit (.bool true)], args := [d1, d2, d3, d4, d5] }
  | _ => none }
def boundTellsRow : OpenClaim := { program := "ytcnafncmfiogcaa", sum := "51a2453f25b067d197330704df858e17702a51ceb0664fced429840987e2a1e9", func := "greenbelt/greenbeltlaw26.BoundTells", spec := "boundTells", unfollowed := true, recurses := true, apart := false }
def BoundTellsSaid : Prop := boundTellsRow.holds Try.pinned (OpenSpec.ofChange boundTellsSpec)

/-- ITS FALSE NEIGHBOUR: 'it returns false'. Refute it at one input. -/
def boundTellsWrong : ChangeSpec := { name := "boundTells", fn := fun _ => fun
  | [d1, d2, d3, d4, d5] => { results := [.lit (.bool false)], args := [d1, d2, d3, d4, d5] }
  | _ => none }
def BoundTellsWrongFalsely : Prop := boundTellsRow.holds Try.pinned (OpenSpec.ofChange boundTellsWrong)

/-- 'greenbeltlaw26.BoundTrue': WHATEVER THE INPUT: true; the input reads as it did. -/
def boundTrueSpec : ChangeSpec := { name := "boundTrue", fn := fun _ => fun
  | [d1, d2, d3, d4, d5] => { results := [.lit (.bool true)], args := [d1, d2, d3, d4, d5] }
  | _ => none }
def boundTrueRow : OpenClaim := { program := "ytcnafncmfiogcaa", sum := "51a2453f25b067d197330704df858e17702a51ceb0664fced429840987e2a1e9", func := "greenbelt/greenbeltlaw26.BoundTrue", spec := "boundTrue", unfollowed := true, recurses := true, apart := false }
def BoundTrueSaid : Prop := boundTrueRow.holds Try.pinned (OpenSpec.ofChange boundTrueSpec)

/-- ITS FALSE NEIGHBOUR: 'it returns false'. Refute it at one input. -/
def boundTrueWrong : ChangeSpec := { name := "boundTrue", fn := fun _ => fun
  | [d1, d2, d3, d4, d5] => { results := [.lit (.bool false)], args := [d1, d2, d3, d4, d5] }
  | _ => none }
def BoundTrueWrongFalsely : Prop := boundTrueRow.holds Try.pinned (OpenSpec.ofChange boundTrueWrong)

/-- 'greenbeltlaw26.BoundAccepts': WHATEVER THE INPUT: true; the input reads as it did. -/
def boundAcceptsSpec : ChangeSpec := { name := "boundAccepts", fn := fun _ => fun
  | [d1, d2, d3, d4] => { results := [.lit (.bool true)], args := [d1, d2, d3, d4] }
  | _ => none }
def boundAcceptsRow : OpenClaim := { program := "ytcnafncmfiogcaa", sum := "51a2453f25b067d197330704df858e17702a51ceb0664fced429840987e2a1e9", func := "greenbelt/greenbeltlaw26.BoundAccepts", spec := "boundAccepts", unfollowed := true, recurses := true, apart := false }
def BoundAcceptsSaid : Prop := boundAcceptsRow.holds Try.pinned (OpenSpec.ofChange boundAcceptsSpec)

/-- ITS FALSE NEIGHBOUR: 'it returns false'. Refute it at one input. -/
def boundAcceptsWrong : ChangeSpec := { name := "boundAccepts", fn := fun _ => fun
  | [d1, d2, d3, d4] => { results := [.lit (.bool false)], args := [d1, d2, d3, d4] }
  | _ => none }
def BoundAcceptsWrongFalsely : Prop := boundAcceptsRow.holds Try.pinned (OpenSpec.ofChange boundAcceptsWrong)

/-- 'greenbeltlaw26.BoundTight': WHATEVER THE INPUT: true; the input reads as it did. -/
def boundTightSpec : ChangeSpec := { name := "boundTight", fn := fun _ => fun
  | [d1, d2] => { results := [.lit (.bool true)], args := [d1, d2] }
  | _ => none }
def boundTightRow : OpenClaim := { program := "ytcnafncmfiogcaa", sum := "51a2453f25b067d197330704df858e17702a51ceb0664fced429840987e2a1e9", func := "greenbelt/greenbeltlaw26.BoundTight", spec := "boundTight", unfollowed := true, recurses := true, apart := false }
def BoundTightSaid : Prop := boundTightRow.holds Try.pinned (OpenSpec.ofChange boundTightSpec)

/-- ITS FALSE NEIGHBOUR: 'it returns false'. Refute it at one input. -/
def boundTightWrong : ChangeSpec := { name := "boundTight", fn := fun _ => fun
  | [d1, d2] => { results := [.lit (.bool false)], args := [d1, d2] }
  | _ => none }
def BoundTightWrongFalsely : Prop := boundTightRow.holds Try.pinned (OpenSpec.ofChange boundTightWrong)

/-- 'greenbeltlaw26.BoundCuts': WHATEVER THE INPUT: true; the input reads as it did. -/
def boundCutsSpec : ChangeSpec := { name := "boundCuts", fn := fun _ => fun
  | [d1, d2, d3] => { results := [.lit (.bool true)], args := [d1, d2, d3] }
  | _ => none }
def boundCutsRow : OpenClaim := { program := "ytcnafncmfiogcaa", sum := "51a2453f25b067d197330704df858e17702a51ceb0664fced429840987e2a1e9", func := "greenbelt/greenbeltlaw26.BoundCuts", spec := "boundCuts", unfollowed := true, recurses := true, apart := false }
def BoundCutsSaid : Prop := boundCutsRow.holds Try.pinned (OpenSpec.ofChange boundCutsSpec)

/-- ITS FALSE NEIGHBOUR: 'it returns false'. Refute it at one input. -/
def boundCutsWrong : ChangeSpec := { name := "boundCuts", fn := fun _ => fun
  | [d1, d2, d3] => { results := [.lit (.bool false)], args := [d1, d2, d3] }
  | _ => none }
def BoundCutsWrongFalsely : Prop := boundCutsRow.holds Try.pinned (OpenSpec.ofChange boundCutsWrong)

/- THE SECOND FORM. 'bulk': how many values and letters a reading holds, each counted each time it is reached (what is shared counts as often as it is met; a slice's spare places count too). A statement '..UptoSaid' is the law's where the arguments, and the package variables that the reading takes, are together of bulk at most 1048576: NARROWER than '..Said'. Prove '..Said' where nothing that the law and all that it calls make is longer than what came in: it says more and counts as full. Else prove '..UptoSaid'. A law counts once. -/
mutual
def uptoBulk {H : Type} : DataW H → Nat
  | .lit (.string bytes) => bytes.length + 1
  | .lit _ => 1
  | .nil => 1
  | .ptr d => uptoBulk d + 1
  | .slice elems spare => uptoBulkAll elems + uptoBulkAll spare + 1
  | .agg parts => uptoBulkAll parts + 1
  | .iface _ d => uptoBulk d + 1
  | .map entries => uptoBulkEntries entries + 1
  | .held _ => 1
def uptoBulkAll {H : Type} : List (DataW H) → Nat
  | [] => 0
  | d :: r => uptoBulk d + uptoBulkAll r
def uptoBulkEntries {H : Type} : List (Lit × DataW H) → Nat
  | [] => 0
  | x :: r => uptoBulkEntry x + uptoBulkEntries r
def uptoBulkEntry {H : Type} : Lit × DataW H → Nat
  | (.string bytes, d) => bytes.length + uptoBulk d + 1
  | (_, d) => uptoBulk d + 1
 end
def uptoSmall : (H : Type) → List (DataW H) → Bool := fun _ ds => decide (uptoBulkAll ds ≤ 1048576)
def OpenSpec.upto (s : _root_.Go.ChangeSpec) : _root_.Go.OpenSpec := { _root_.Go.OpenSpec.ofChange s with cond := some uptoSmall }

/-- 'greenbeltlaw25.CapacityBest', WHERE WHAT IT READS IS OF BULK AT MOST 1048576: true; the input reads as it did. -/
def capacityBestUptoRow : OpenClaim := { program := "ytcnafncmfiogcaa", sum := "51a2453f25b067d197330704df858e17702a51ceb0664fced429840987e2a1e9", func := "greenbelt/greenbeltlaw25.CapacityBest", spec := "capacityBest", unfollowed := true, recurses := true, apart := false, narrowed := true }
def CapacityBestUptoSaid : Prop := capacityBestUptoRow.holds Try.pinned (OpenSpec.upto capacityBestSpec)

/-- 'greenbeltlaw25.CapacityTree', WHERE WHAT IT READS IS OF BULK AT MOST 1048576: true; the input reads as it did. -/
def capacityTreeUptoRow : OpenClaim := { program := "ytcnafncmfiogcaa", sum := "51a2453f25b067d197330704df858e17702a51ceb0664fced429840987e2a1e9", func := "greenbelt/greenbeltlaw25.CapacityTree", spec := "capacityTree", unfollowed := true, recurses := true, apart := false, narrowed := true }
def CapacityTreeUptoSaid : Prop := capacityTreeUptoRow.holds Try.pinned (OpenSpec.upto capacityTreeSpec)

/-- 'greenbeltlaw25.CapacityTells', WHERE WHAT IT READS IS OF BULK AT MOST 1048576: true; the input reads as it did. -/
def capacityTellsUptoRow : OpenClaim := { program := "ytcnafncmfiogcaa", sum := "51a2453f25b067d197330704df858e17702a51ceb0664fced429840987e2a1e9", func := "greenbelt/greenbeltlaw25.CapacityTells", spec := "capacityTells", unfollowed := true, recurses := true, apart := false, narrowed := true }
def CapacityTellsUptoSaid : Prop := capacityTellsUptoRow.holds Try.pinned (OpenSpec.upto capacityTellsSpec)

/-- 'greenbeltlaw25.CapacityMore', WHERE WHAT IT READS IS OF BULK AT MOST 1048576: true; the input reads as it did. -/
def capacityMoreUptoRow : OpenClaim := { program := "ytcnafncmfiogcaa", sum := "51a2453f25b067d197330704df858e17702a51ceb0664fced429840987e2a1e9", func := "greenbelt/greenbeltlaw25.CapacityMore", spec := "capacityMore", unfollowed := true, recurses := true, apart := false, narrowed := true }
def CapacityMoreUptoSaid : Prop := capacityMoreUptoRow.holds Try.pinned (OpenSpec.upto capacityMoreSpec)

/-- 'greenbeltlaw26.BoundTells', WHERE WHAT IT READS IS OF BULK AT MOST 1048576: true; the input reads as it did. -/
def boundTellsUptoRow : OpenClaim := { program := "ytcnafncmfiogcaa", sum := "51a2453f25b067d197330704df858e17702a51ceb0664fced429840987e2a1e9", func := "greenbelt/greenbeltlaw26.BoundTells", spec := "boundTells", unfollowed := true, recurses := true, apart := false, narrowed := true }
def BoundTellsUptoSaid : Prop := boundTellsUptoRow.holds Try.pinned (OpenSpec.upto boundTellsSpec)

/-- 'greenbeltlaw26.BoundTrue', WHERE WHAT IT READS IS OF BULK AT MOST 1048576: true; the input reads as it did. -/
def boundTrueUptoRow : OpenClaim := { program := "ytcnafncmfiogcaa", sum := "51a2453f25b067d197330704df858e17702a51ceb0664fced429840987e2a1e9", func := "greenbelt/greenbeltlaw26.BoundTrue", spec := "boundTrue", unfollowed := true, recurses := true, apart := false, narrowed := true }
def BoundTrueUptoSaid : Prop := boundTrueUptoRow.holds Try.pinned (OpenSpec.upto boundTrueSpec)

/-- 'greenbeltlaw26.BoundAccepts', WHERE WHAT IT READS IS OF BULK AT MOST 1048576: true; the input reads as it did. -/
def boundAcceptsUptoRow : OpenClaim := { program := "ytcnafncmfiogcaa", sum := "51a2453f25b067d197330704df858e17702a51ceb0664fced429840987e2a1e9", func := "greenbelt/greenbeltlaw26.BoundAccepts", spec := "boundAccepts", unfollowed := true, recurses := true, apart := false, narrowed := true }
def BoundAcceptsUptoSaid : Prop := boundAcceptsUptoRow.holds Try.pinned (OpenSpec.upto boundAcceptsSpec)

/-- 'greenbeltlaw26.BoundTight', WHERE WHAT IT READS IS OF BULK AT MOST 1048576: true; the input reads as it did. -/
def boundTightUptoRow : OpenClaim := { program := "ytcnafncmfiogcaa", sum := "51a2453f25b067d197330704df858e17702a51ceb0664fced429840987e2a1e9", func := "greenbelt/greenbeltlaw26.BoundTight", spec := "boundTight", unfollowed := true, recurses := true, apart := false, narrowed := true }
def BoundTightUptoSaid : Prop := boundTightUptoRow.holds Try.pinned (OpenSpec.upto boundTightSpec)

/-- 'greenbeltlaw26.BoundCuts', WHERE WHAT IT READS IS OF BULK AT MOST 1048576: true; the input reads as it did. -/
def boundCutsUptoRow : OpenClaim := { program := "ytcnafncmfiogcaa", sum := "51a2453f25b067d197330704df858e17702a51ceb0664fced429840987e2a1e9", func := "greenbelt/greenbeltlaw26.BoundCuts", spec := "boundCuts", unfollowed := true, recurses := true, apart := false, narrowed := true }
def BoundCutsUptoSaid : Prop := boundCutsUptoRow.holds Try.pinned (OpenSpec.upto boundCutsSpec)

end Rows
end Go.Proofs.Ytcnafncmfiogcaa
