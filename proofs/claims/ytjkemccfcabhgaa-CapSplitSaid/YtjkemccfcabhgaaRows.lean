/-
  NARROWER THAN 'FOR EVERY INPUT', by the rows' own cells (each row's printed sentence says how): CapWorst: loops · CapSplit: loops · CapUse: loops.
  DERIVED. THE GIVEN ROWS OF THIS SEAT. 3 by the template 'for every input the law returns true; each argument reads behind the call as it read before'; 0 by the template 'total and deterministic' (their statements: YtjkemccfcabhgaaTotals.lean).
  GIVEN WITH THE SEED: the statements are not yours to turn. If you find one false, say at which input.
  Laid BY PROGRAM, IN A SANDBOX (cutbox-rows.mjs): the forced cells as the released guide's own fill.sh prints them over the translation d818be82886371cb… (all of the seat's roots in one cut). By AI agents, Wed Nov 11 2026. No macro, syntax, notation, axiom, sorry.
-/
import Derived.Test.YtjkemccfcabhgaaChecked
import GoSem.Claim
import GoSem.ClaimJoined
import GoSem.ClaimMapViews
import Derived.JoinedTies
import Derived.KernelRfl
namespace Go.Proofs.Ytjkemccfcabhgaa
/- THE CELL 'sum', in the pinned program and in every row, IS THE sha256 OF THE DUMP (.gsa) THAT YtjkemccfcabhgaaProg.lean LOADS. Nothing in Lean hashes anything: it is a label: what it is worth is what the hold of that sum in a sandbox is worth. -/
noncomputable def Try.pinned : Pinned := { name := "ytjkemccfcabhgaa", sum := "d818be82886371cb7f77a670a9c4e239fabfd90f47de00b3ed82f8e0e0a3b536", checked := Try.checked }
namespace Rows
def none {H : Type} : Left H := { results := [], args := [] }

/-- 'greenbeltlaw32.CapWorst': WHATEVER THE INPUT: true; the input reads as it did. -/
def capWorstSpec : ChangeSpec := { name := "capWorst", fn := fun _ => fun
  | [d1, d2, d3] => { results := [.lit (.bool true)], args := [d1, d2, d3] }
  | _ => none }
def capWorstRow : OpenClaim := { program := "ytjkemccfcabhgaa", sum := "d818be82886371cb7f77a670a9c4e239fabfd90f47de00b3ed82f8e0e0a3b536", func := "greenbelt/greenbeltlaw32.CapWorst", spec := "capWorst", unfollowed := true, recurses := true, loops := true, apart := false }
def CapWorstSaid : Prop := capWorstRow.holds Try.pinned (OpenSpec.ofChange capWorstSpec)

/-- ITS FALSE NEIGHBOUR: 'it returns false'. Refute it at one input. -/
def capWorstWrong : ChangeSpec := { name := "capWorst", fn := fun _ => fun
  | [d1, d2, d3] => { results := [.lit (.bool false)], args := [d1, d2, d3] }
  | _ => none }
def CapWorstWrongFalsely : Prop := capWorstRow.holds Try.pinned (OpenSpec.ofChange capWorstWrong)

/-- 'greenbeltlaw32.CapSplit': WHATEVER THE INPUT: true; the input reads as it did. -/
def capSplitSpec : ChangeSpec := { name := "capSplit", fn := fun _ => fun
  | [d1, d2, d3, d4, d5] => { results := [.lit (.bool true)], args := [d1, d2, d3, d4, d5] }
  | _ => none }
def capSplitRow : OpenClaim := { program := "ytjkemccfcabhgaa", sum := "d818be82886371cb7f77a670a9c4e239fabfd90f47de00b3ed82f8e0e0a3b536", func := "greenbelt/greenbeltlaw32.CapSplit", spec := "capSplit", unfollowed := true, recurses := true, loops := true, apart := false }
def CapSplitSaid : Prop := capSplitRow.holds Try.pinned (OpenSpec.ofChange capSplitSpec)

/-- ITS FALSE NEIGHBOUR: 'it returns false'. Refute it at one input. -/
def capSplitWrong : ChangeSpec := { name := "capSplit", fn := fun _ => fun
  | [d1, d2, d3, d4, d5] => { results := [.lit (.bool false)], args := [d1, d2, d3, d4, d5] }
  | _ => none }
def CapSplitWrongFalsely : Prop := capSplitRow.holds Try.pinned (OpenSpec.ofChange capSplitWrong)

/-- 'greenbeltlaw32.CapUse': WHATEVER THE INPUT: true; the input reads as it did. -/
def capUseSpec : ChangeSpec := { name := "capUse", fn := fun _ => fun
  | [d1, d2, d3, d4, d5] => { results := [.lit (.bool true)], args := [d1, d2, d3, d4, d5] }
  | _ => none }
def capUseRow : OpenClaim := { program := "ytjkemccfcabhgaa", sum := "d818be82886371cb7f77a670a9c4e239fabfd90f47de00b3ed82f8e0e0a3b536", func := "greenbelt/greenbeltlaw32.CapUse", spec := "capUse", unfollowed := true, recurses := true, loops := true, apart := false }
def CapUseSaid : Prop := capUseRow.holds Try.pinned (OpenSpec.ofChange capUseSpec)

/-- ITS FALSE NEIGHBOUR: 'it returns false'. Refute it at one input. -/
def capUseWrong : ChangeSpec := { name := "capUse", fn := fun _ => fun
  | [d1, d2, d3, d4, d5] => { results := [.lit (.bool false)], args := [d1, d2, d3, d4, d5] }
  | _ => none }
def CapUseWrongFalsely : Prop := capUseRow.holds Try.pinned (OpenSpec.ofChange capUseWrong)

/- THE SECOND FORM. 'bulk': how many values and letters a reading holds, each counted each time it is reached (what is shared counts as often as it is met; a slice's spare places count too). A statement '..UptoSaid' is the law's where the arguments, and the package variables that the reading takes, are together of bulk at most 1048576: NARROWER than '..Said'. Prove '..Said' where nothing that the law and all that it calls make is longer than what came in: it says more and counts as full. Else prove '..UptoSaid'. A law counts once. -/
mutual
def uptoBulk {H : Type} : DataW H → Nat
  | .lit (.string bytes) => bytes.length + 1
  | .lit _ => 1
  | .nil => 1
  | .ptr d => uptoBulk d + 1
  | .slice elems spare => uptoBulkAll elems + uptoBulkAll spare + 1
  | .agg parts => uptoBulkAll parts + 1
  | .iface _ d => uptoBulk d + 1
  | .map entries => uptoBulkEntries entries + 1
  | .held _ => 1
def uptoBulkAll {H : Type} : List (DataW H) → Nat
  | [] => 0
  | d :: r => uptoBulk d + uptoBulkAll r
def uptoBulkEntries {H : Type} : List (Lit × DataW H) → Nat
  | [] => 0
  | x :: r => uptoBulkEntry x + uptoBulkEntries r
def uptoBulkEntry {H : Type} : Lit × DataW H → Nat
  | (.string bytes, d) => bytes.length + uptoBulk d + 1
  | (_, d) => uptoBulk d + 1
 end
def uptoSmall : (H : Type) → List (DataW H) → Bool := fun _ ds => decide (uptoBulkAll ds ≤ 1048576)
def OpenSpec.upto (s : _root_.Go.ChangeSpec) : _root_.Go.OpenSpec := { _root_.Go.OpenSpec.ofChange s with cond := some uptoSmall }

/-- 'greenbeltlaw32.CapWorst', WHERE WHAT IT READS IS OF BULK AT MOST 1048576: true; the input reads as it did. -/
def capWorstUptoRow : OpenClaim := { program := "ytjkemccfcabhgaa", sum := "d818be82886371cb7f77a670a9c4e239fabfd90f47de00b3ed82f8e0e0a3b536", func := "greenbelt/greenbeltlaw32.CapWorst", spec := "capWorst", unfollowed := true, recurses := true, loops := true, apart := false, narrowed := true }
def CapWorstUptoSaid : Prop := capWorstUptoRow.holds Try.pinned (OpenSpec.upto capWorstSpec)

/-- 'greenbeltlaw32.CapSplit', WHERE WHAT IT READS IS OF BULK AT MOST 1048576: true; the input reads as it did. -/
def capSplitUptoRow : OpenClaim := { program := "ytjkemccfcabhgaa", sum := "d818be82886371cb7f77a670a9c4e239fabfd90f47de00b3ed82f8e0e0a3b536", func := "greenbelt/greenbeltlaw32.CapSplit", spec := "capSplit", unfollowed := true, recurses := true, loops := true, apart := false, narrowed := true }
def CapSplitUptoSaid : Prop := capSplitUptoRow.holds Try.pinned (OpenSpec.upto capSplitSpec)

/-- 'greenbeltlaw32.CapUse', WHERE WHAT IT READS IS OF BULK AT MOST 1048576: true; the input reads as it did. -/
def capUseUptoRow : OpenClaim := { program := "ytjkemccfcabhgaa", sum := "d818be82886371cb7f77a670a9c4e239fabfd90f47de00b3ed82f8e0e0a3b536", func := "greenbelt/greenbeltlaw32.CapUse", spec := "capUse", unfollowed := true, recurses := true, loops := true, apart := false, narrowed := true }
def CapUseUptoSaid : Prop := capUseUptoRow.holds Try.pinned (OpenSpec.upto capUseSpec)

end Rows
end Go.Proofs.Ytjkemccfcabhgaa
