/-
  No cell of these rows narrows 'for every input' (looked for: loops, veiled, ifaces, maps, wideKeys, modest, calm, conditions, laid).
  DERIVED. THE GIVEN ROWS OF THIS SEAT. 5 by the template 'for every input the law returns true; each argument reads behind the call as it read before'; 0 by the template 'total and deterministic' (their statements: YtbadgapficfbpaaTotals.lean).
  GIVEN WITH THE SEED: the statements are not yours to turn. If you find one false, say at which input.
  Laid BY PROGRAM, IN A SANDBOX (cutbox-rows.mjs): the forced cells as the released guide's own fill.sh prints them over the translation cdcbda8756f4f021… (all of the seat's roots in one cut). By AI agents, Wed Nov 11 2026. No macro, syntax, notation, axiom, sorry.
-/
import Derived.Test.YtbadgapficfbpaaChecked
import GoSem.Claim
import GoSem.ClaimJoined
import GoSem.ClaimMapViews
import Derived.JoinedTies
import Derived.KernelRfl
namespace Go.Proofs.Ytbadgapficfbpaa
/- THE CELL 'sum', in the pinned program and in every row, IS THE sha256 OF THE DUMP (.gsa) THAT YtbadgapficfbpaaProg.lean LOADS. Nothing in Lean hashes anything: it is a label: what it is worth is what the hold of that sum in a sandbox is worth. -/
noncomputable def Try.pinned : Pinned := { name := "ytbadgapficfbpaa", sum := "cdcbda8756f4f021bbb39d2ee0d689a25450f8bf9cdb558a884b1a81436c944a", checked := Try.checked }
namespace Rows
def none {H : Type} : Left H := { results := [], args := [] }

/-- 'greenbeltlaw36.ArgueTells': WHATEVER THE INPUT: true; the input reads as it did. -/
def argueTellsSpec : ChangeSpec := { name := "argueTells", fn := fun _ => fun
  | [d1, d2, d3, d4, d5] => { results := [.lit (.bool true)], args := [d1, d2, d3, d4, d5] }
  | _ => none }
def argueTellsRow : OpenClaim := { program := "ytbadgapficfbpaa", sum := "cdcbda8756f4f021bbb39d2ee0d689a25450f8bf9cdb558a884b1a81436c944a", func := "greenbelt/greenbeltlaw36.ArgueTells", spec := "argueTells", unfollowed := true, recurses := true, apart := false }
def ArgueTellsSaid : Prop := argueTellsRow.holds Try.pinned (OpenSpec.ofChange argueTellsSpec)

/-- ITS FALSE NEIGHBOUR: 'it returns false'. Refute it at one input. -/
def argueTellsWrong : ChangeSpec := { name := "argueTells", fn := fun _ => fun
  | [d1, d2, d3, d4, d5] => { results := [.lit (.bool false)], args := [d1, d2, d3, d4, d5] }
  | _ => none }
def ArgueTellsWrongFalsely : Prop := argueTellsRow.holds Try.pinned (OpenSpec.ofChange argueTellsWrong)

/-- 'greenbeltlaw36.ArgueLeast': WHATEVER THE INPUT: true; the input reads as it did. -/
def argueLeastSpec : ChangeSpec := { name := "argueLeast", fn := fun _ => fun
  | [d] => { results := [.lit (.bool true)], args := [d] }
  | _ => none }
def argueLeastRow : OpenClaim := { program := "ytbadgapficfbpaa", sum := "cdcbda8756f4f021bbb39d2ee0d689a25450f8bf9cdb558a884b1a81436c944a", func := "greenbelt/greenbeltlaw36.ArgueLeast", spec := "argueLeast", unfollowed := true, recurses := true, apart := false }
def ArgueLeastSaid : Prop := argueLeastRow.holds Try.pinned (OpenSpec.ofChange argueLeastSpec)

/-- ITS FALSE NEIGHBOUR: 'it returns false'. Refute it at one input. -/
def argueLeastWrong : ChangeSpec := { name := "argueLeast", fn := fun _ => fun
  | [d] => { results := [.lit (.bool false)], args := [d] }
  | _ => none }
def ArgueLeastWrongFalsely : Prop := argueLeastRow.holds Try.pinned (OpenSpec.ofChange argueLeastWrong)

/-- 'greenbeltlaw36.ArgueChecks': WHATEVER THE INPUT: true; the input reads as it did. -/
def argueChecksSpec : ChangeSpec := { name := "argueChecks", fn := fun _ => fun
  | [d1, d2, d3, d4, d5] => { results := [.lit (.bool true)], args := [d1, d2, d3, d4, d5] }
  | _ => none }
def argueChecksRow : OpenClaim := { program := "ytbadgapficfbpaa", sum := "cdcbda8756f4f021bbb39d2ee0d689a25450f8bf9cdb558a884b1a81436c944a", func := "greenbelt/greenbeltlaw36.ArgueChecks", spec := "argueChecks", unfollowed := true, recurses := true, apart := false }
def ArgueChecksSaid : Prop := argueChecksRow.holds Try.pinned (OpenSpec.ofChange argueChecksSpec)

/-- ITS FALSE NEIGHBOUR: 'it returns false'. Refute it at one input. -/
def argueChecksWrong : ChangeSpec := { name := "argueChecks", fn := fun _ => fun
  | [d1, d2, d3, d4, d5] => { results := [.lit (.bool false)], args := [d1, d2, d3, d4, d5] }
  | _ => none }
def ArgueChecksWrongFalsely : Prop := argueChecksRow.holds Try.pinned (OpenSpec.ofChange argueChecksWrong)

/-- 'greenbeltlaw36.ArgueWhy': WHATEVER THE INPUT: true; the input reads as it did. -/
def argueWhySpec : ChangeSpec := { name := "argueWhy", fn := fun _ => fun
  | [d1, d2] => { results := [.lit (.bool true)], args := [d1, d2] }
  | _ => none }
def argueWhyRow : OpenClaim := { program := "ytbadgapficfbpaa", sum := "cdcbda8756f4f021bbb39d2ee0d689a25450f8bf9cdb558a884b1a81436c944a", func := "greenbelt/greenbeltlaw36.ArgueWhy", spec := "argueWhy", unfollowed := true, recurses := true, apart := false }
def ArgueWhySaid : Prop := argueWhyRow.holds Try.pinned (OpenSpec.ofChange argueWhySpec)

/-- ITS FALSE NEIGHBOUR: 'it returns false'. Refute it at one input. -/
def argueWhyWrong : ChangeSpec := { name := "argueWhy", fn := fun _ => fun
  | [d1, d2] => { results := [.lit (.bool false)], args := [d1, d2] }
  | _ => none }
def ArgueWhyWrongFalsely : Prop := argueWhyRow.holds Try.pinned (OpenSpec.ofChange argueWhyWrong)

/-- 'greenbeltlaw36.ArgueNew': WHATEVER THE INPUT: true; the input reads as it did. -/
def argueNewSpec : ChangeSpec := { name := "argueNew", fn := fun _ => fun
  | [d1, d2] => { results := [.lit (.bool true)], args := [d1, d2] }
  | _ => none }
def argueNewRow : OpenClaim := { program := "ytbadgapficfbpaa", sum := "cdcbda8756f4f021bbb39d2ee0d689a25450f8bf9cdb558a884b1a81436c944a", func := "greenbelt/greenbeltlaw36.ArgueNew", spec := "argueNew", unfollowed := true, recurses := true, apart := false }
def ArgueNewSaid : Prop := argueNewRow.holds Try.pinned (OpenSpec.ofChange argueNewSpec)

/-- ITS FALSE NEIGHBOUR: 'it returns false'. Refute it at one input. -/
def argueNewWrong : ChangeSpec := { name := "argueNew", fn := fun _ => fun
  | [d1, d2] => { results := [.lit (.bool false)], args := [d1, d2] }
  | _ => none }
def ArgueNewWrongFalsely : Prop := argueNewRow.holds Try.pinned (OpenSpec.ofChange argueNewWrong)

/- THE SECOND FORM. 'bulk': how many values and letters a reading holds, each counted each time it is reached (what is shared counts as often as it is met; a slice's spare places count too). A statement '..UptoSaid' is the law's where the arguments, and the package variables that the reading takes, are together of bulk at most 1048576: NARROWER than '..Said'. Prove '..Said' where nothing that the law and all that it calls make is longer than what came in: it says more and counts as full. Else prove '..UptoSaid'. A law counts once. -/
mutual
def uptoBulk {H : Type} : DataW H → Nat
  | .lit (.string bytes) => bytes.length + 1
  | .lit _ => 1
  | .nil => 1
  | .ptr d => uptoBulk d + 1
  | .slice elems spare => uptoBulkAll elems + uptoBulkAll spare + 1
  | .agg parts => uptoBulkAll parts + 1
  | .iface _ d => uptoBulk d + 1
  | .map entries => uptoBulkEntries entries + 1
  | .held _ => 1
def uptoBulkAll {H : Type} : List (DataW H) → Nat
  | [] => 0
  | d :: r => uptoBulk d + uptoBulkAll r
def uptoBulkEntries {H : Type} : List (Lit × DataW H) → Nat
  | [] => 0
  | x :: r => uptoBulkEntry x + uptoBulkEntries r
def uptoBulkEntry {H : Type} : Lit × DataW H → Nat
  | (.string bytes, d) => bytes.length + uptoBulk d + 1
  | (_, d) => uptoBulk d + 1
 end
def uptoSmall : (H : Type) → List (DataW H) → Bool := fun _ ds => decide (uptoBulkAll ds ≤ 1048576)
def OpenSpec.upto (s : _root_.Go.ChangeSpec) : _root_.Go.OpenSpec := { _root_.Go.OpenSpec.ofChange s with cond := some uptoSmall }

/-- 'greenbeltlaw36.ArgueTells', WHERE WHAT IT READS IS OF BULK AT MOST 1048576: true; the input reads as it did. -/
def argueTellsUptoRow : OpenClaim := { program := "ytbadgapficfbpaa", sum := "cdcbda8756f4f021bbb39d2ee0d689a25450f8bf9cdb558a884b1a81436c944a", func := "greenbelt/greenbeltlaw36.ArgueTells", spec := "argueTells", unfollowed := true, recurses := true, apart := false, narrowed := true }
def ArgueTellsUptoSaid : Prop := argueTellsUptoRow.holds Try.pinned (OpenSpec.upto argueTellsSpec)

/-- 'greenbeltlaw36.ArgueLeast', WHERE WHAT IT READS IS OF BULK AT MOST 1048576: true; the input reads as it did. -/
def argueLeastUptoRow : OpenClaim := { program := "ytbadgapficfbpaa", sum := "cdcbda8756f4f021bbb39d2ee0d689a25450f8bf9cdb558a884b1a81436c944a", func := "greenbelt/greenbeltlaw36.ArgueLeast", spec := "argueLeast", unfollowed := true, recurses := true, apart := false, narrowed := true }
def ArgueLeastUptoSaid : Prop := argueLeastUptoRow.holds Try.pinned (OpenSpec.upto argueLeastSpec)

/-- 'greenbeltlaw36.ArgueChecks', WHERE WHAT IT READS IS OF BULK AT MOST 1048576: true; the input reads as it did. -/
def argueChecksUptoRow : OpenClaim := { program := "ytbadgapficfbpaa", sum := "cdcbda8756f4f021bbb39d2ee0d689a25450f8bf9cdb558a884b1a81436c944a", func := "greenbelt/greenbeltlaw36.ArgueChecks", spec := "argueChecks", unfollowed := true, recurses := true, apart := false, narrowed := true }
def ArgueChecksUptoSaid : Prop := argueChecksUptoRow.holds Try.pinned (OpenSpec.upto argueChecksSpec)

/-- 'greenbeltlaw36.ArgueWhy', WHERE WHAT IT READS IS OF BULK AT MOST 1048576: true; the input reads as it did. -/
def argueWhyUptoRow : OpenClaim := { program := "ytbadgapficfbpaa", sum := "cdcbda8756f4f021bbb39d2ee0d689a25450f8bf9cdb558a884b1a81436c944a", func := "greenbelt/greenbeltlaw36.ArgueWhy", spec := "argueWhy", unfollowed := true, recurses := true, apart := false, narrowed := true }
def ArgueWhyUptoSaid : Prop := argueWhyUptoRow.holds Try.pinned (OpenSpec.upto argueWhySpec)

/-- 'greenbeltlaw36.ArgueNew', WHERE WHAT IT READS IS OF BULK AT MOST 1048576: true; the input reads as it did. -/
def argueNewUptoRow : OpenClaim := { program := "ytbadgapficfbpaa", sum := "cdcbda8756f4f021bbb39d2ee0d689a25450f8bf9cdb558a884b1a81436c944a", func := "greenbelt/greenbeltlaw36.ArgueNew", spec := "argueNew", unfollowed := true, recurses := true, apart := false, narrowed := true }
def ArgueNewUptoSaid : Prop := argueNewUptoRow.holds Try.pinned (OpenSpec.upto argueNewSpec)

end Rows
end Go.Proofs.Ytbadgapficfbpaa
