/-
  NARROWER THAN 'FOR EVERY INPUT', by the rows' own cells (each row's printed sentence says how): ClauseTells: loops · ClauseGrace: loops · ClauseStable: loops · ClauseNames: loops · ClauseAlone: loops.
  DERIVED. THE GIVEN ROWS OF THIS SEAT. 5 by the template 'for every input the law returns true; each argument reads behind the call as it read before'; 0 by the template 'total and deterministic' (their statements: YtippkkkddhnmhaaTotals.lean).
  GIVEN WITH THE SEED: the statements are not yours to turn. If you find one false, say at which input.
  Laid BY PROGRAM, IN A SANDBOX (cutbox-rows.mjs): the forced cells as the released guide's own fill.sh prints them over the translation c1c36028c3795506… (all of the seat's roots in one cut). By AI agents, Wed Nov 11 2026. No macro, syntax, notation, axiom, sorry.
-/
import Derived.Test.YtippkkkddhnmhaaChecked
import GoSem.Claim
import GoSem.ClaimJoined
import GoSem.ClaimMapViews
import Derived.JoinedTies
import Derived.KernelRfl
namespace Go.Proofs.Ytippkkkddhnmhaa
/- THE CELL 'sum', in the pinned program and in every row, IS THE sha256 OF THE DUMP (.gsa) THAT YtippkkkddhnmhaaProg.lean LOADS. Nothing in Lean hashes anything: it is a label: what it is worth is what the hold of that sum in a sandbox is worth. -/
noncomputable def Try.pinned : Pinned := { name := "ytippkkkddhnmhaa", sum := "c1c36028c37955068ec15f6eed733a24361c2067ba480e629806ca973ed64bdc", checked := Try.checked }
namespace Rows
def none {H : Type} : Left H := { results := [], args := [] }

/-- 'greenbeltlaw21.ClauseTells': WHATEVER THE INPUT: true; the input reads as it did. -/
def clauseTellsSpec : ChangeSpec := { name := "clauseTells", fn := fun _ => fun
  | [d1, d2, d3, d4] => { results := [.lit (.bool true)], args := [d1, d2, d3, d4] }
  | _ => none }
def clauseTellsRow : OpenClaim := { program := "ytippkkkddhnmhaa", sum := "c1c36028c37955068ec15f6eed733a24361c2067ba480e629806ca973ed64bdc", func := "greenbelt/greenbeltlaw21.ClauseTells", spec := "clauseTells", unfollowed := true, recurses := true, loops := true, apart := false }
def ClauseTellsSaid : Prop := clauseTellsRow.holds Try.pinned (OpenSpec.ofChange clauseTellsSpec)

/-- ITS FALSE NEIGHBOUR: 'it returns false'. Refute it at one input. -/
def clauseTellsWrong : ChangeSpec := { name := "clauseTells", fn := fun _ => fun
  | [d1, d2, d3, d4] => { results := [.lit (.bool false)], args := [d1, d2, d3, d4] }
  | _ => none }
def ClauseTellsWrongFalsely : Prop := clauseTellsRow.holds Try.pinned (OpenSpec.ofChange clauseTellsWrong)

/-- 'greenbeltlaw21.ClauseGrace': WHATEVER THE INPUT: true; the input reads as it did. -/
def clauseGraceSpec : ChangeSpec := { name := "clauseGrace", fn := fun _ => fun
  | [d1, d2, d3] => { results := [.lit (.bool true)], args := [d1, d2, d3] }
  | _ => none }
def clauseGraceRow : OpenClaim := { program := "ytippkkkddhnmhaa", sum := "c1c36028c37955068ec15f6eed733a24361c2067ba480e629806ca973ed64bdc", func := "greenbelt/greenbeltlaw21.ClauseGrace", spec := "clauseGrace", unfollowed := true, recurses := true, loops := true, apart := false }
def ClauseGraceSaid : Prop := clauseGraceRow.holds Try.pinned (OpenSpec.ofChange clauseGraceSpec)

/-- ITS FALSE NEIGHBOUR: 'it returns false'. Refute it at one input. -/
def clauseGraceWrong : ChangeSpec := { name := "clauseGrace", fn := fun _ => fun
  | [d1, d2, d3] => { results := [.lit (.bool false)], args := [d1, d2, d3] }
  | _ => none }
def ClauseGraceWrongFalsely : Prop := clauseGraceRow.holds Try.pinned (OpenSpec.ofChange clauseGraceWrong)

/-- 'greenbeltlaw21.ClauseStable': WHATEVER THE INPUT: true; the input reads as it did. -/
def clauseStableSpec : ChangeSpec := { name := "clauseStable", fn := fun _ => fun
  | [d1, d2, d3, d4] => { results := [.lit (.bool true)], args := [d1, d2, d3, d4] }
  | _ => none }
def clauseStableRow : OpenClaim := { program := "ytippkkkddhnmhaa", sum := "c1c36028c37955068ec15f6eed733a24361c2067ba480e629806ca973ed64bdc", func := "greenbelt/greenbeltlaw21.ClauseStable", spec := "clauseStable", unfollowed := true, recurses := true, loops := true, apart := false }
def ClauseStableSaid : Prop := clauseStableRow.holds Try.pinned (OpenSpec.ofChange clauseStableSpec)

/-- ITS FALSE NEIGHBOUR: 'it returns false'. Refute it at one input. -/
def clauseStableWrong : ChangeSpec := { name := "clauseStable", fn := fun _ => fun
  | [d1, d2, d3, d4] => { results := [.lit (.bool false)], args := [d1, d2, d3, d4] }
  | _ => none }
def ClauseStableWrongFalsely : Prop := clauseStableRow.holds Try.pinned (OpenSpec.ofChange clauseStableWrong)

/-- 'greenbeltlaw21.ClauseNames': WHATEVER THE INPUT: true; the input reads as it did. -/
def clauseNamesSpec : ChangeSpec := { name := "clauseNames", fn := fun _ => fun
  | [d1, d2, d3] => { results := [.lit (.bool true)], args := [d1, d2, d3] }
  | _ => none }
def clauseNamesRow : OpenClaim := { program := "ytippkkkddhnmhaa", sum := "c1c36028c37955068ec15f6eed733a24361c2067ba480e629806ca973ed64bdc", func := "greenbelt/greenbeltlaw21.ClauseNames", spec := "clauseNames", unfollowed := true, recurses := true, loops := true, apart := false }
def ClauseNamesSaid : Prop := clauseNamesRow.holds Try.pinned (OpenSpec.ofChange clauseNamesSpec)

/-- ITS FALSE NEIGHBOUR: 'it returns false'. Refute it at one input. -/
def clauseNamesWrong : ChangeSpec := { name := "clauseNames", fn := fun _ => fun
  | [d1, d2, d3] => { results := [.lit (.bool false)], args := [d1, d2, d3] }
  | _ => none }
def ClauseNamesWrongFalsely : Prop := clauseNamesRow.holds Try.pinned (OpenSpec.ofChange clauseNamesWrong)

/-- 'greenbeltlaw21.ClauseAlone': WHATEVER THE INPUT: true; the input reads as it did. -/
def clauseAloneSpec : ChangeSpec := { name := "clauseAlone", fn := fun _ => fun
  | [d1, d2, d3, d4] => { results := [.lit (.bool true)], args := [d1, d2, d3, d4] }
  | _ => none }
def clauseAloneRow : OpenClaim := { program := "ytippkkkddhnmhaa", sum := "c1c36028c37955068ec15f6eed733a24361c2067ba480e629806ca973ed64bdc", func := "greenbelt/greenbeltlaw21.ClauseAlone", spec := "clauseAlone", unfollowed := true, recurses := true, loops := true, apart := false }
def ClauseAloneSaid : Prop := clauseAloneRow.holds Try.pinned (OpenSpec.ofChange clauseAloneSpec)

/-- ITS FALSE NEIGHBOUR: 'it returns false'. Refute it at one input. -/
def clauseAloneWrong : ChangeSpec := { name := "clauseAlone", fn := fun _ => fun
  | [d1, d2, d3, d4] => { results := [.lit (.bool false)], args := [d1, d2, d3, d4] }
  | _ => none }
def ClauseAloneWrongFalsely : Prop := clauseAloneRow.holds Try.pinned (OpenSpec.ofChange clauseAloneWrong)

/- THE SECOND FORM. 'bulk': how many values and letters a reading holds, each counted each time it is reached (what is shared counts as often as it is met; a slice's spare places count too). A statement '..UptoSaid' is the law's where the arguments, and the package variables that the reading takes, are together of bulk at most 1048576: NARROWER than '..Said'. Prove '..Said' where nothing that the law and all that it calls make is longer than what came in: it says more and counts as full. Else prove '..UptoSaid'. A law counts once. -/
mutual
def uptoBulk {H : Type} : DataW H → Nat
  | .lit (.string bytes) => bytes.length + 1
  | .lit _ => 1
  | .nil => 1
  | .ptr d => uptoBulk d + 1
  | .slice elems spare => uptoBulkAll elems + uptoBulkAll spare + 1
  | .agg parts => uptoBulkAll parts + 1
  | .iface _ d => uptoBulk d + 1
  | .map entries => uptoBulkEntries entries + 1
  | .held _ => 1
def uptoBulkAll {H : Type} : List (DataW H) → Nat
  | [] => 0
  | d :: r => uptoBulk d + uptoBulkAll r
def uptoBulkEntries {H : Type} : List (Lit × DataW H) → Nat
  | [] => 0
  | x :: r => uptoBulkEntry x + uptoBulkEntries r
def uptoBulkEntry {H : Type} : Lit × DataW H → Nat
  | (.string bytes, d) => bytes.length + uptoBulk d + 1
  | (_, d) => uptoBulk d + 1
 end
def uptoSmall : (H : Type) → List (DataW H) → Bool := fun _ ds => decide (uptoBulkAll ds ≤ 1048576)
def OpenSpec.upto (s : _root_.Go.ChangeSpec) : _root_.Go.OpenSpec := { _root_.Go.OpenSpec.ofChange s with cond := some uptoSmall }

/-- 'greenbeltlaw21.ClauseTells', WHERE WHAT IT READS IS OF BULK AT MOST 1048576: true; the input reads as it did. -/
def clauseTellsUptoRow : OpenClaim := { program := "ytippkkkddhnmhaa", sum := "c1c36028c37955068ec15f6eed733a24361c2067ba480e629806ca973ed64bdc", func := "greenbelt/greenbeltlaw21.ClauseTells", spec := "clauseTells", unfollowed := true, recurses := true, loops := true, apart := false, narrowed := true }
def ClauseTellsUptoSaid : Prop := clauseTellsUptoRow.holds Try.pinned (OpenSpec.upto clauseTellsSpec)

/-- 'greenbeltlaw21.ClauseGrace', WHERE WHAT IT READS IS OF BULK AT MOST 1048576: true; the input reads as it did. -/
def clauseGraceUptoRow : OpenClaim := { program := "ytippkkkddhnmhaa", sum := "c1c36028c37955068ec15f6eed733a24361c2067ba480e629806ca973ed64bdc", func := "greenbelt/greenbeltlaw21.ClauseGrace", spec := "clauseGrace", unfollowed := true, recurses := true, loops := true, apart := false, narrowed := true }
def ClauseGraceUptoSaid : Prop := clauseGraceUptoRow.holds Try.pinned (OpenSpec.upto clauseGraceSpec)

/-- 'greenbeltlaw21.ClauseStable', WHERE WHAT IT READS IS OF BULK AT MOST 1048576: true; the input reads as it did. -/
def clauseStableUptoRow : OpenClaim := { program := "ytippkkkddhnmhaa", sum := "c1c36028c37955068ec15f6eed733a24361c2067ba480e629806ca973ed64bdc", func := "greenbelt/greenbeltlaw21.ClauseStable", spec := "clauseStable", unfollowed := true, recurses := true, loops := true, apart := false, narrowed := true }
def ClauseStableUptoSaid : Prop := clauseStableUptoRow.holds Try.pinned (OpenSpec.upto clauseStableSpec)

/-- 'greenbeltlaw21.ClauseNames', WHERE WHAT IT READS IS OF BULK AT MOST 1048576: true; the input reads as it did. -/
def clauseNamesUptoRow : OpenClaim := { program := "ytippkkkddhnmhaa", sum := "c1c36028c37955068ec15f6eed733a24361c2067ba480e629806ca973ed64bdc", func := "greenbelt/greenbeltlaw21.ClauseNames", spec := "clauseNames", unfollowed := true, recurses := true, loops := true, apart := false, narrowed := true }
def ClauseNamesUptoSaid : Prop := clauseNamesUptoRow.holds Try.pinned (OpenSpec.upto clauseNamesSpec)

/-- 'greenbeltlaw21.ClauseAlone', WHERE WHAT IT READS IS OF BULK AT MOST 1048576: true; the input reads as it did. -/
def clauseAloneUptoRow : OpenClaim := { program := "ytippkkkddhnmhaa", sum := "c1c36028c37955068ec15f6eed733a24361c2067ba480e629806ca973ed64bdc", func := "greenbelt/greenbeltlaw21.ClauseAlone", spec := "clauseAlone", unfollowed := true, recurses := true, loops := true, apart := false, narrowed := true }
def ClauseAloneUptoSaid : Prop := clauseAloneUptoRow.holds Try.pinned (OpenSpec.upto clauseAloneSpec)

end Rows
end Go.Proofs.Ytippkkkddhnmhaa
