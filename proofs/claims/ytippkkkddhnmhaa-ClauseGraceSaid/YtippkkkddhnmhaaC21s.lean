/-
  Chapter 21: the small examples have the documented results: by running the machine. Conditions: none.
-/
import Derived.Test.YtippkkkddhnmhaaRc
namespace Go.Proofs.Ytippkkkddhnmhaa.Bm
open Go Go.RowKit

set_option maxRecDepth 100000 in
theorem small_spec : pureCall E.P (L E) 8 [] = some (.bool true) := pureCall_le (evF_L 60) (by kernel_rfl)

end Go.Proofs.Ytippkkkddhnmhaa.Bm
