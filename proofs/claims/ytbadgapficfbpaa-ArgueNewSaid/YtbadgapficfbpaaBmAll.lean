/-
  The machine with all that is known of it. Conditions: none.
-/
import Derived.Test.YtbadgapficfbpaaBmSort
import Derived.Test.YtbadgapficfbpaaBmMapU
namespace Go.Proofs.Ytbadgapficfbpaa.Bm
end Go.Proofs.Ytbadgapficfbpaa.Bm
