/-
  The machine with all that is known of it. Conditions: none.
-/
import Derived.Test.YtgeebooalafepaaBmSort
import Derived.Test.YtgeebooalafepaaBmMapU
namespace Go.Proofs.Ytgeebooalafepaa.Bm
end Go.Proofs.Ytgeebooalafepaa.Bm
