/-
  Levels of relays: coercive fields. Conditions: none.
-/
import Derived.Test.YtebjdijlaaipdaaGb
namespace Go.Proofs.Ytebjdijlaaipdaa
open Go Go.RowKit
set_option maxRecDepth 100000
theorem lvC_all : ∀ a, a < 7 → ∀ c, c < 8 → lvC a c = true := by decide +kernel
end Go.Proofs.Ytebjdijlaaipdaa
