/-
  Contracts of the square root, of lengths, of comparisons of floats and vectors. Conditions: none.
-/
import Derived.Test.YtebjdijlaaipdaaVecA
import Derived.Test.YtebjdijlaaipdaaRoot
namespace Go.Proofs.Ytebjdijlaaipdaa
open Go Go.RowKit
set_option maxRecDepth 100000
attribute [local go_sem] run_store_float

end Go.Proofs.Ytebjdijlaaipdaa
