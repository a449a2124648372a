/-
  Contracts of the vector functions of both packages. Conditions: none.
-/
import Derived.Test.YtebjdijlaaipdaaRows
import Derived.Test.YtebjdijlaaipdaaBA
namespace Go.Proofs.Ytebjdijlaaipdaa
open Go Go.RowKit
attribute [local go_sem] run_store_float

end Go.Proofs.Ytebjdijlaaipdaa
