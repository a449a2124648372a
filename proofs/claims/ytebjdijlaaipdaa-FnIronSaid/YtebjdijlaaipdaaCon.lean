/-
  Contracts of the vector functions, in the abstract form. Conditions: none.
-/
import Derived.Test.YtebjdijlaaipdaaVecB
import Derived.Test.YtebjdijlaaipdaaBr
namespace Go.Proofs.Ytebjdijlaaipdaa
open Go Go.RowKit

end Go.Proofs.Ytebjdijlaaipdaa
