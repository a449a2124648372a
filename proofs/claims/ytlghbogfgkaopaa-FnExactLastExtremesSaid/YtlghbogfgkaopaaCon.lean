/-
  Contracts of the vector functions, in the abstract form. Conditions: none.
-/
import Derived.Test.YtlghbogfgkaopaaVecB
import Derived.Test.YtlghbogfgkaopaaBr
namespace Go.Proofs.Ytlghbogfgkaopaa
open Go Go.RowKit

end Go.Proofs.Ytlghbogfgkaopaa
