/-
  Contracts of the vector functions of both packages. Conditions: none.
-/
import Derived.Test.YtlghbogfgkaopaaRows
import Derived.Test.YtlghbogfgkaopaaPlain
namespace Go.Proofs.Ytlghbogfgkaopaa
open Go Go.RowKit
attribute [local go_sem] run_store_float

end Go.Proofs.Ytlghbogfgkaopaa
