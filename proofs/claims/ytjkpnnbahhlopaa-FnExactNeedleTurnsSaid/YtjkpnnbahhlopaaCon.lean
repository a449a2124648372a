/-
  Contracts of the vector functions, in the abstract form. Conditions: none.
-/
import Derived.Test.YtjkpnnbahhlopaaVecB
import Derived.Test.YtjkpnnbahhlopaaBr
namespace Go.Proofs.Ytjkpnnbahhlopaa
open Go Go.RowKit

end Go.Proofs.Ytjkpnnbahhlopaa
