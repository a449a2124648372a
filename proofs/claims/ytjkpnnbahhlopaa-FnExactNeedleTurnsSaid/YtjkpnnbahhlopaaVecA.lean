/-
  Contracts of the vector functions of both packages. Conditions: none.
-/
import Derived.Test.YtjkpnnbahhlopaaRows
import Derived.Test.YtjkpnnbahhlopaaBA
namespace Go.Proofs.Ytjkpnnbahhlopaa
open Go Go.RowKit
attribute [local go_sem] run_store_float

end Go.Proofs.Ytjkpnnbahhlopaa
