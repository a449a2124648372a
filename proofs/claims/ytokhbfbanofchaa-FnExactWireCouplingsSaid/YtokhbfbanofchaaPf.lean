/-
  What wires do to a wire, the reference: contracts. Conditions: none.
-/
import Derived.Test.YtokhbfbanofchaaPe
import Derived.Test.YtokhbfbanofchaaSu
import Derived.Test.YtokhbfbanofchaaAq
namespace Go.Proofs.Ytokhbfbanofchaa
open Go Go.RowKit

end Go.Proofs.Ytokhbfbanofchaa
