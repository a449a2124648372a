/-
  Pieces of wires, the reference: contracts. Conditions: none.
-/
import Derived.Test.YtokhbfbanofchaaPc
import Derived.Test.YtokhbfbanofchaaSu
import Derived.Test.YtokhbfbanofchaaAq
namespace Go.Proofs.Ytokhbfbanofchaa
open Go Go.RowKit

section
variable {P : Program} {w0 : World}
end
end Go.Proofs.Ytokhbfbanofchaa
