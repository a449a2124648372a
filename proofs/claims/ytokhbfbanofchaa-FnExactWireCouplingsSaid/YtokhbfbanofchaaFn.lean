/-
  What is finite came of what is finite. Conditions: none.
-/
import Derived.Test.YtokhbfbanofchaaFv
namespace Go.Proofs.Ytokhbfbanofchaa
open Go Go.RowKit

def numD : Ieee.Datum → Bool
  | .number .. => true
  | _ => false
/- Vectors. -/
end Go.Proofs.Ytokhbfbanofchaa
