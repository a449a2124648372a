/-
  Fields of lists of wires: the program's side. Conditions: none.
-/
import Derived.Test.YtokhbfbanofchaaWd
import Derived.Test.YtokhbfbanofchaaSu
import Derived.Test.YtokhbfbanofchaaAq
namespace Go.Proofs.Ytokhbfbanofchaa
open Go Go.RowKit

def sumF (W : Nat → WI) (t : V3) : Nat → V3
  | 0 => ⟨0, 0, 0⟩
  | k + 1 => addV (sumF W t k) (fieldW (W k) t)
def fieldOk (W : Nat → WI) (t : V3) (n : Nat) : Bool := finV t && finV (sumF W t n)
end Go.Proofs.Ytokhbfbanofchaa
