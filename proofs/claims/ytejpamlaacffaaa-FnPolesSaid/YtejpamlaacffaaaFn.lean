/-
  What is finite came of what is finite. Conditions: none.
-/
import Derived.Test.YtejpamlaacffaaaFv
namespace Go.Proofs.Ytejpamlaacffaaa
open Go Go.RowKit

def numD : Ieee.Datum → Bool
  | .number .. => true
  | _ => false
/- Vectors. -/
end Go.Proofs.Ytejpamlaacffaaa
