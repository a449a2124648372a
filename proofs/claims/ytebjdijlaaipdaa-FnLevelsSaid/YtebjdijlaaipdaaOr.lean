/-
  Floats that are no NaN are ordered as integers are. Conditions: none.
-/
import Derived.Test.YtebjdijlaaipdaaBA
namespace Go.Proofs.Ytebjdijlaaipdaa
open Go Go.RowKit

/-- A place beyond all finite numbers. -/
def farF (f : Ieee.Format) : Int := 2 ^ (f.fractionBits + 1 + 2 ^ f.exponentBits)
def rkD (f : Ieee.Format) : Ieee.Datum → Int
  | .number s m i => Ieee.signed s m (i - f.leastPlace).toNat
  | .infinity s => if s then -(farF f) else farF f
  | .nan _ _ => 0
/-- What a float is worth among the others. -/
def rk (k : FloatKind) (X : Nat) : Int := rkD k.format (k.format.read X)

/- The comparisons of two that are no NaN, as booleans. -/
section
variable {k : FloatKind} {X Y : Nat} (hx : isNan k X = false) (hy : isNan k Y = false)
include hx hy
end
end Go.Proofs.Ytebjdijlaaipdaa
