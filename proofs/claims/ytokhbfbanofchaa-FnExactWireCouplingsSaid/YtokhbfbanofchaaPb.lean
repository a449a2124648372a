/-
  What wires do to a moment, on both sides: contracts. Conditions: none.
-/
import Derived.Test.YtokhbfbanofchaaPa
import Derived.Test.YtokhbfbanofchaaSu
import Derived.Test.YtokhbfbanofchaaAq
namespace Go.Proofs.Ytokhbfbanofchaa
open Go Go.RowKit

/-- A step along an axis. -/
def axV (X : Nat) : Nat → V3
  | 0 => ⟨X, 0, 0⟩
  | 1 => ⟨0, X, 0⟩
  | _ => ⟨0, 0, X⟩
/-- How the product with the field changes along an axis. -/
def slopeX (M : V3) (W : Nat → WI) (n : Nat) (t : V3) (X k : Nat) : Nat :=
  fop .quo .f32 (fop .sub .f32 (innerV M (allF W (addV t (axV X k)) n)) (innerV M (allF W (lessV t (axV X k)) n))) (fop .mul .f32 1073741824 X)
def slopesV (M : V3) (W : Nat → WI) (n : Nat) (t : V3) (X : Nat) : V3 := ⟨slopeX M W n t X 0, slopeX M W n t X 1, slopeX M W n t X 2⟩
end Go.Proofs.Ytokhbfbanofchaa
