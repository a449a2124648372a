/-
  Floats are the same where they are equal and of one sign. Conditions: none.
-/
import Derived.Test.YtjkpnnbahhlopaaOr
namespace Go.Proofs.Ytjkpnnbahhlopaa
open Go Go.RowKit

/-- The worth of a rung b * q + t. -/
def rvq (b q t : Nat) : Nat := if q = 0 then t else (b + t) * 2 ^ (q - 1)
def negW (f : Ieee.Format) (X : Nat) : Bool := X / f.signWeight % 2 == 1
def sgnI (s : Bool) (n : Nat) : Int := if s then -(n : Int) else n
/-- The sign of a 64-bit float, as its bits' integer tells it. -/
def sgn64 (n : Nat) : Bool := decide (IntKind.wrap .i64 (n : Int) < 0)
end Go.Proofs.Ytjkpnnbahhlopaa
