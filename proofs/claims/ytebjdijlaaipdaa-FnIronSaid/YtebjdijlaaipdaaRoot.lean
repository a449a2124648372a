/-
  The square root of a float32 by way of float64: it never overflows. Conditions: none.
-/
import Derived.Test.YtebjdijlaaipdaaBA
namespace Go.Proofs.Ytebjdijlaaipdaa
open Go Go.RowKit

/-- The square root on canonical bits. -/
def fsqrt (X : Nat) : Nat := (FloatKind.f64.format.sqrt X).getD (nanOf .f64)
def rootF (X : Nat) : Nat := fcvt .f64 .f32 (fsqrt (fcvt .f32 .f64 X))
def longV (A : V3) : Nat := rootF (innerV A A)

theorem log2_lt {m k : Nat} (h0 : m ≠ 0) (h : m < 2 ^ k) : m.log2 < k := by rw [Nat.log2_lt h0]; exact h

end Go.Proofs.Ytebjdijlaaipdaa
