/-
  What wires do to a moment, on both sides: contracts. Conditions: none.
-/
import Derived.Test.YtokhbfbanofchaaPa
import Derived.Test.YtokhbfbanofchaaSu
import Derived.Test.YtokhbfbanofchaaAq
namespace Go.Proofs.Ytokhbfbanofchaa
open Go Go.RowKit

/-- A step along an axis. -/
def axV (X : Nat) : Nat → V3
  | 0 => ⟨X, 0, 0⟩
  | 1 => ⟨0, X, 0⟩
  | _ => ⟨0, 0, X⟩
/-- How the product with the field changes along an axis. -/
def slopeX (M : V3) (W : Nat → WI) (n : Nat) (t : V3) (X k : Nat) : Nat :=
  fop .quo .f32 (fop .sub .f32 (innerV M (allF W (addV t (axV X k)) n)) (innerV M (allF W (lessV t (axV X k)) n))) (fop .mul .f32 1073741824 X)
def slopesV (M : V3) (W : Nat → WI) (n : Nat) (t : V3) (X : Nat) : V3 := ⟨slopeX M W n t X 0, slopeX M W n t X 1, slopeX M W n t X 2⟩
theorem allZ_no {Z : V3} {W : Nat → WI} {t : V3} (h : finV Z = false) : ∀ k, finV (allZ Z W t k) = false
  | 0 => h
  | k + 1 => by
    cases h2 : finV (allZ Z W t (k + 1))
    · rfl
    · have := (finV_add (show finV (addV (allZ Z W t k) (fieldW (W k) t)) = true from h2)).1
      rw [allZ_no h k] at this
      cases this
theorem allF_no {W : Nat → WI} {t : V3} {n : Nat} (h : finV t = false) : finV (allF W t n) = false := by
  unfold allF
  rw [if_neg (by rw [h]; simp)]
  refine allZ_no ?_ n
  cases h2 : finV (lessV t t)
  · rfl
  · rw [(finV_less h2).1] at h; cases h
end Go.Proofs.Ytokhbfbanofchaa
