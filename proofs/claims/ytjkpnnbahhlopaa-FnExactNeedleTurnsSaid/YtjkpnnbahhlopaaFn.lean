/-
  What is finite came of what is finite. Conditions: none.
-/
import Derived.Test.YtjkpnnbahhlopaaFv
namespace Go.Proofs.Ytjkpnnbahhlopaa
open Go Go.RowKit

def numD : Ieee.Datum → Bool
  | .number .. => true
  | _ => false
theorem order_nan32 (Y : Nat) : FloatKind.f32.format.order (nanOf .f32) Y = none := order_nan_left (isNan_nanOf .f32)
theorem finB_num (X : Nat) : finB X = numD (FloatKind.f32.format.read X) := by
  have hnan : cmpB .eql .f32 (nanOf .f32) 0 = false := by
    show (FloatKind.f32.format.order (nanOf .f32) 0 == some .eq) = false
    rw [order_nan32]
    rfl
  unfold finB
  cases h : FloatKind.f32.format.read X with
  | number s m i =>
    have e : FloatKind.f32.format.sub X X = some 0 := by
      unfold Ieee.Format.sub
      rw [h]
      have e0 : min i i = i := Int.min_self i
      have e1 : Ieee.signed s m (i - i).toNat + Ieee.signed (!s) m (i - i).toNat = 0 := by
        unfold Ieee.signed
        cases s <;> simp <;> omega
      simp only [Ieee.Datum.opposite, Ieee.Datum.sum, e0, e1, Option.map_some]
      cases s <;> rfl
    have e2 : fop .sub .f32 X X = 0 := by
      show (FloatKind.f32.format.sub X X).getD _ = 0
      rw [e]; rfl
    rw [e2]
    show cmpB .eql .f32 0 0 = true
    decide +kernel
  | infinity s =>
    have e2 : fop .sub .f32 X X = nanOf .f32 := by
      show (FloatKind.f32.format.sub X X).getD _ = _
      unfold Ieee.Format.sub
      rw [h]
      cases s <;> rfl
    rw [e2, hnan]
    rfl
  | nan s t =>
    have e2 : fop .sub .f32 X X = nanOf .f32 := by
      show (FloatKind.f32.format.sub X X).getD _ = _
      unfold Ieee.Format.sub
      rw [h]
      rfl
    rw [e2, hnan]
    rfl
/- Vectors. -/
end Go.Proofs.Ytjkpnnbahhlopaa
