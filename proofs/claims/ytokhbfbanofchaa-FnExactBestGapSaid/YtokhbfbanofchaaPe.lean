/-
  What wires do to a wire, on both sides: contracts. Conditions: none.
-/
import Derived.Test.YtokhbfbanofchaaPb
import Derived.Test.YtokhbfbanofchaaPd
import Derived.Test.YtokhbfbanofchaaSu
import Derived.Test.YtokhbfbanofchaaAq
namespace Go.Proofs.Ytokhbfbanofchaa
open Go Go.RowKit

def sumN (g : Nat → V3) : Nat → V3
  | 0 => ⟨0, 0, 0⟩
  | k + 1 => addV (sumN g k) (g k)
theorem field_eq {W : Nat → WI} {t : V3} {n : Nat} : fieldOk W t n = finV (allF W t n) := by
  unfold fieldOk
  cases h : finV t
  · rw [allF_no h]; rfl
  · rw [allF_fin h]; rfl
theorem field_out {W : Nat → WI} {t : V3} {n : Nat} (h : fieldOk W t n = true) : sumF W t n = allF W t n := by
  unfold fieldOk at h
  rw [Bool.and_eq_true] at h
  exact (allF_fin h.1 n).symm
def forceG (W : Nat → WI) (n : Nat) (V : WI) (p r : Nat) : V3 := crossV (wayP V p r) (allF W (midP V p r) n)
def torqueG (W : Nat → WI) (n : Nat) (V : WI) (D : V3) (p r : Nat) : V3 := crossV (lessV (midP V p r) D) (scaleV (crossV (wayP V p r) (allF W (midP V p r) n)) V.X)
def forceV (W : Nat → WI) (n : Nat) (V : WI) (p : Int) : V3 := scaleV (sumN (forceG W n V p.toNat) (cntW V.m V.c * p.toNat)) V.X
def torqueV (W : Nat → WI) (n : Nat) (V : WI) (D : V3) (p : Int) : V3 := sumN (torqueG W n V D p.toNat) (cntW V.m V.c * p.toNat)
def onB (W : Nat → WI) (n : Nat) (V : WI) (p : Int) : Bool := okWs W n && (okW V && inB p 1 8)
def onB2 (W : Nat → WI) (n : Nat) (V : WI) (D : V3) (p : Int) : Bool := okWs W n && (okW V && (finV D && inB p 1 8))
end Go.Proofs.Ytokhbfbanofchaa
