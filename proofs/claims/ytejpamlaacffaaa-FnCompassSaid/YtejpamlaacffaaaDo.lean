/-
  The dipole of poles and the forces of poles on each other, on both sides: contracts. Conditions: none.
-/
import Derived.Test.YtejpamlaacffaaaFP
namespace Go.Proofs.Ytejpamlaacffaaa
open Go Go.RowKit

def dipA (X : Nat → P4) : Nat → V3
  | 0 => zeroV
  | k + 1 => addV (dipA X k) (X k).at_
def dipM (X : Nat → P4) : Nat → V3
  | 0 => zeroV
  | k + 1 => addV (dipM X k) (scaleV (X k).at_ (X k).s)
def dipOk (n : Nat) : Bool := decide ((n : Int) ≤ 24) && !decide ((n : Int) = 0)
def dipAtV (X : Nat → P4) (n : Nat) : V3 := if dipOk n = true then scaleV (dipA X n) (fop .quo .f32 one32 (floatOfInt .f32 n)) else zeroV
def dipMoV (X : Nat → P4) (n : Nat) : V3 := if dipOk n = true then dipM X n else zeroV

end Go.Proofs.Ytejpamlaacffaaa
