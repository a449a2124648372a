/-
  Numbers within bounds, finite numbers, lengths of lines, on both sides: contracts. Conditions: none.
-/
import Derived.Test.YtejpamlaacffaaaCon
import Derived.Test.YtejpamlaacffaaaBr
import Derived.Test.YtejpamlaacffaaaSu
namespace Go.Proofs.Ytejpamlaacffaaa
open Go Go.RowKit

def finB (X : Nat) : Bool := cmpB .eql .f32 (fop .sub .f32 X X) 0
def inB (x l h : Int) : Bool := decide (x ≥ l) && decide (x ≤ h)
def numV (X : Nat) : Nat := if finB X = true then X else 0

def lenV (F : Nat → V3) : Nat → Nat
  | 0 => 0
  | k + 1 => fop .add .f32 (lenV F k) (longV (lessV (F (k + 1)) (F k)))
def lineLenV (F : Nat → V3) (n : Nat) : Nat := if inB n 1 64 = true then numV (lenV F (n - 1)) else 0
def lineLenB (F : Nat → V3) (n : Nat) : Bool := if inB n 1 64 = true then finB (lenV F (n - 1)) else false
end Go.Proofs.Ytejpamlaacffaaa
