/-
  Fields and forces of poles, on both sides: contracts. Conditions: none.
-/
import Derived.Test.YtejpamlaacffaaaDF
import Derived.Test.YtejpamlaacffaaaBr
namespace Go.Proofs.Ytejpamlaacffaaa
open Go Go.RowKit

def poleFieldV (A : V3) (S : Nat) (C : V3) : V3 :=
  if cmpB .gtr .f32 (longV (lessV C A)) 0 = true then scaleV (lessV C A) (fop .quo .f32 S (cubeF (longV (lessV C A)))) else zeroV
def poleForceV (A : V3) (S : Nat) (B : V3) (R : Nat) : V3 := scaleV (poleFieldV A S B) R

def fieldsV (X : Nat → P4) (C : V3) : Nat → V3
  | 0 => zeroV
  | k + 1 => addV (fieldsV X C k) (poleFieldV (X k).at_ (X k).s C)

def fieldOfPolesV (X : Nat → P4) (C : V3) (n : Nat) : V3 := if (n : Int) ≤ 24 then fieldsV X C n else zeroV
end Go.Proofs.Ytejpamlaacffaaa
