/-
  Whether numbers and vectors are the same, on both sides: contracts. Conditions: none.
-/
import Derived.Test.YtejpamlaacffaaaSn
import Derived.Test.YtejpamlaacffaaaCon
import Derived.Test.YtejpamlaacffaaaBr
import Derived.Test.YtejpamlaacffaaaSu
import Derived.Laws.Externs
namespace Go.Proofs.Ytejpamlaacffaaa
open Go Go.RowKit

/-- What is known of canonical bits. -/
structure CanF (k : FloatKind) (X : Nat) : Prop where
  lt : isNan k X = false → X < 2 ^ k.format.width
  nan : isNan k X = true → X = nanOf k
section
variable {P : Program} {w0 : World} {s : AS} {o : Oper} {Q : Exit → Act → World → Prop}
end
def sameB (X Y : Nat) : Bool := decide (X = Y)
def sameV (A B : V3) : Bool := sameB A.x B.x && (sameB A.y B.y && sameB A.z B.z)
def bitsI (X : Nat) : Int := if isNan .f32 X = true then 2143289344 else (X : Int)
end Go.Proofs.Ytejpamlaacffaaa
