/-
  Finite vectors and lengths, on both sides: contracts. Conditions: none.
-/
import Derived.Test.YtejpamlaacffaaaLn
import Derived.Test.YtejpamlaacffaaaSu
namespace Go.Proofs.Ytejpamlaacffaaa
open Go Go.RowKit

def finV (A : V3) : Bool := finB A.x && finB A.y && finB A.z
def lengthB (X : Nat) : Bool := finB X && cmpB .gtr .f32 X 0
def sizesB (a b c : Int) : Bool := inB a 1 216 && inB b 1 216 && inB c 1 216 && decide (a * b * c ≤ 216)
end Go.Proofs.Ytejpamlaacffaaa
