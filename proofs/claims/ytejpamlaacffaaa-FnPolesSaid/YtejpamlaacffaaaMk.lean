/-
  Helpers of the laws over slices of floats, bools and relays: marks, copies, comparisons. Conditions: none.
-/
import Derived.Test.YtejpamlaacffaaaBB
import Derived.Test.YtejpamlaacffaaaFs
import Derived.Test.YtejpamlaacffaaaLn
namespace Go.Proofs.Ytejpamlaacffaaa
open Go Go.RowKit

section
variable {P : Program} {w0 : World} {ops : Array Oper} {nt : Nat} {env : List (Nat × AV)} {H : List HE} {rest : List Oper} {Q : Exit → Act → World → Prop} {ty : TypeId} {pos : String} {after : Array Edge}
end
section
variable {w0 : World} {ops : Array Oper} {nt : Nat} {env : List (Nat × AV)} {H : List HE} {rest : List Oper} {Q : Exit → Act → World → Prop} {ty : TypeId} {pos : String} {after : Array Edge}
end

def mixC (a b : Nat → List AV) (k j : Nat) : List AV := if j < k then a j else b j
def boolC (B : Nat → Bool) (k : Nat) : List AV := [vv (.bool (B k))]
def markB (K : Int) (k : Nat) : List AV := [vv (.bool (decide ((K + ((k * 1 + 0 : Nat) : Int)).tmod 3 = 0)))]
end Go.Proofs.Ytejpamlaacffaaa
