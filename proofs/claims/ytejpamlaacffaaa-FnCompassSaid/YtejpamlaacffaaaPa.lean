/-
  A literal slice as a slice of the call's own; loops with facts and a slice that grows. Conditions: none.
-/
import Derived.Test.YtejpamlaacffaaaBB
import Derived.Test.YtejpamlaacffaaaSu
namespace Go.Proofs.Ytejpamlaacffaaa
open Go Go.RowKit

section
variable {P : Program} {w0 : World} {ops : Array Oper} {nt : Nat} {env : List (Nat × AV)} {H : List HE} {rest : List Oper} {Q : Exit → Act → World → Prop} {ty : TypeId} {pos : String} {after : Array Edge}
end
end Go.Proofs.Ytejpamlaacffaaa
