/-
  The rules of the new walk over regions that draw. Conditions: none.
-/
import Derived.Test.YtjkpnnbahhlopaaSt
import Derived.Test.YtjkpnnbahhlopaaBB
namespace Go.Proofs.Ytjkpnnbahhlopaa
open Go Go.RowKit
section
variable {P : Program} {w0 : World} {ops : Array Oper} {nt : Nat} {env : List (Nat × AV)} {H : List HE} {s : AS} {rest : List Oper} {Q : Exit → Act → World → Prop} {d : Option Tmp} {ty : TypeId} {pos : String} {after : Array Edge} {ns : NS} {K : AS → NS → Prop}
end
section
variable {ops : Array Oper} {op : Op} {nt : Nat} {env : List (Nat × AV)} {H : List HE} {rest : List Oper} {ty : TypeId} {pos : String} {after : Array Edge} {ns : NS} {K : AS → NS → Prop}
end
end Go.Proofs.Ytjkpnnbahhlopaa
