/-
  Calls that hand back deep copies; marks of them: rules. Conditions: none.
-/
import Derived.Test.YtokhbfbanofchaaWm
import Derived.Test.YtokhbfbanofchaaSu
namespace Go.Proofs.Ytokhbfbanofchaa
open Go Go.RowKit

section
variable {P : Program} {w0 : World} {ops : Array Oper} {nt : Nat} {env : List (Nat × AV)} {H : List HE} {rest : List Oper} {Q : Exit → Act → World → Prop} {ty : TypeId} {pos : String} {after : Array Edge}
end
section
variable {w0 : World} {ops : Array Oper} {nt : Nat} {env : List (Nat × AV)} {H : List HE} {rest : List Oper} {Q : Exit → Act → World → Prop} {ty : TypeId} {pos : String} {after : Array Edge}
end
section
variable {P : Program} {nt : Nat} {env : List (Nat × AV)} {H : List HE} {ops : Array Oper} {rest : List Oper} {ty : TypeId} {pos : String} {after : Array Edge} {ns : NS} {K : AS → NS → Prop}
end
end Go.Proofs.Ytokhbfbanofchaa
