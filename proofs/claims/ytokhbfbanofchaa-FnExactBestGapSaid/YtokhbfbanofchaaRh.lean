/-
  Calls that hand back two new slices; loops with more than one value. Conditions: none.
-/
import Derived.Test.YtokhbfbanofchaaBB
import Derived.Test.YtokhbfbanofchaaCon
namespace Go.Proofs.Ytokhbfbanofchaa
open Go Go.RowKit

def HE.pure : HE → Prop
  | .row _ _ _ _ c => ∀ k, (c k).all (·.p) = true
  | .cells _ l => l.all (·.p) = true
  | .fr _ _ => False
/-- What a function hands back that makes memory. -/
def RetH {ι : Type} (A : ι → AV) (H' : ι → List HE) (w : World) (v : Value) (w' : World) : Prop := ∃ i, (∀ wx, (A i).R wx v) ∧ HOk w w' (H' i)
section
variable {P : Program} {w0 : World} {ops : Array Oper} {nt : Nat} {env : List (Nat × AV)} {H : List HE} {rest : List Oper} {Q : Exit → Act → World → Prop} {ty : TypeId} {pos : String} {after : Array Edge}
end
def RetRow2 (T1 s1 n1 : Nat) (c1 : Nat → List AV) (T2 s2 n2 : Nat) (c2 : Nat → List AV) (mk : Value → Value → AV) : World → Value → World → Prop := RetH (ι := Value × Value) (fun i => mk i.1 i.2) (fun i => [.row i.1 T1 s1 n1 c1, .row i.2 T2 s2 n2 c2])
section
variable {w0 : World} {ops : Array Oper} {nt : Nat} {env : List (Nat × AV)} {H : List HE} {rest : List Oper} {Q : Exit → Act → World → Prop} {ty : TypeId} {pos : String} {after : Array Edge}
end
section
variable {P : Program} {w0 : World} {s : AS} {Q : Exit → Act → World → Prop} {c : Code}
def AgG {ι : Type} (w0 : World) (st : Nat → ι → AS) (n k : Nat) (a : Act) (w : World) : Prop := k + 1 ≤ n ∧ ∃ v, Sat w0 (st (k + 1) v) a w
end
end Go.Proofs.Ytokhbfbanofchaa
