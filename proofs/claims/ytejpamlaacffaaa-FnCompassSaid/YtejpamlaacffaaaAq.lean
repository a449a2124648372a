/-
  Regions that draw their order: more edges. Conditions: none.
-/
import Derived.Test.YtejpamlaacffaaaBB
namespace Go.Proofs.Ytejpamlaacffaaa
open Go Go.RowKit

/-- x is a forerunner of q, near or far. -/
def anc (ops : Array Oper) : Nat → Nat → Nat → Bool
  | 0, _, _ => false
  | f + 1, q, x => match ops[q]? with
    | none => false
    | some o => o.after.toList.any fun e => Region.binds .any e && (Nat.beq e.on x || anc ops f e.on x)
/-- Whoever is listed stands behind its forerunners. -/
def Closed (ops : Array Oper) (listed : Array Bool) : Prop := ∀ j o, ops[j]? = some o → listed.getD j false = true → ∀ e ∈ o.after, Region.binds .any e = true → listed.getD e.on false = true
/-- What is looked at of an edge from p to q. -/
def edgeC (p q : Nat) (l : List Oper) : Bool :=
  !(Nat.beq p q) && Region.noSelect l.toArray && (match l[p]?, l[q]? with
    | some op, some oq => (match op.op with
      | .extract _ _ => true
      | .pick .. => true
      | _ => false) && op.guard.isNone && op.dst.isSome &&
      (op.after.toList.all fun e => !Region.binds .any e || anc l.toArray l.length q e.on) &&
      ((List.range l.length).all fun j => Nat.beq j p || (op.after.toList.any fun e => Region.binds .any e && Nat.beq e.on j) || match l[j]? with
        | some oj => (oj.after.toList.any fun e => Region.binds .any e && Nat.beq e.on p) || op.apart l.toArray oj
        | none => true)
    | _, _ => false)

section
variable {P : Program} {Q : Exit → Act → World → Prop} {l : List Oper} {p q : Nat}
end
def edgesC (n : Nat) : List (Nat × Nat) → List Oper → Bool
  | [], _ => true
  | (p, q) :: r, l => Nat.ble n q && edgeC p q l && edgesC n r (addE p q l)
section
variable {P : Program} {Q : Exit → Act → World → Prop}
end
end Go.Proofs.Ytejpamlaacffaaa
