/-
  Helpers of the laws over slices of floats, bools and relays: marks, copies, comparisons. Conditions: none.
-/
import Derived.Test.YtokhbfbanofchaaBB
import Derived.Test.YtokhbfbanofchaaFs
import Derived.Test.YtokhbfbanofchaaLn
namespace Go.Proofs.Ytokhbfbanofchaa
open Go Go.RowKit

section
variable {P : Program} {w0 : World} {ops : Array Oper} {nt : Nat} {env : List (Nat × AV)} {H : List HE} {rest : List Oper} {Q : Exit → Act → World → Prop} {ty : TypeId} {pos : String} {after : Array Edge}
end
section
variable {w0 : World} {ops : Array Oper} {nt : Nat} {env : List (Nat × AV)} {H : List HE} {rest : List Oper} {Q : Exit → Act → World → Prop} {ty : TypeId} {pos : String} {after : Array Edge}
/-- A call of a function value that stands in a slot. -/
theorem sCs {d f t : Nat} {A : AV} {As : List AV} {args : List Operand} {ts : Array TypeId} (hc : Con Try.prog f As (RetA A)) (k : AOps Try.prog w0 ops ⟨nt, (d, A) :: env, H⟩ rest Q)
    (hx : Opd ⟨nt, env, H⟩ (.tmp t) (vv (.func (.func f) #[] #[])) := by exact Opd.tmp rfl)
    (hg : Givs ⟨nt, env, H⟩ args As := by repeat (first | exact Givs.nil | refine Givs.cons (by first | exact Giv.of (Opd.tmp rfl) | exact Giv.of (Opd.c _)) ?_))
    (hd : Nat.blt d nt = true := by exact rfl)
    : AOps Try.prog w0 ops ⟨nt, env, H⟩ (⟨some d, .call ⟨.value (.tmp t), args.toArray, ts⟩, ty, pos, after, none⟩ :: rest) Q := aops_ev (ev_call rfl hx hc hg) hd k
end

def mixC (a b : Nat → List AV) (k j : Nat) : List AV := if j < k then a j else b j
def boolC (B : Nat → Bool) (k : Nat) : List AV := [vv (.bool (B k))]
def markB (K : Int) (k : Nat) : List AV := [vv (.bool (decide ((K + ((k * 1 + 0 : Nat) : Int)).tmod 3 = 0)))]
end Go.Proofs.Ytokhbfbanofchaa
