/-
  Helpers of the laws over slices of bools and of relays: copies, comparisons, marks. Conditions: none.
-/
import Derived.Test.YtebjdijlaaipdaaMk
namespace Go.Proofs.Ytebjdijlaaipdaa
open Go Go.RowKit

section
variable {P : Program} {w0 : World} {ops : Array Oper} {Q : Exit → Act → World → Prop}
end

/-- An element in place of another. -/
def updC (c : Nat → List AV) (k : Nat) (l : List AV) (j : Nat) : List AV := if j = k then l else c j
def zero3 : List AV := [fl .f32 0, fl .f32 0, fl .f32 0]
end Go.Proofs.Ytebjdijlaaipdaa
