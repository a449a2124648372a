/-
  Slices of floats opened. Conditions: none.
-/
import Derived.Test.YtebjdijlaaipdaaOp
import Derived.Test.YtebjdijlaaipdaaFs
namespace Go.Proofs.Ytebjdijlaaipdaa
open Go Go.RowKit Go.ChangeShapes Go.WideShapes
set_option maxRecDepth 100000

section
variable {H : Type} {enc : TypeId × Value → H} {w : World} {base : Nat} {spare : Nat → Bool} {held : Bool} {r : Reach} {b0 : Nat} {v : Value} {d : DataW H} {p : List MemPlace}
end
end Go.Proofs.Ytebjdijlaaipdaa
