/-
  Arguments opened, in the abstract form. Conditions: none.
-/
import Derived.Test.YtejpamlaacffaaaOpen
import Derived.Test.YtejpamlaacffaaaBr
namespace Go.Proofs.Ytejpamlaacffaaa
open Go Go.RowKit Go.ChangeShapes Go.WideShapes
set_option maxRecDepth 100000

section
variable {H : Type} {enc : TypeId × Value → H} {w : World} {base : Nat} {spare : Nat → Bool} {held : Bool} {r : Reach} {b0 : Nat} {v : Value} {d : DataW H} {p : List MemPlace}
end
end Go.Proofs.Ytejpamlaacffaaa
