/-
  Places and values of nodes of a mesh, on both sides: contracts; the law's walk. Conditions: none.
-/
import Derived.Test.YtokhbfbanofchaaMe
import Derived.Test.YtokhbfbanofchaaCon
import Derived.Test.YtokhbfbanofchaaSu
namespace Go.Proofs.Ytokhbfbanofchaa
open Go Go.RowKit

def placeV (M : MH) (x y z : Nat) : V3 := addV M.F ⟨fop .mul .f32 x M.S, fop .mul .f32 y M.S, fop .mul .f32 z M.S⟩
def nodeI (M : MH) (x y z : Int) : Int := x + M.a * (y + M.b * z)
def nodeW (M : MH) (n : Nat) (x y z : Int) : Bool := validB M n && inB x 0 (M.a - 1) && inB y 0 (M.b - 1) && inB z 0 (M.c - 1)
def nodeP (M : MH) (x y z : Int) : V3 := placeV M (floatOfInt .f32 x) (floatOfInt .f32 y) (floatOfInt .f32 z)
def nodeOk (M : MH) (n : Nat) (x y z : Int) : Bool := nodeW M n x y z && finV (nodeP M x y z)
def zeroV : V3 := ⟨0, 0, 0⟩
def nodeA (M : MH) (n : Nat) (x y z : Int) : V3 := if nodeOk M n x y z = true then nodeP M x y z else zeroV
def nodeB (M : MH) (n : Nat) (F : Nat → V3) (x y z : Int) : V3 := if nodeOk M n x y z = true then F (nodeI M x y z).toNat else zeroV
end Go.Proofs.Ytokhbfbanofchaa
