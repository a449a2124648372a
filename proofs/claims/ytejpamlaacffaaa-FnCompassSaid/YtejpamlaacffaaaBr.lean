/-
  Slices of structs of floats: from the flat readings to the abstract ones and back. Conditions: none.
-/
import Derived.Test.YtejpamlaacffaaaSt
import Derived.Test.YtejpamlaacffaaaApp
namespace Go.Proofs.Ytejpamlaacffaaa
open Go Go.RowKit

def poleC (X : Nat → P4) (k : Nat) : List AV := [fl .f32 (X k).at_.x, fl .f32 (X k).at_.y, fl .f32 (X k).at_.z, fl .f32 (X k).s]
def vecC (X : Nat → V3) (k : Nat) : List AV := [fl .f32 (X k).x, fl .f32 (X k).y, fl .f32 (X k).z]

theorem getD_some {X : List Nat} {j : Nat} (h : j < X.length) : X[j]? = some (X.getD j 0) := by
  rw [List.getD_eq_getElem?_getD, List.getElem?_eq_getElem h]
  rfl
end Go.Proofs.Ytejpamlaacffaaa
