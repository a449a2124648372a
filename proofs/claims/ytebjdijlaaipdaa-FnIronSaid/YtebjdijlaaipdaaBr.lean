/-
  Slices of structs of floats: from the flat readings to the abstract ones and back. Conditions: none.
-/
import Derived.Test.YtebjdijlaaipdaaSt
import Derived.Test.YtebjdijlaaipdaaApp
namespace Go.Proofs.Ytebjdijlaaipdaa
open Go Go.RowKit

def poleC (X : Nat → P4) (k : Nat) : List AV := [fl .f32 (X k).at_.x, fl .f32 (X k).at_.y, fl .f32 (X k).at_.z, fl .f32 (X k).s]
def vecC (X : Nat → V3) (k : Nat) : List AV := [fl .f32 (X k).x, fl .f32 (X k).y, fl .f32 (X k).z]

end Go.Proofs.Ytebjdijlaaipdaa
