/-
  Pieces of wires, on both sides: contracts. Conditions: none.
-/
import Derived.Test.YtokhbfbanofchaaPa
import Derived.Test.YtokhbfbanofchaaSu
import Derived.Test.YtokhbfbanofchaaAq
namespace Go.Proofs.Ytokhbfbanofchaa
open Go Go.RowKit

def segA (a b : V3) : AV := agg [fl .f32 a.x, fl .f32 a.y, fl .f32 a.z, fl .f32 b.x, fl .f32 b.y, fl .f32 b.z]
/-- A part of a way. -/
def partV (a b : V3) (p : Int) : V3 := scaleV (lessV b a) (fop .quo .f32 1065353216 (floatOfInt .f32 p))
def midV (a b : V3) (k p : Int) : V3 := addV a (scaleV (lessV b a) (fop .quo .f32 (fop .add .f32 (floatOfInt .f32 k) 1056964608) (floatOfInt .f32 p)))
def wayP (W : WI) (p r : Nat) : V3 := partV (W.F (r / p)) (W.F (nxt W.m (r / p))) (p : Int)
def midP (W : WI) (p r : Nat) : V3 := midV (W.F (r / p)) (W.F (nxt W.m (r / p))) ((r % p : Nat) : Int) (p : Int)
def pieC (W : WI) (p r : Nat) : List AV := [fl .f32 (wayP W p r).x, fl .f32 (wayP W p r).y, fl .f32 (wayP W p r).z, fl .f32 (midP W p r).x, fl .f32 (midP W p r).y, fl .f32 (midP W p r).z]
end Go.Proofs.Ytokhbfbanofchaa
