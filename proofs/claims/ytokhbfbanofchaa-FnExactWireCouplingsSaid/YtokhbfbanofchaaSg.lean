/-
  Segments of wires and their fields, on both sides: contracts. Conditions: none.
-/
import Derived.Test.YtokhbfbanofchaaWr
import Derived.Test.YtokhbfbanofchaaFv
import Derived.Test.YtokhbfbanofchaaAp
import Derived.Test.YtokhbfbanofchaaSu
namespace Go.Proofs.Ytokhbfbanofchaa
open Go Go.RowKit

def segD (a b t : V3) : Nat := fop .mul .f32 (fop .mul .f32 (longV (lessV t a)) (longV (lessV t b))) (fop .add .f32 (fop .mul .f32 (longV (lessV t a)) (longV (lessV t b))) (innerV (lessV t a) (lessV t b)))
def segQ (a b t : V3) : Nat := fop .quo .f32 (fop .add .f32 (longV (lessV t a)) (longV (lessV t b))) (segD a b t)
def segF (a b t : V3) : V3 := if (cmpB .gtr .f32 (segD a b t) 0 && finB (segQ a b t)) = true then scaleV (crossV (lessV t a) (lessV t b)) (segQ a b t) else ⟨0, 0, 0⟩
end Go.Proofs.Ytokhbfbanofchaa
