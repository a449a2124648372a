/-
  The field of a dipole, on both sides: contracts. Conditions: none.
-/
import Derived.Test.YtejpamlaacffaaaCon
namespace Go.Proofs.Ytejpamlaacffaaa
open Go Go.RowKit

def zeroV : V3 := ⟨0, 0, 0⟩
/-- 1 as a float32. -/
def one32 : Nat := 1065353216
def dipoleNear (W M : V3) (R : Nat) : V3 := scaleV (lessV (scaleV (scaleV W (fop .quo .f32 one32 R)) (fop .mul .f32 1077936128 (innerV M (scaleV W (fop .quo .f32 one32 R))))) M) (fop .quo .f32 one32 (cubeF R))
def dipoleFieldV (A M C : V3) : V3 :=
  if cmpB .gtr .f32 (longV (lessV C A)) 0 = true then dipoleNear (lessV C A) M (longV (lessV C A)) else zeroV

end Go.Proofs.Ytejpamlaacffaaa
