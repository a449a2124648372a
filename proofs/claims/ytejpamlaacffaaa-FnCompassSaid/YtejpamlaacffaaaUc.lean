/-
  Magnets and their dipoles: the law's walk. Conditions: none.
-/
import Derived.Test.YtejpamlaacffaaaRe
import Derived.Test.YtejpamlaacffaaaGa
import Derived.Test.YtejpamlaacffaaaPa
import Derived.Test.YtejpamlaacffaaaSu
namespace Go.Proofs.Ytejpamlaacffaaa
open Go Go.RowKit

/-- The two poles of a magnet. -/
def barP (A B : V3) (S : Nat) (k : Nat) : P4 := if k = 1 then ⟨B, S⟩ else ⟨A, fneg .f32 S⟩
/-- The law's magnet, the place, the dipole. -/
def bX (F W : V3) : Nat → P4 := barP F (addV F (scaleV W 1040187392)) 1082130432
def atX (F : V3) (y z : Int) : V3 := addV F ⟨1094713344, floatOfInt .f32 (y - 4), floatOfInt .f32 (z - 4)⟩
def moX (F W : V3) : V3 := dipM (bX F W) 2
def plX (F W : V3) : V3 := scaleV (dipA (bX F W) 2) (fop .quo .f32 one32 (floatOfInt .f32 2))
/-- What the law asks of numbers. -/
structure DipN (F W L : V3) (y z : Int) : Prop where
  mo : cmpB .gtr .f32 (longV (lessV (moX F W) (scaleV W 1056964608))) 981668463 = false
  far : cmpB .gtr .f32 (longV (lessV (fieldsV (bX F W) (atX F y z) 2) (dipoleFieldV (plX F W) (moX F W) (atX F y z)))) 933741996 = false
  tor : cmpB .lss .f64 (gapV (fcvt .f32 .f64 (innerV (crossV (moX F W) L) L)) 0) 4576918229304087675 = true
  en : cmpB .geq .f64 (fcvt .f32 .f64 (fneg .f32 (innerV (moX F W) L))) (fop .sub .f64 (fop .mul .f64 (fneg .f64 (fcvt .f32 .f64 (longV (moX F W)))) (fcvt .f32 .f64 (longV L))) 4576918229304087675) = true
end Go.Proofs.Ytejpamlaacffaaa
