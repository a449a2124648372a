/-
  Levels of relays: what the law asks for, at every number. Conditions: none.
-/
import Derived.Test.YtebjdijlaaipdaaGa
import Derived.Test.YtebjdijlaaipdaaEr
import Derived.Test.YtebjdijlaaipdaaRn
import Derived.Test.YtebjdijlaaipdaaRm
import Derived.Test.YtebjdijlaaipdaaFf
import Derived.Test.YtebjdijlaaipdaaLa
namespace Go.Proofs.Ytebjdijlaaipdaa
open Go Go.RowKit

def mostX (c : Nat) : Nat := fop .quo .f32 (floatOfInt .f32 (1 + (c : Int))) 1073741824
def lvF (a c : Nat) : Nat → V3 := evF (mostX c) (2 + (a : Int))
def lvN (a : Nat) : Nat := tri (a + 2)
def lvU : Nat → Bool := fun _ => false
def lvG (c : Nat) (k : Nat) : Nat := if k = 1 then fneg .f32 (mostX c) else mostX c
def lvM (a c k : Nat) : Nat := runM (lvF a c) lvU (lvG c) (lvN a) k
/-- What the law asks of the list, of its first run and of its numbers. -/
def lvA (a c : Nat) : Bool := evOk (mostX c) (2 + (a : Int)) && relOk (lvF a c) (lvN a) && !cmpB .gtr .f64 (gapV (fcvt .f32 .f64 (lvM a c 0)) 4607182418800017408) 4562254508917369340 && !cmpB .gtr .f64 (gapV (fcvt .f32 .f64 (lvM a c 1)) 13830554455654793216) 4562254508917369340
def lvR (a c : Nat) : Bool := !cmpB .lss .f32 (behV (lvF a c) (lvN a) (mostX c) 0) 3129152111 && !cmpB .gtr .f32 (behV (lvF a c) (lvN a) (mostX c) 0) 1065361605
def lvC (a c : Nat) : Bool := let s := coerV (lvF a c) (lvN a) (mostX c) (lvN a)
  s.2 && !cmpB .geq .f32 s.1 0 && !cmpB .lss .f32 s.1 (fneg .f32 (mostX c))
def lvW (c d : Nat) : Nat → Nat := fadeF (mostX c) (1 + (d : Int))
/-- What the law asks of the fading fields. -/
def lvD (c d : Nat) : Bool := fadeOk (mostX c) (1 + (d : Int)) && !cmpB .neq .f32 (lvW c d 0) (mostX c) && (List.range d).all fun k => !((cmpB .gtr .f32 (lvW c d (k + 1)) 0 == cmpB .gtr .f32 (lvW c d k) 0) || cmpB .gtr .f32 (fop .mul .f32 (lvW c d (k + 1)) (lvW c d (k + 1))) (fop .mul .f32 (lvW c d k) (lvW c d k)))
def lvS (a c d : Nat) : Nat → Nat := runM (lvF a c) lvU (lvW c d) (lvN a)
def revF (F : Nat → Nat) (d k : Nat) : Nat := F (d - k)
/-- What the law asks of the two areas. -/
def lvE (a c d : Nat) : Bool := cmpB .lss .f64 (gapV (fcvt .f32 .f64 (areaV (lvW c d) (lvS a c d) d)) (fneg .f64 (fcvt .f32 .f64 (areaV (revF (lvW c d) d) (revF (lvS a c d) d) d)))) 4562254508917369340
set_option maxRecDepth 100000
theorem lvA_all : ∀ a, a < 7 → ∀ c, c < 8 → lvA a c = true := by decide +kernel
theorem lvR_all : ∀ a, a < 7 → ∀ c, c < 8 → lvR a c = true := by decide +kernel
theorem lvD_all : ∀ c, c < 8 → ∀ d, d < 12 → lvD c d = true := by decide +kernel
end Go.Proofs.Ytebjdijlaaipdaa
