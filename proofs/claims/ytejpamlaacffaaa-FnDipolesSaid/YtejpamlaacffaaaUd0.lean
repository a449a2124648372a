/-
  The field of a magnet and of its dipole, computed. Conditions: none.
-/
import Derived.Test.YtejpamlaacffaaaUb
namespace Go.Proofs.Ytejpamlaacffaaa
open Go Go.RowKit
set_option maxRecDepth 100000
set_option maxHeartbeats 40000000 in
theorem farY_0 : (alln 9 fun z => farC (-4) ((z : Int) - 4)) = true := by decide +kernel
set_option maxHeartbeats 40000000 in
theorem farY_1 : (alln 9 fun z => farC (-3) ((z : Int) - 4)) = true := by decide +kernel
set_option maxHeartbeats 40000000 in
theorem farY_2 : (alln 9 fun z => farC (-2) ((z : Int) - 4)) = true := by decide +kernel
end Go.Proofs.Ytejpamlaacffaaa
