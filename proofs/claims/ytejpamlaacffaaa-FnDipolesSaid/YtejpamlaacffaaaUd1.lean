/-
  The field of a magnet and of its dipole, computed. Conditions: none.
-/
import Derived.Test.YtejpamlaacffaaaUb
namespace Go.Proofs.Ytejpamlaacffaaa
open Go Go.RowKit
set_option maxRecDepth 100000
set_option maxHeartbeats 40000000 in
theorem farY_3 : (alln 9 fun z => farC (-1) ((z : Int) - 4)) = true := by decide +kernel
set_option maxHeartbeats 40000000 in
theorem farY_4 : (alln 9 fun z => farC (0) ((z : Int) - 4)) = true := by decide +kernel
set_option maxHeartbeats 40000000 in
theorem farY_5 : (alln 9 fun z => farC (1) ((z : Int) - 4)) = true := by decide +kernel
end Go.Proofs.Ytejpamlaacffaaa
