/-
  Levels of relays: areas at 5 levels. Conditions: none.
-/
import Derived.Test.YtebjdijlaaipdaaGb
namespace Go.Proofs.Ytebjdijlaaipdaa
open Go Go.RowKit
set_option maxRecDepth 100000
set_option maxHeartbeats 40000000 in
theorem lvE_3_0 : ∀ d, d < 12 → lvE 3 0 d = true := by decide +kernel
set_option maxHeartbeats 40000000 in
theorem lvE_3_1 : ∀ d, d < 12 → lvE 3 1 d = true := by decide +kernel
set_option maxHeartbeats 40000000 in
theorem lvE_3_2 : ∀ d, d < 12 → lvE 3 2 d = true := by decide +kernel
set_option maxHeartbeats 40000000 in
theorem lvE_3_3 : ∀ d, d < 12 → lvE 3 3 d = true := by decide +kernel
set_option maxHeartbeats 40000000 in
theorem lvE_3_4 : ∀ d, d < 12 → lvE 3 4 d = true := by decide +kernel
set_option maxHeartbeats 40000000 in
theorem lvE_3_5 : ∀ d, d < 12 → lvE 3 5 d = true := by decide +kernel
set_option maxHeartbeats 40000000 in
theorem lvE_3_6 : ∀ d, d < 12 → lvE 3 6 d = true := by decide +kernel
set_option maxHeartbeats 40000000 in
theorem lvE_3_7 : ∀ d, d < 12 → lvE 3 7 d = true := by decide +kernel
theorem lvE_3 : ∀ c, c < 8 → ∀ d, d < 12 → lvE 3 c d = true := fun c hc => match c, hc with
  | 0, _ => lvE_3_0
  | 1, _ => lvE_3_1
  | 2, _ => lvE_3_2
  | 3, _ => lvE_3_3
  | 4, _ => lvE_3_4
  | 5, _ => lvE_3_5
  | 6, _ => lvE_3_6
  | 7, _ => lvE_3_7
end Go.Proofs.Ytebjdijlaaipdaa
