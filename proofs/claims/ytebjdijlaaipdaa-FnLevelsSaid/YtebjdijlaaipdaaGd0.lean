/-
  Levels of relays: areas at 2 levels. Conditions: none.
-/
import Derived.Test.YtebjdijlaaipdaaGb
namespace Go.Proofs.Ytebjdijlaaipdaa
open Go Go.RowKit
set_option maxRecDepth 100000
set_option maxHeartbeats 40000000 in
theorem lvE_0_0 : ∀ d, d < 12 → lvE 0 0 d = true := by decide +kernel
set_option maxHeartbeats 40000000 in
theorem lvE_0_1 : ∀ d, d < 12 → lvE 0 1 d = true := by decide +kernel
set_option maxHeartbeats 40000000 in
theorem lvE_0_2 : ∀ d, d < 12 → lvE 0 2 d = true := by decide +kernel
set_option maxHeartbeats 40000000 in
theorem lvE_0_3 : ∀ d, d < 12 → lvE 0 3 d = true := by decide +kernel
set_option maxHeartbeats 40000000 in
theorem lvE_0_4 : ∀ d, d < 12 → lvE 0 4 d = true := by decide +kernel
set_option maxHeartbeats 40000000 in
theorem lvE_0_5 : ∀ d, d < 12 → lvE 0 5 d = true := by decide +kernel
set_option maxHeartbeats 40000000 in
theorem lvE_0_6 : ∀ d, d < 12 → lvE 0 6 d = true := by decide +kernel
set_option maxHeartbeats 40000000 in
theorem lvE_0_7 : ∀ d, d < 12 → lvE 0 7 d = true := by decide +kernel
theorem lvE_0 : ∀ c, c < 8 → ∀ d, d < 12 → lvE 0 c d = true := fun c hc => match c, hc with
  | 0, _ => lvE_0_0
  | 1, _ => lvE_0_1
  | 2, _ => lvE_0_2
  | 3, _ => lvE_0_3
  | 4, _ => lvE_0_4
  | 5, _ => lvE_0_5
  | 6, _ => lvE_0_6
  | 7, _ => lvE_0_7
end Go.Proofs.Ytebjdijlaaipdaa
