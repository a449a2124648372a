/-
  Levels of relays: areas at 3 levels. Conditions: none.
-/
import Derived.Test.YtebjdijlaaipdaaGb
namespace Go.Proofs.Ytebjdijlaaipdaa
open Go Go.RowKit
set_option maxRecDepth 100000
set_option maxHeartbeats 40000000 in
theorem lvE_1_0 : ∀ d, d < 12 → lvE 1 0 d = true := by decide +kernel
set_option maxHeartbeats 40000000 in
theorem lvE_1_1 : ∀ d, d < 12 → lvE 1 1 d = true := by decide +kernel
set_option maxHeartbeats 40000000 in
theorem lvE_1_2 : ∀ d, d < 12 → lvE 1 2 d = true := by decide +kernel
set_option maxHeartbeats 40000000 in
theorem lvE_1_3 : ∀ d, d < 12 → lvE 1 3 d = true := by decide +kernel
set_option maxHeartbeats 40000000 in
theorem lvE_1_4 : ∀ d, d < 12 → lvE 1 4 d = true := by decide +kernel
set_option maxHeartbeats 40000000 in
theorem lvE_1_5 : ∀ d, d < 12 → lvE 1 5 d = true := by decide +kernel
set_option maxHeartbeats 40000000 in
theorem lvE_1_6 : ∀ d, d < 12 → lvE 1 6 d = true := by decide +kernel
set_option maxHeartbeats 40000000 in
theorem lvE_1_7 : ∀ d, d < 12 → lvE 1 7 d = true := by decide +kernel
theorem lvE_1 : ∀ c, c < 8 → ∀ d, d < 12 → lvE 1 c d = true := fun c hc => match c, hc with
  | 0, _ => lvE_1_0
  | 1, _ => lvE_1_1
  | 2, _ => lvE_1_2
  | 3, _ => lvE_1_3
  | 4, _ => lvE_1_4
  | 5, _ => lvE_1_5
  | 6, _ => lvE_1_6
  | 7, _ => lvE_1_7
end Go.Proofs.Ytebjdijlaaipdaa
