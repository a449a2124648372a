/-
  Levels of relays: areas at 4 levels. Conditions: none.
-/
import Derived.Test.YtebjdijlaaipdaaGb
namespace Go.Proofs.Ytebjdijlaaipdaa
open Go Go.RowKit
set_option maxRecDepth 100000
set_option maxHeartbeats 40000000 in
theorem lvE_2_0 : ∀ d, d < 12 → lvE 2 0 d = true := by decide +kernel
set_option maxHeartbeats 40000000 in
theorem lvE_2_1 : ∀ d, d < 12 → lvE 2 1 d = true := by decide +kernel
set_option maxHeartbeats 40000000 in
theorem lvE_2_2 : ∀ d, d < 12 → lvE 2 2 d = true := by decide +kernel
set_option maxHeartbeats 40000000 in
theorem lvE_2_3 : ∀ d, d < 12 → lvE 2 3 d = true := by decide +kernel
set_option maxHeartbeats 40000000 in
theorem lvE_2_4 : ∀ d, d < 12 → lvE 2 4 d = true := by decide +kernel
set_option maxHeartbeats 40000000 in
theorem lvE_2_5 : ∀ d, d < 12 → lvE 2 5 d = true := by decide +kernel
set_option maxHeartbeats 40000000 in
theorem lvE_2_6 : ∀ d, d < 12 → lvE 2 6 d = true := by decide +kernel
set_option maxHeartbeats 40000000 in
theorem lvE_2_7 : ∀ d, d < 12 → lvE 2 7 d = true := by decide +kernel
theorem lvE_2 : ∀ c, c < 8 → ∀ d, d < 12 → lvE 2 c d = true := fun c hc => match c, hc with
  | 0, _ => lvE_2_0
  | 1, _ => lvE_2_1
  | 2, _ => lvE_2_2
  | 3, _ => lvE_2_3
  | 4, _ => lvE_2_4
  | 5, _ => lvE_2_5
  | 6, _ => lvE_2_6
  | 7, _ => lvE_2_7
end Go.Proofs.Ytebjdijlaaipdaa
