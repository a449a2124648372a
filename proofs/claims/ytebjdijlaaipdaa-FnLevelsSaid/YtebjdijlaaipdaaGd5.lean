/-
  Levels of relays: areas at 7 levels. Conditions: none.
-/
import Derived.Test.YtebjdijlaaipdaaGb
namespace Go.Proofs.Ytebjdijlaaipdaa
open Go Go.RowKit
set_option maxRecDepth 100000
set_option maxHeartbeats 40000000 in
theorem lvE_5_0 : ∀ d, d < 12 → lvE 5 0 d = true := by decide +kernel
set_option maxHeartbeats 40000000 in
theorem lvE_5_1 : ∀ d, d < 12 → lvE 5 1 d = true := by decide +kernel
set_option maxHeartbeats 40000000 in
theorem lvE_5_2 : ∀ d, d < 12 → lvE 5 2 d = true := by decide +kernel
set_option maxHeartbeats 40000000 in
theorem lvE_5_3 : ∀ d, d < 12 → lvE 5 3 d = true := by decide +kernel
set_option maxHeartbeats 40000000 in
theorem lvE_5_4 : ∀ d, d < 12 → lvE 5 4 d = true := by decide +kernel
set_option maxHeartbeats 40000000 in
theorem lvE_5_5 : ∀ d, d < 12 → lvE 5 5 d = true := by decide +kernel
set_option maxHeartbeats 40000000 in
theorem lvE_5_6 : ∀ d, d < 12 → lvE 5 6 d = true := by decide +kernel
set_option maxHeartbeats 40000000 in
theorem lvE_5_7 : ∀ d, d < 12 → lvE 5 7 d = true := by decide +kernel
theorem lvE_5 : ∀ c, c < 8 → ∀ d, d < 12 → lvE 5 c d = true := fun c hc => match c, hc with
  | 0, _ => lvE_5_0
  | 1, _ => lvE_5_1
  | 2, _ => lvE_5_2
  | 3, _ => lvE_5_3
  | 4, _ => lvE_5_4
  | 5, _ => lvE_5_5
  | 6, _ => lvE_5_6
  | 7, _ => lvE_5_7
end Go.Proofs.Ytebjdijlaaipdaa
