/-
  Levels of relays: areas at 6 levels. Conditions: none.
-/
import Derived.Test.YtebjdijlaaipdaaGb
namespace Go.Proofs.Ytebjdijlaaipdaa
open Go Go.RowKit
set_option maxRecDepth 100000
set_option maxHeartbeats 40000000 in
theorem lvE_4_0 : ∀ d, d < 12 → lvE 4 0 d = true := by decide +kernel
set_option maxHeartbeats 40000000 in
theorem lvE_4_1 : ∀ d, d < 12 → lvE 4 1 d = true := by decide +kernel
set_option maxHeartbeats 40000000 in
theorem lvE_4_2 : ∀ d, d < 12 → lvE 4 2 d = true := by decide +kernel
set_option maxHeartbeats 40000000 in
theorem lvE_4_3 : ∀ d, d < 12 → lvE 4 3 d = true := by decide +kernel
set_option maxHeartbeats 40000000 in
theorem lvE_4_4 : ∀ d, d < 12 → lvE 4 4 d = true := by decide +kernel
set_option maxHeartbeats 40000000 in
theorem lvE_4_5 : ∀ d, d < 12 → lvE 4 5 d = true := by decide +kernel
set_option maxHeartbeats 40000000 in
theorem lvE_4_6 : ∀ d, d < 12 → lvE 4 6 d = true := by decide +kernel
set_option maxHeartbeats 40000000 in
theorem lvE_4_7 : ∀ d, d < 12 → lvE 4 7 d = true := by decide +kernel
theorem lvE_4 : ∀ c, c < 8 → ∀ d, d < 12 → lvE 4 c d = true := fun c hc => match c, hc with
  | 0, _ => lvE_4_0
  | 1, _ => lvE_4_1
  | 2, _ => lvE_4_2
  | 3, _ => lvE_4_3
  | 4, _ => lvE_4_4
  | 5, _ => lvE_4_5
  | 6, _ => lvE_4_6
  | 7, _ => lvE_4_7
end Go.Proofs.Ytebjdijlaaipdaa
