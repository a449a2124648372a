/-
  Levels of relays: areas at 8 levels. Conditions: none.
-/
import Derived.Test.YtebjdijlaaipdaaGb
namespace Go.Proofs.Ytebjdijlaaipdaa
open Go Go.RowKit
set_option maxRecDepth 100000
set_option maxHeartbeats 40000000 in
theorem lvE_6_0 : ∀ d, d < 12 → lvE 6 0 d = true := by decide +kernel
set_option maxHeartbeats 40000000 in
theorem lvE_6_1 : ∀ d, d < 12 → lvE 6 1 d = true := by decide +kernel
set_option maxHeartbeats 40000000 in
theorem lvE_6_2 : ∀ d, d < 12 → lvE 6 2 d = true := by decide +kernel
set_option maxHeartbeats 40000000 in
theorem lvE_6_3 : ∀ d, d < 12 → lvE 6 3 d = true := by decide +kernel
set_option maxHeartbeats 40000000 in
theorem lvE_6_4 : ∀ d, d < 12 → lvE 6 4 d = true := by decide +kernel
set_option maxHeartbeats 40000000 in
theorem lvE_6_5 : ∀ d, d < 12 → lvE 6 5 d = true := by decide +kernel
set_option maxHeartbeats 40000000 in
theorem lvE_6_6 : ∀ d, d < 12 → lvE 6 6 d = true := by decide +kernel
set_option maxHeartbeats 40000000 in
theorem lvE_6_7 : ∀ d, d < 12 → lvE 6 7 d = true := by decide +kernel
theorem lvE_6 : ∀ c, c < 8 → ∀ d, d < 12 → lvE 6 c d = true := fun c hc => match c, hc with
  | 0, _ => lvE_6_0
  | 1, _ => lvE_6_1
  | 2, _ => lvE_6_2
  | 3, _ => lvE_6_3
  | 4, _ => lvE_6_4
  | 5, _ => lvE_6_5
  | 6, _ => lvE_6_6
  | 7, _ => lvE_6_7
end Go.Proofs.Ytebjdijlaaipdaa
