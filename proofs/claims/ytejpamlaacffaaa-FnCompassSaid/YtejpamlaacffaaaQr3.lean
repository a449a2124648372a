/-
  The circle of 3 readings: runs of the program. Conditions: none.
-/
import Derived.Test.YtejpamlaacffaaaBF
namespace Go.Proofs.Ytejpamlaacffaaa
open Go Go.RowKit
set_option maxRecDepth 100000 in
set_option maxHeartbeats 40000000 in
theorem cmpK_3_0 : cmpK 3 0 = true := by decide +kernel
set_option maxRecDepth 100000 in
set_option maxHeartbeats 40000000 in
theorem cmpK_3_1 : cmpK 3 1 = true := by decide +kernel
set_option maxRecDepth 100000 in
set_option maxHeartbeats 40000000 in
theorem cmpK_3_2 : cmpK 3 2 = true := by decide +kernel
set_option maxRecDepth 100000 in
set_option maxHeartbeats 40000000 in
theorem cmpK_3_3 : cmpK 3 3 = true := by decide +kernel
set_option maxRecDepth 100000 in
set_option maxHeartbeats 40000000 in
theorem cmpK_3_4 : cmpK 3 4 = true := by decide +kernel
set_option maxRecDepth 100000 in
set_option maxHeartbeats 40000000 in
theorem cmpK_3_5 : cmpK 3 5 = true := by decide +kernel
set_option maxRecDepth 100000 in
set_option maxHeartbeats 40000000 in
theorem cmpK_3_6 : cmpK 3 6 = true := by decide +kernel
set_option maxRecDepth 100000 in
set_option maxHeartbeats 40000000 in
theorem cmpK_3_7 : cmpK 3 7 = true := by decide +kernel
theorem cmpK_3 {a : Nat} (ha : a < 8) : cmpK 3 a = true := by
  match a, ha with
  | 0, _ => exact cmpK_3_0
  | 1, _ => exact cmpK_3_1
  | 2, _ => exact cmpK_3_2
  | 3, _ => exact cmpK_3_3
  | 4, _ => exact cmpK_3_4
  | 5, _ => exact cmpK_3_5
  | 6, _ => exact cmpK_3_6
  | 7, _ => exact cmpK_3_7
end Go.Proofs.Ytejpamlaacffaaa
