/-
  The circle of 9 readings: runs of the program. Conditions: none.
-/
import Derived.Test.YtejpamlaacffaaaBF
namespace Go.Proofs.Ytejpamlaacffaaa
open Go Go.RowKit
set_option maxRecDepth 100000 in
set_option maxHeartbeats 40000000 in
theorem cmpK_9_0 : cmpK 9 0 = true := by decide +kernel
set_option maxRecDepth 100000 in
set_option maxHeartbeats 40000000 in
theorem cmpK_9_1 : cmpK 9 1 = true := by decide +kernel
set_option maxRecDepth 100000 in
set_option maxHeartbeats 40000000 in
theorem cmpK_9_2 : cmpK 9 2 = true := by decide +kernel
set_option maxRecDepth 100000 in
set_option maxHeartbeats 40000000 in
theorem cmpK_9_3 : cmpK 9 3 = true := by decide +kernel
set_option maxRecDepth 100000 in
set_option maxHeartbeats 40000000 in
theorem cmpK_9_4 : cmpK 9 4 = true := by decide +kernel
set_option maxRecDepth 100000 in
set_option maxHeartbeats 40000000 in
theorem cmpK_9_5 : cmpK 9 5 = true := by decide +kernel
set_option maxRecDepth 100000 in
set_option maxHeartbeats 40000000 in
theorem cmpK_9_6 : cmpK 9 6 = true := by decide +kernel
set_option maxRecDepth 100000 in
set_option maxHeartbeats 40000000 in
theorem cmpK_9_7 : cmpK 9 7 = true := by decide +kernel
theorem cmpK_9 {a : Nat} (ha : a < 8) : cmpK 9 a = true := by
  match a, ha with
  | 0, _ => exact cmpK_9_0
  | 1, _ => exact cmpK_9_1
  | 2, _ => exact cmpK_9_2
  | 3, _ => exact cmpK_9_3
  | 4, _ => exact cmpK_9_4
  | 5, _ => exact cmpK_9_5
  | 6, _ => exact cmpK_9_6
  | 7, _ => exact cmpK_9_7
end Go.Proofs.Ytejpamlaacffaaa
