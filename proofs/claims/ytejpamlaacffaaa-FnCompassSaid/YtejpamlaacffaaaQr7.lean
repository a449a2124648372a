/-
  The circle of 7 readings: runs of the program. Conditions: none.
-/
import Derived.Test.YtejpamlaacffaaaBF
namespace Go.Proofs.Ytejpamlaacffaaa
open Go Go.RowKit
set_option maxRecDepth 100000 in
set_option maxHeartbeats 40000000 in
theorem cmpK_7_0 : cmpK 7 0 = true := by decide +kernel
set_option maxRecDepth 100000 in
set_option maxHeartbeats 40000000 in
theorem cmpK_7_1 : cmpK 7 1 = true := by decide +kernel
set_option maxRecDepth 100000 in
set_option maxHeartbeats 40000000 in
theorem cmpK_7_2 : cmpK 7 2 = true := by decide +kernel
set_option maxRecDepth 100000 in
set_option maxHeartbeats 40000000 in
theorem cmpK_7_3 : cmpK 7 3 = true := by decide +kernel
set_option maxRecDepth 100000 in
set_option maxHeartbeats 40000000 in
theorem cmpK_7_4 : cmpK 7 4 = true := by decide +kernel
set_option maxRecDepth 100000 in
set_option maxHeartbeats 40000000 in
theorem cmpK_7_5 : cmpK 7 5 = true := by decide +kernel
set_option maxRecDepth 100000 in
set_option maxHeartbeats 40000000 in
theorem cmpK_7_6 : cmpK 7 6 = true := by decide +kernel
set_option maxRecDepth 100000 in
set_option maxHeartbeats 40000000 in
theorem cmpK_7_7 : cmpK 7 7 = true := by decide +kernel
theorem cmpK_7 {a : Nat} (ha : a < 8) : cmpK 7 a = true := by
  match a, ha with
  | 0, _ => exact cmpK_7_0
  | 1, _ => exact cmpK_7_1
  | 2, _ => exact cmpK_7_2
  | 3, _ => exact cmpK_7_3
  | 4, _ => exact cmpK_7_4
  | 5, _ => exact cmpK_7_5
  | 6, _ => exact cmpK_7_6
  | 7, _ => exact cmpK_7_7
end Go.Proofs.Ytejpamlaacffaaa
