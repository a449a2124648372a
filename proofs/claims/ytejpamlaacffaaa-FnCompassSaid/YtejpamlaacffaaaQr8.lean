/-
  The circle of 8 readings: runs of the program. Conditions: none.
-/
import Derived.Test.YtejpamlaacffaaaBF
namespace Go.Proofs.Ytejpamlaacffaaa
open Go Go.RowKit
set_option maxRecDepth 100000 in
set_option maxHeartbeats 40000000 in
theorem cmpK_8_0 : cmpK 8 0 = true := by decide +kernel
set_option maxRecDepth 100000 in
set_option maxHeartbeats 40000000 in
theorem cmpK_8_1 : cmpK 8 1 = true := by decide +kernel
set_option maxRecDepth 100000 in
set_option maxHeartbeats 40000000 in
theorem cmpK_8_2 : cmpK 8 2 = true := by decide +kernel
set_option maxRecDepth 100000 in
set_option maxHeartbeats 40000000 in
theorem cmpK_8_3 : cmpK 8 3 = true := by decide +kernel
set_option maxRecDepth 100000 in
set_option maxHeartbeats 40000000 in
theorem cmpK_8_4 : cmpK 8 4 = true := by decide +kernel
set_option maxRecDepth 100000 in
set_option maxHeartbeats 40000000 in
theorem cmpK_8_5 : cmpK 8 5 = true := by decide +kernel
set_option maxRecDepth 100000 in
set_option maxHeartbeats 40000000 in
theorem cmpK_8_6 : cmpK 8 6 = true := by decide +kernel
set_option maxRecDepth 100000 in
set_option maxHeartbeats 40000000 in
theorem cmpK_8_7 : cmpK 8 7 = true := by decide +kernel
theorem cmpK_8 {a : Nat} (ha : a < 8) : cmpK 8 a = true := by
  match a, ha with
  | 0, _ => exact cmpK_8_0
  | 1, _ => exact cmpK_8_1
  | 2, _ => exact cmpK_8_2
  | 3, _ => exact cmpK_8_3
  | 4, _ => exact cmpK_8_4
  | 5, _ => exact cmpK_8_5
  | 6, _ => exact cmpK_8_6
  | 7, _ => exact cmpK_8_7
end Go.Proofs.Ytejpamlaacffaaa
