/-
  The circle of 5 readings: runs of the program. Conditions: none.
-/
import Derived.Test.YtejpamlaacffaaaBF
namespace Go.Proofs.Ytejpamlaacffaaa
open Go Go.RowKit
set_option maxRecDepth 100000 in
set_option maxHeartbeats 40000000 in
theorem cmpK_5_0 : cmpK 5 0 = true := by decide +kernel
set_option maxRecDepth 100000 in
set_option maxHeartbeats 40000000 in
theorem cmpK_5_1 : cmpK 5 1 = true := by decide +kernel
set_option maxRecDepth 100000 in
set_option maxHeartbeats 40000000 in
theorem cmpK_5_2 : cmpK 5 2 = true := by decide +kernel
set_option maxRecDepth 100000 in
set_option maxHeartbeats 40000000 in
theorem cmpK_5_3 : cmpK 5 3 = true := by decide +kernel
set_option maxRecDepth 100000 in
set_option maxHeartbeats 40000000 in
theorem cmpK_5_4 : cmpK 5 4 = true := by decide +kernel
set_option maxRecDepth 100000 in
set_option maxHeartbeats 40000000 in
theorem cmpK_5_5 : cmpK 5 5 = true := by decide +kernel
set_option maxRecDepth 100000 in
set_option maxHeartbeats 40000000 in
theorem cmpK_5_6 : cmpK 5 6 = true := by decide +kernel
set_option maxRecDepth 100000 in
set_option maxHeartbeats 40000000 in
theorem cmpK_5_7 : cmpK 5 7 = true := by decide +kernel
theorem cmpK_5 {a : Nat} (ha : a < 8) : cmpK 5 a = true := by
  match a, ha with
  | 0, _ => exact cmpK_5_0
  | 1, _ => exact cmpK_5_1
  | 2, _ => exact cmpK_5_2
  | 3, _ => exact cmpK_5_3
  | 4, _ => exact cmpK_5_4
  | 5, _ => exact cmpK_5_5
  | 6, _ => exact cmpK_5_6
  | 7, _ => exact cmpK_5_7
end Go.Proofs.Ytejpamlaacffaaa
