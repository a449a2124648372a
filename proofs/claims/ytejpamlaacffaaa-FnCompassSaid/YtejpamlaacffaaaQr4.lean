/-
  The circle of 4 readings: runs of the program. Conditions: none.
-/
import Derived.Test.YtejpamlaacffaaaBF
namespace Go.Proofs.Ytejpamlaacffaaa
open Go Go.RowKit
set_option maxRecDepth 100000 in
set_option maxHeartbeats 40000000 in
theorem cmpK_4_0 : cmpK 4 0 = true := by decide +kernel
set_option maxRecDepth 100000 in
set_option maxHeartbeats 40000000 in
theorem cmpK_4_1 : cmpK 4 1 = true := by decide +kernel
set_option maxRecDepth 100000 in
set_option maxHeartbeats 40000000 in
theorem cmpK_4_2 : cmpK 4 2 = true := by decide +kernel
set_option maxRecDepth 100000 in
set_option maxHeartbeats 40000000 in
theorem cmpK_4_3 : cmpK 4 3 = true := by decide +kernel
set_option maxRecDepth 100000 in
set_option maxHeartbeats 40000000 in
theorem cmpK_4_4 : cmpK 4 4 = true := by decide +kernel
set_option maxRecDepth 100000 in
set_option maxHeartbeats 40000000 in
theorem cmpK_4_5 : cmpK 4 5 = true := by decide +kernel
set_option maxRecDepth 100000 in
set_option maxHeartbeats 40000000 in
theorem cmpK_4_6 : cmpK 4 6 = true := by decide +kernel
set_option maxRecDepth 100000 in
set_option maxHeartbeats 40000000 in
theorem cmpK_4_7 : cmpK 4 7 = true := by decide +kernel
theorem cmpK_4 {a : Nat} (ha : a < 8) : cmpK 4 a = true := by
  match a, ha with
  | 0, _ => exact cmpK_4_0
  | 1, _ => exact cmpK_4_1
  | 2, _ => exact cmpK_4_2
  | 3, _ => exact cmpK_4_3
  | 4, _ => exact cmpK_4_4
  | 5, _ => exact cmpK_4_5
  | 6, _ => exact cmpK_4_6
  | 7, _ => exact cmpK_4_7
end Go.Proofs.Ytejpamlaacffaaa
