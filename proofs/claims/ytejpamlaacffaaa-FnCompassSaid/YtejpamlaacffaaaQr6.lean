/-
  The circle of 6 readings: runs of the program. Conditions: none.
-/
import Derived.Test.YtejpamlaacffaaaBF
namespace Go.Proofs.Ytejpamlaacffaaa
open Go Go.RowKit
set_option maxRecDepth 100000 in
set_option maxHeartbeats 40000000 in
theorem cmpK_6_0 : cmpK 6 0 = true := by decide +kernel
set_option maxRecDepth 100000 in
set_option maxHeartbeats 40000000 in
theorem cmpK_6_1 : cmpK 6 1 = true := by decide +kernel
set_option maxRecDepth 100000 in
set_option maxHeartbeats 40000000 in
theorem cmpK_6_2 : cmpK 6 2 = true := by decide +kernel
set_option maxRecDepth 100000 in
set_option maxHeartbeats 40000000 in
theorem cmpK_6_3 : cmpK 6 3 = true := by decide +kernel
set_option maxRecDepth 100000 in
set_option maxHeartbeats 40000000 in
theorem cmpK_6_4 : cmpK 6 4 = true := by decide +kernel
set_option maxRecDepth 100000 in
set_option maxHeartbeats 40000000 in
theorem cmpK_6_5 : cmpK 6 5 = true := by decide +kernel
set_option maxRecDepth 100000 in
set_option maxHeartbeats 40000000 in
theorem cmpK_6_6 : cmpK 6 6 = true := by decide +kernel
set_option maxRecDepth 100000 in
set_option maxHeartbeats 40000000 in
theorem cmpK_6_7 : cmpK 6 7 = true := by decide +kernel
theorem cmpK_6 {a : Nat} (ha : a < 8) : cmpK 6 a = true := by
  match a, ha with
  | 0, _ => exact cmpK_6_0
  | 1, _ => exact cmpK_6_1
  | 2, _ => exact cmpK_6_2
  | 3, _ => exact cmpK_6_3
  | 4, _ => exact cmpK_6_4
  | 5, _ => exact cmpK_6_5
  | 6, _ => exact cmpK_6_6
  | 7, _ => exact cmpK_6_7
end Go.Proofs.Ytejpamlaacffaaa
