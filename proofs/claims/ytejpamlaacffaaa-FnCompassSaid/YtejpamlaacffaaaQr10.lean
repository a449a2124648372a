/-
  The circle of 10 readings: runs of the program. Conditions: none.
-/
import Derived.Test.YtejpamlaacffaaaBF
namespace Go.Proofs.Ytejpamlaacffaaa
open Go Go.RowKit
set_option maxRecDepth 100000 in
set_option maxHeartbeats 40000000 in
theorem cmpK_10_0 : cmpK 10 0 = true := by decide +kernel
set_option maxRecDepth 100000 in
set_option maxHeartbeats 40000000 in
theorem cmpK_10_1 : cmpK 10 1 = true := by decide +kernel
set_option maxRecDepth 100000 in
set_option maxHeartbeats 40000000 in
theorem cmpK_10_2 : cmpK 10 2 = true := by decide +kernel
set_option maxRecDepth 100000 in
set_option maxHeartbeats 40000000 in
theorem cmpK_10_3 : cmpK 10 3 = true := by decide +kernel
set_option maxRecDepth 100000 in
set_option maxHeartbeats 40000000 in
theorem cmpK_10_4 : cmpK 10 4 = true := by decide +kernel
set_option maxRecDepth 100000 in
set_option maxHeartbeats 40000000 in
theorem cmpK_10_5 : cmpK 10 5 = true := by decide +kernel
set_option maxRecDepth 100000 in
set_option maxHeartbeats 40000000 in
theorem cmpK_10_6 : cmpK 10 6 = true := by decide +kernel
set_option maxRecDepth 100000 in
set_option maxHeartbeats 40000000 in
theorem cmpK_10_7 : cmpK 10 7 = true := by decide +kernel
theorem cmpK_10 {a : Nat} (ha : a < 8) : cmpK 10 a = true := by
  match a, ha with
  | 0, _ => exact cmpK_10_0
  | 1, _ => exact cmpK_10_1
  | 2, _ => exact cmpK_10_2
  | 3, _ => exact cmpK_10_3
  | 4, _ => exact cmpK_10_4
  | 5, _ => exact cmpK_10_5
  | 6, _ => exact cmpK_10_6
  | 7, _ => exact cmpK_10_7
end Go.Proofs.Ytejpamlaacffaaa
