/-
  Rings of wire: their sines' arguments. Conditions: none.
-/
import Derived.Test.YtokhbfbanofchaaBD
namespace Go.Proofs.Ytokhbfbanofchaa
open Go Go.RowKit
set_option maxRecDepth 100000
set_option maxHeartbeats 40000000 in
theorem ringI_3 : ∀ k, k < 3 → ringI 3 k = true := by decide +kernel
set_option maxHeartbeats 40000000 in
theorem ringI_4 : ∀ k, k < 4 → ringI 4 k = true := by decide +kernel
set_option maxHeartbeats 40000000 in
theorem ringI_5 : ∀ k, k < 5 → ringI 5 k = true := by decide +kernel
set_option maxHeartbeats 40000000 in
theorem ringI_6 : ∀ k, k < 6 → ringI 6 k = true := by decide +kernel
set_option maxHeartbeats 40000000 in
theorem ringI_7 : ∀ k, k < 7 → ringI 7 k = true := by decide +kernel
set_option maxHeartbeats 40000000 in
theorem ringI_8 : ∀ k, k < 8 → ringI 8 k = true := by decide +kernel
set_option maxHeartbeats 40000000 in
theorem ringI_9 : ∀ k, k < 9 → ringI 9 k = true := by decide +kernel
set_option maxHeartbeats 40000000 in
theorem ringI_10 : ∀ k, k < 10 → ringI 10 k = true := by decide +kernel
set_option maxHeartbeats 40000000 in
theorem ringI_11 : ∀ k, k < 11 → ringI 11 k = true := by decide +kernel
set_option maxHeartbeats 40000000 in
theorem ringI_12 : ∀ k, k < 12 → ringI 12 k = true := by decide +kernel
set_option maxHeartbeats 40000000 in
theorem ringI_13 : ∀ k, k < 13 → ringI 13 k = true := by decide +kernel
set_option maxHeartbeats 40000000 in
theorem ringI_14 : ∀ k, k < 14 → ringI 14 k = true := by decide +kernel
set_option maxHeartbeats 40000000 in
theorem ringI_15 : ∀ k, k < 15 → ringI 15 k = true := by decide +kernel
set_option maxHeartbeats 40000000 in
theorem ringI_16 : ∀ k, k < 16 → ringI 16 k = true := by decide +kernel
set_option maxHeartbeats 40000000 in
theorem ringI_17 : ∀ k, k < 17 → ringI 17 k = true := by decide +kernel
set_option maxHeartbeats 40000000 in
theorem ringI_18 : ∀ k, k < 18 → ringI 18 k = true := by decide +kernel
set_option maxHeartbeats 40000000 in
theorem ringI_19 : ∀ k, k < 19 → ringI 19 k = true := by decide +kernel
set_option maxHeartbeats 40000000 in
theorem ringI_20 : ∀ k, k < 20 → ringI 20 k = true := by decide +kernel
set_option maxHeartbeats 40000000 in
theorem ringI_21 : ∀ k, k < 21 → ringI 21 k = true := by decide +kernel
set_option maxHeartbeats 40000000 in
theorem ringI_22 : ∀ k, k < 22 → ringI 22 k = true := by decide +kernel
set_option maxHeartbeats 40000000 in
theorem ringI_23 : ∀ k, k < 23 → ringI 23 k = true := by decide +kernel
set_option maxHeartbeats 40000000 in
theorem ringI_24 : ∀ k, k < 24 → ringI 24 k = true := by decide +kernel
set_option maxHeartbeats 40000000 in
theorem ringI_25 : ∀ k, k < 25 → ringI 25 k = true := by decide +kernel
set_option maxHeartbeats 40000000 in
theorem ringI_26 : ∀ k, k < 26 → ringI 26 k = true := by decide +kernel
set_option maxHeartbeats 40000000 in
theorem ringI_27 : ∀ k, k < 27 → ringI 27 k = true := by decide +kernel
set_option maxHeartbeats 40000000 in
theorem ringI_28 : ∀ k, k < 28 → ringI 28 k = true := by decide +kernel
set_option maxHeartbeats 40000000 in
theorem ringI_29 : ∀ k, k < 29 → ringI 29 k = true := by decide +kernel
set_option maxHeartbeats 40000000 in
theorem ringI_30 : ∀ k, k < 30 → ringI 30 k = true := by decide +kernel
set_option maxHeartbeats 40000000 in
theorem ringI_31 : ∀ k, k < 31 → ringI 31 k = true := by decide +kernel
set_option maxHeartbeats 40000000 in
theorem ringI_32 : ∀ k, k < 32 → ringI 32 k = true := by decide +kernel
set_option maxHeartbeats 40000000 in
theorem ringI_33 : ∀ k, k < 33 → ringI 33 k = true := by decide +kernel
set_option maxHeartbeats 40000000 in
theorem ringI_34 : ∀ k, k < 34 → ringI 34 k = true := by decide +kernel
set_option maxHeartbeats 40000000 in
theorem ringI_35 : ∀ k, k < 35 → ringI 35 k = true := by decide +kernel
set_option maxHeartbeats 40000000 in
theorem ringI_36 : ∀ k, k < 36 → ringI 36 k = true := by decide +kernel
set_option maxHeartbeats 40000000 in
theorem ringI_37 : ∀ k, k < 37 → ringI 37 k = true := by decide +kernel
set_option maxHeartbeats 40000000 in
theorem ringI_38 : ∀ k, k < 38 → ringI 38 k = true := by decide +kernel
set_option maxHeartbeats 40000000 in
theorem ringI_39 : ∀ k, k < 39 → ringI 39 k = true := by decide +kernel
set_option maxHeartbeats 40000000 in
theorem ringI_40 : ∀ k, k < 40 → ringI 40 k = true := by decide +kernel
set_option maxHeartbeats 40000000 in
theorem ringI_41 : ∀ k, k < 41 → ringI 41 k = true := by decide +kernel
set_option maxHeartbeats 40000000 in
theorem ringI_42 : ∀ k, k < 42 → ringI 42 k = true := by decide +kernel
set_option maxHeartbeats 40000000 in
theorem ringI_43 : ∀ k, k < 43 → ringI 43 k = true := by decide +kernel
set_option maxHeartbeats 40000000 in
theorem ringI_44 : ∀ k, k < 44 → ringI 44 k = true := by decide +kernel
set_option maxHeartbeats 40000000 in
theorem ringI_45 : ∀ k, k < 45 → ringI 45 k = true := by decide +kernel
set_option maxHeartbeats 40000000 in
theorem ringI_46 : ∀ k, k < 46 → ringI 46 k = true := by decide +kernel
set_option maxHeartbeats 40000000 in
theorem ringI_47 : ∀ k, k < 47 → ringI 47 k = true := by decide +kernel
set_option maxHeartbeats 40000000 in
theorem ringI_48 : ∀ k, k < 48 → ringI 48 k = true := by decide +kernel
theorem ring_in {c : Nat} (hc : 3 ≤ c ∧ c ≤ 48) : ∀ k, k < c → ringI c k = true := by
  have h : c = 3 ∨ c = 4 ∨ c = 5 ∨ c = 6 ∨ c = 7 ∨ c = 8 ∨ c = 9 ∨ c = 10 ∨ c = 11 ∨ c = 12 ∨ c = 13 ∨ c = 14 ∨ c = 15 ∨ c = 16 ∨ c = 17 ∨ c = 18 ∨ c = 19 ∨ c = 20 ∨ c = 21 ∨ c = 22 ∨ c = 23 ∨ c = 24 ∨ c = 25 ∨ c = 26 ∨ c = 27 ∨ c = 28 ∨ c = 29 ∨ c = 30 ∨ c = 31 ∨ c = 32 ∨ c = 33 ∨ c = 34 ∨ c = 35 ∨ c = 36 ∨ c = 37 ∨ c = 38 ∨ c = 39 ∨ c = 40 ∨ c = 41 ∨ c = 42 ∨ c = 43 ∨ c = 44 ∨ c = 45 ∨ c = 46 ∨ c = 47 ∨ c = 48 := by omega
  rcases h with h | h | h | h | h | h | h | h | h | h | h | h | h | h | h | h | h | h | h | h | h | h | h | h | h | h | h | h | h | h | h | h | h | h | h | h | h | h | h | h | h | h | h | h | h | h
  all_goals subst h
  · exact ringI_3
  · exact ringI_4
  · exact ringI_5
  · exact ringI_6
  · exact ringI_7
  · exact ringI_8
  · exact ringI_9
  · exact ringI_10
  · exact ringI_11
  · exact ringI_12
  · exact ringI_13
  · exact ringI_14
  · exact ringI_15
  · exact ringI_16
  · exact ringI_17
  · exact ringI_18
  · exact ringI_19
  · exact ringI_20
  · exact ringI_21
  · exact ringI_22
  · exact ringI_23
  · exact ringI_24
  · exact ringI_25
  · exact ringI_26
  · exact ringI_27
  · exact ringI_28
  · exact ringI_29
  · exact ringI_30
  · exact ringI_31
  · exact ringI_32
  · exact ringI_33
  · exact ringI_34
  · exact ringI_35
  · exact ringI_36
  · exact ringI_37
  · exact ringI_38
  · exact ringI_39
  · exact ringI_40
  · exact ringI_41
  · exact ringI_42
  · exact ringI_43
  · exact ringI_44
  · exact ringI_45
  · exact ringI_46
  · exact ringI_47
  · exact ringI_48
end Go.Proofs.Ytokhbfbanofchaa
