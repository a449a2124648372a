/-
  What the law of dipoles asks of numbers. Conditions: none.
-/
import Derived.Test.YtejpamlaacffaaaUd0
import Derived.Test.YtejpamlaacffaaaUd1
import Derived.Test.YtejpamlaacffaaaUd2
import Derived.Test.YtejpamlaacffaaaUe
namespace Go.Proofs.Ytejpamlaacffaaa
open Go Go.RowKit

theorem farC_all {y z : Int} (hy : -4 ≤ y ∧ y ≤ 4) (hz : -4 ≤ z ∧ z ≤ 4) : farC y z = true := by
  obtain ⟨j, rfl⟩ : ∃ j : Nat, z = (j : Int) - 4 := ⟨(z + 4).toNat, by omega⟩
  obtain ⟨i, rfl⟩ : ∃ i : Nat, y = (i : Int) - 4 := ⟨(y + 4).toNat, by omega⟩
  have hj : j < 9 := by omega
  have hi : i ≤ 8 := by omega
  match i, hi with
  | 0, _ => exact alln_spec _ farY_0 j hj
  | 1, _ => exact alln_spec _ farY_1 j hj
  | 2, _ => exact alln_spec _ farY_2 j hj
  | 3, _ => exact alln_spec _ farY_3 j hj
  | 4, _ => exact alln_spec _ farY_4 j hj
  | 5, _ => exact alln_spec _ farY_5 j hj
  | 6, _ => exact alln_spec _ farY_6 j hj
  | 7, _ => exact alln_spec _ farY_7 j hj
  | 8, _ => exact alln_spec _ farY_8 j hj
theorem dipN_all (i : IB (2 * 2 + 1) × IB (2 * 2 + 1) × IB (2 * 2 + 1)) (j : IB (2 * 2 + 1) × IB (2 * 2 + 1) × IB (2 * 2 + 1)) (l : IB (2 * 4 + 1) × IB (2 * 4 + 1) × IB (2 * 4 + 1)) (y z : Int) (hy : 0 ≤ y ∧ y < 9) (hz : 0 ≤ z ∧ z < 9) : DipN (drawV 2 i) (drawV 2 j) (drawV 4 l) y z := by
  obtain ⟨⟨i1, h1⟩, ⟨i2, h2⟩, ⟨i3, h3⟩⟩ := i
  obtain ⟨⟨j1, k1⟩, ⟨j2, k2⟩, ⟨j3, k3⟩⟩ := j
  obtain ⟨⟨l1, m1⟩, ⟨l2, m2⟩, ⟨l3, m3⟩⟩ := l
  obtain ⟨y, rfl⟩ : ∃ t : Int, y = t + 4 := ⟨y - 4, by omega⟩
  obtain ⟨z, rfl⟩ : ∃ t : Int, z = t + 4 := ⟨z - 4, by omega⟩
  have hF : VUV (intV (i1 - 2) (i2 - 2) (i3 - 2)) (16 * (i1 - 2)) (16 * (i2 - 2)) (16 * (i3 - 2)) := VUV.int _ _ _ (by omega)
  have hW : VUV (intV (j1 - 2) (j2 - 2) (j3 - 2)) (16 * (j1 - 2)) (16 * (j2 - 2)) (16 * (j3 - 2)) := VUV.int _ _ _ (by omega)
  have hL : VUV (intV (l1 - 4) (l2 - 4) (l3 - 4)) (16 * (l1 - 4)) (16 * (l2 - 4)) (16 * (l3 - 4)) := VUV.int _ _ _ (by omega)
  have hs : Sm (i1 - 2) (i2 - 2) (i3 - 2) (j1 - 2) (j2 - 2) (j3 - 2) y z := ⟨by omega, by omega, by omega⟩
  have hp : (-4 ≤ l1 - 4 ∧ l1 - 4 ≤ 4) ∧ (-4 ≤ l2 - 4 ∧ l2 - 4 ≤ 4) ∧ -4 ≤ l3 - 4 ∧ l3 - 4 ≤ 4 := by omega
  exact ⟨mo_ok hs hF hW, far_core hs hF hW (farC_all (by omega) (by omega)), tor_ok hs hF hW hp hL, en_ok hs hF hW hp hL⟩
theorem k_Dipoles {n m : Nat} {B C : Nat → Int} (hn : n ≤ maxLen ∧ ∀ k, 0 ≤ B k ∧ B k ≤ 255) (hm : m ≤ maxLen ∧ ∀ k, 0 ≤ C k ∧ C k ≤ 255) : Con Try.prog 3 [rs 1 n (byteC B), rs 1 m (byteC C)] (RetA (vv (.bool true))) := k_DipolesE dipN_all hn hm
end Go.Proofs.Ytejpamlaacffaaa
