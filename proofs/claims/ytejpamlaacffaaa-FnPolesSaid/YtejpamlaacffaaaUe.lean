/-
  Torques and energies of dipoles: what they are worth. Conditions: none.
-/
import Derived.Test.YtejpamlaacffaaaUb
namespace Go.Proofs.Ytejpamlaacffaaa
open Go Go.RowKit

theorem sgnI_pos {A : Nat} (h : 0 < A) : (0 : Int) < sgnI false A := by
  unfold sgnI
  simp only [Bool.false_eq_true, if_false]
  omega
theorem V_c1 : V .f32 981668463 (sgnI false (8589935 * 2 ^ 116)) := ⟨false, 8589935, -33, by decide +kernel, by decide, rfl⟩
def eC : Nat := 1015
section
variable {F W L : V3} {fx fy fz a b c y z p q r : Int} (hs : Sm fx fy fz a b c y z) (hF : VUV F (16 * fx) (16 * fy) (16 * fz)) (hW : VUV W (16 * a) (16 * b) (16 * c))
include hs hF hW
variable (hp : (-4 ≤ p ∧ p ≤ 4) ∧ (-4 ≤ q ∧ q ≤ 4) ∧ -4 ≤ r ∧ r ≤ 4) (hL : VUV L (16 * p) (16 * q) (16 * r))
include hp hL
end
/-- The least energy: N and M are the squares of the lengths. -/
def enC (N M : Nat) : Bool :=
  intN false (Nat.mul 4 N) fun _ m1 x1 => rootK false m1 x1 fun s2 m2 x2 => intN false (Nat.mul 16 M) fun _ m3 x3 => rootK false m3 x3 fun s4 m4 x4 =>
  mul64 (!s2) (Nat.shiftLeft m2 29) (Nat.add x2 896) s4 (Nat.shiftLeft m4 29) (Nat.add x4 896) fun s5 m5 x5 => add64 s5 m5 x5 true 5764607523034235 eC fun s6 m6 x6 =>
  bc s6 (alln 25 fun k => bc (Nat.ble (Nat.mul k k) (Nat.mul N M)) (Nat.ble (Nat.shiftLeft k 1073) (Nat.shiftLeft m6 x6)) true) false
theorem sq_pos0 (x : Int) : 0 ≤ x * x := by
  rw [← Int.natAbs_mul_self]
  exact Int.natCast_nonneg _
/-- Sixteenths that are not negative. -/
theorem VU.nat {X n : Nat} {a : Int} (h : VU X a) (e : a = (n : Int)) : V .f32 X (sgnI false (n * 2 ^ 145)) := by
  subst e
  unfold VU at h
  rw [decide_eq_false (Int.not_lt.2 (Int.natCast_nonneg n)), Int.natAbs_natCast] at h
  exact h
section
variable {F W L : V3} {fx fy fz a b c y z p q r : Int} (hs : Sm fx fy fz a b c y z) (hF : VUV F (16 * fx) (16 * fy) (16 * fz)) (hW : VUV W (16 * a) (16 * b) (16 * c)) (hp : (-4 ≤ p ∧ p ≤ 4) ∧ (-4 ≤ q ∧ q ≤ 4) ∧ -4 ≤ r ∧ r ≤ 4) (hL : VUV L (16 * p) (16 * q) (16 * r))
include hs hF hW hp hL
end
end Go.Proofs.Ytejpamlaacffaaa
