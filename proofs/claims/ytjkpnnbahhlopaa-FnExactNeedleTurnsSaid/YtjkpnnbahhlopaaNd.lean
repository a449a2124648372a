/-
  Angles of points, on both sides: contracts; the law of needles: its walk. Conditions: none.
-/
import Derived.Test.YtjkpnnbahhlopaaAa
import Derived.Test.YtjkpnnbahhlopaaLw
import Derived.Test.YtjkpnnbahhlopaaSu
import Derived.Test.YtjkpnnbahhlopaaAq
namespace Go.Proofs.Ytjkpnnbahhlopaa
open Go Go.RowKit

def angT (A B : Nat) : Nat := if cmpB .gtr .f64 A B = true then fop .quo .f64 B A else fop .quo .f64 A B
def angS (t : Nat) : Nat → Nat
  | 0 => t
  | k + 1 => fop .quo .f64 (angS t k) (fop .add .f64 4607182418800017408 (fsqrt (fop .add .f64 4607182418800017408 (fop .mul .f64 (angS t k) (angS t k)))))
def kV (j : Nat) : Nat := floatOfInt .f64 (15 - 2 * (j : Int))
def angP (u : Nat) : Nat → Nat
  | 0 => 0
  | j + 1 => fop .sub .f64 (fop .quo .f64 4607182418800017408 (kV j)) (fop .mul .f64 u (angP u j))
def angA (t : Nat) : Nat := fop .quo .f64 (fop .mul .f64 4620693217682128896 (fop .mul .f64 t (angP (fop .mul .f64 t t) 8))) 4618760256179416344
def ang1 (b : Bool) (a : Nat) : Nat := if b = true then fop .sub .f64 4598175219545276416 a else a
def ang2 (b : Bool) (a : Nat) : Nat := if b = true then fop .sub .f64 4602678819172646912 a else a
def ang3 (b : Bool) (a : Nat) : Nat := if b = true then fneg .f64 a else a
/-- The angle of a point of finite numbers, not both nought, in 64 bits. -/
def angW (A B : Nat) (bx bv : Bool) : Nat := ang3 bv (ang2 bx (ang1 (cmpB .gtr .f64 A B) (angA (angS (angT A B) 3))))
theorem leN_angS {t : Nat} (h : LeN .f64 t 1074) : ∀ k, LeN .f64 (angS t k) 1074
  | 0 => h
  | k + 1 => n64_quo (leN_angS h k) (den_root _) (by omega) (by omega)
theorem kV_quo : ∀ j, j < 8 → leB .f64 1074 (fop .quo .f64 4607182418800017408 (kV j)) = true := by decide +kernel
theorem leN_angP {u : Nat} (h : LeN .f64 u 1074) : ∀ j, j ≤ 8 → LeN .f64 (angP u j) (1074 + j)
  | 0, _ => .inr (le_leB (X := 0) (E := 1074) (by decide +kernel))
  | j + 1, hj => by
    have h1 : LeN .f64 (fop .quo .f64 4607182418800017408 (kV j)) 1074 := .inr (le_leB (kV_quo j (by omega)))
    have h2 : LeN .f64 (fop .mul .f64 u (angP u j)) (1074 + j) := n64_mul h (leN_angP h j (by omega)) (by omega) (by omega) (by omega)
    exact n64_sub (E := 1074 + j) (leN_mono h1 (by omega)) h2 (by omega) (by omega)
theorem leN_angW {A B : Nat} {bx bv : Bool} (h : LeN .f64 (angT A B) 1074) : LeN .f64 (angW A B bx bv) 1087 := by
  have h1 := leN_angS h 3
  have h2 : LeN .f64 (fop .mul .f64 (angS (angT A B) 3) (angS (angT A B) 3)) 1074 := n64_mul h1 h1 (by omega) (by omega) (by omega)
  have h3 := leN_angP h2 8 (by omega)
  have h4 : LeN .f64 (fop .mul .f64 (angS (angT A B) 3) (angP (fop .mul .f64 (angS (angT A B) 3) (angS (angT A B) 3)) 8)) 1082 := n64_mul h1 h3 (by omega) (by omega) (by omega)
  have h5 : LeN .f64 (fop .mul .f64 4620693217682128896 (fop .mul .f64 (angS (angT A B) 3) (angP (fop .mul .f64 (angS (angT A B) 3) (angS (angT A B) 3)) 8))) 1085 := n64_mul (E := 1077) (.inr (le_leB (by decide +kernel))) h4 (by omega) (by omega) (by omega)
  have h6 : LeN .f64 (angA (angS (angT A B) 3)) 1085 := n64_quo h5 (.num (ge1_const (by decide +kernel))) (by omega) (by omega)
  have h7 : LeN .f64 (ang1 (cmpB .gtr .f64 A B) (angA (angS (angT A B) 3))) 1086 := by
    unfold ang1
    split
    · exact n64_sub (.inr (le_leB (by decide +kernel))) h6 (by omega) (by omega)
    · exact leN_mono h6 (by omega)
  have h8 : LeN .f64 (ang2 bx (ang1 (cmpB .gtr .f64 A B) (angA (angS (angT A B) 3)))) 1087 := by
    unfold ang2
    split
    · exact n64_sub (.inr (le_leB (by decide +kernel))) h7 (by omega) (by omega)
    · exact leN_mono h7 (by omega)
  unfold angW ang3
  split
  · exact leN_neg h8
  · exact h8
/-- What is known of two finite numbers that are not both nought. -/
theorem angT_le {X Y : Nat} (hx : finB X = true) (hy : finB Y = true) (hz : (cmpB .eql .f32 X 0 && cmpB .eql .f32 Y 0) = false) : LeN .f64 (angT (absF (fcvt .f32 .f64 Y)) (absF (fcvt .f32 .f64 X))) 1074 := by
  have hx0 := hx
  have hy0 := hy
  have z0 : ∀ {Z : Nat} {s : Bool} {i : Int}, finB Z = true → FloatKind.f64.format.read (fcvt .f32 .f64 Z) = .number s 0 i → cmpB .eql .f32 Z 0 = true := fun {Z s i} hZ e => by
    rw [← eql_cvt hZ, eql_rk (num_cvt hZ).2.1 (by decide +kernel), zero64]
    refine decide_eq_true ?_
    unfold rk
    rw [e]
    show Ieee.signed s 0 _ = 0
    unfold Ieee.signed
    rw [Nat.shiftLeft_eq, Nat.zero_mul]
    cases s <;> rfl
  rw [← fin64_cvt, fin64_num] at hx hy
  cases ex : FloatKind.f64.format.read (fcvt .f32 .f64 X) with
  | infinity s => rw [ex] at hx; cases hx
  | nan s t => rw [ex] at hx; cases hx
  | number s m i =>
    cases ey : FloatKind.f64.format.read (fcvt .f32 .f64 Y) with
    | infinity s => rw [ey] at hy; cases hy
    | nan s t => rw [ey] at hy; cases hy
    | number t n j =>
      have ax := read_abs ex
      have ay := read_abs ey
      have nx : isNan .f64 (absF (fcvt .f32 .f64 X)) = false := by unfold isNan; rw [ax]; rfl
      have ny : isNan .f64 (absF (fcvt .f32 .f64 Y)) = false := by unfold isNan; rw [ay]; rfl
      have rx : rk .f64 (absF (fcvt .f32 .f64 X)) = ((m * 2 ^ (i - FloatKind.f64.format.leastPlace).toNat : Nat) : Int) := by
        unfold rk; rw [ax]; unfold rkD Ieee.signed; simp only [Bool.false_eq_true, if_false, Nat.shiftLeft_eq]
      have ry : rk .f64 (absF (fcvt .f32 .f64 Y)) = ((n * 2 ^ (j - FloatKind.f64.format.leastPlace).toNat : Nat) : Int) := by
        unfold rk; rw [ay]; unfold rkD Ieee.signed; simp only [Bool.false_eq_true, if_false, Nat.shiftLeft_eq]
      unfold angT
      rw [gtr_rk ny nx]
      split
      · rename_i h
        have h := of_decide_eq_true h
        refine .inr (le_ratio ax ay (fun h0 => ?_) (by omega))
        rw [rx, ry, h0, Nat.zero_mul] at h
        omega
      · rename_i h
        have h : ¬ rk .f64 (absF (fcvt .f32 .f64 X)) < rk .f64 (absF (fcvt .f32 .f64 Y)) := by simpa using h
        refine .inr (le_ratio ay ax (fun h0 => ?_) (by omega))
        rw [rx, ry, h0, Nat.zero_mul] at h
        have hp := Nat.pow_pos (n := (j - FloatKind.f64.format.leastPlace).toNat) (show 0 < 2 by omega)
        have hn : n = 0 := by
          rcases Nat.eq_zero_or_pos n with h1 | h1
          · exact h1
          · have := Nat.mul_pos h1 hp
            omega
        -- both are nought
        rw [h0] at ex
        rw [hn] at ey
        rw [z0 hx0 ex, z0 hy0 ey] at hz
        cases hz
end Go.Proofs.Ytjkpnnbahhlopaa
