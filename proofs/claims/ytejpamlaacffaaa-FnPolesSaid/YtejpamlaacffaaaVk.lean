/-
  What the law of poles asks of numbers. Conditions: none.
-/
import Derived.Test.YtejpamlaacffaaaBD
namespace Go.Proofs.Ytejpamlaacffaaa
open Go Go.RowKit

theorem eqE_all {n : Nat} (h0 : 0 < n) (h : n ≤ 192) : eqE n = true := by
  obtain ⟨i, j, hj, rfl, hi⟩ : ∃ i j, j < 48 ∧ n = j + (48 * i + 1) ∧ i ≤ 3 := ⟨(n - 1) / 48, (n - 1) % 48, by omega, by omega, by omega⟩
  match i, hi with
  | 0, _ => exact alln_spec _ eqE_0 j hj
  | 1, _ => exact alln_spec _ eqE_1 j hj
  | 2, _ => exact alln_spec _ eqE_2 j hj
  | 3, _ => exact alln_spec _ eqE_3 j hj
theorem en_all {P Q : P4} {x y z s u v w t : Int} (hP : PoleI P x y z s) (hQ : PoleI Q u v w t) : (cmpB .eql .f32 (longV (lessV P.at_ Q.at_)) 0 = true ∧ cmpB .eql .f32 (energyStep P Q 0) 0 = true) ∨ (cmpB .eql .f32 (longV (lessV P.at_ Q.at_)) 0 = false ∧ cmpB .gtr .f32 (longV (lessV P.at_ Q.at_)) 0 = true ∧ cmpB .lss .f64 (gapV (fop .mul .f64 (fcvt .f32 .f64 (energyStep P Q 0)) (fcvt .f32 .f64 (longV (lessV P.at_ Q.at_)))) (fop .mul .f64 (fcvt .f32 .f64 P.s) (fcvt .f32 .f64 Q.s))) 4562254508917369340 = true) := by
  have hp := hP.pos; have hq := hQ.pos; have hs := hP.sm; have ht := hQ.sm
  have d1 : VUV (lessV Q.at_ P.at_) (16 * (u - x)) (16 * (v - y)) (16 * (w - z)) := (hQ.at_.sub hP.at_ (by omega)).cast (by omega)
  have d2 : VUV (lessV P.at_ Q.at_) (16 * -(u - x)) (16 * -(v - y)) (16 * -(w - z)) := (hP.at_.sub hQ.at_ (by omega)).cast (by omega)
  obtain ⟨n, n1, n2, n3, n4, n5, v1⟩ := inn_nat d1 (by omega)
  obtain ⟨m, m1, m2, m3, m4, m5, v2⟩ := inn_nat d2 (by omega)
  have hmn : m = n := by
    have : (m : Int) = (n : Int) := by rw [m1, n1]; grind
    omega
  subst hmn
  by_cases h0 : m = 0
  · subst h0
    left
    have v1 : V .f32 (innerV (lessV Q.at_ P.at_) (lessV Q.at_ P.at_)) (sgnI false 0) := v1.cong (by omega)
    have v2 : V .f32 (innerV (lessV P.at_ Q.at_) (lessV P.at_ Q.at_)) (sgnI false 0) := v2.cong (by omega)
    have r1 : V .f32 (longV (lessV Q.at_ P.at_)) 0 := root_zero v1
    have r2 : V .f32 (longV (lessV P.at_ Q.at_)) 0 := root_zero v2
    have g : cmpB .gtr .f32 (longV (lessV Q.at_ P.at_)) 0 = false := by
      rw [gtr_rk r1.num zero_V.num, r1.rk, zero_V.rk]
      rfl
    unfold energyStep
    rw [if_neg (by rw [g]; simp)]
    refine ⟨?_, ?_⟩
    · rw [eql_rk r2.num zero_V.num, r2.rk, zero_V.rk]
      rfl
    · rw [eql_rk zero_V.num zero_V.num]
      exact decide_eq_true rfl
  · right
    have h0 : 0 < m := by omega
    have g1 : cmpB .gtr .f32 (longV (lessV Q.at_ P.at_)) 0 = true := root_posV h0 n2 v1
    have g2 : cmpB .gtr .f32 (longV (lessV P.at_ Q.at_)) 0 = true := root_posV h0 n2 v2
    have g3 : cmpB .eql .f32 (longV (lessV P.at_ Q.at_)) 0 = false := by
      obtain ⟨a, b, c⟩ := gtr_iff.1 g2
      rw [eql_rk a b]
      exact decide_eq_false (by omega)
    have hR : ∃ R, RootIs (16 * m * 2 ^ 145) R := by
      obtain ⟨R, _, _, hR, _⟩ := prC_spec (prC_all h0 n2)
      exact ⟨R, hR⟩
    refine ⟨g3, g2, ?_⟩
    unfold energyStep
    rw [if_pos g1]
    exact en_core (eqE_all h0 n2) v1 v2 hR hP.str hQ.str (by omega) (by omega)
theorem polN_all (N : Nat) (G : Nat → PL) (i : IB (2 * 4 + 1) × IB (2 * 4 + 1) × IB (2 * 4 + 1)) (j : IB (2 * 3 + 1) × IB (2 * 3 + 1) × IB (2 * 3 + 1)) (hN : N ≤ 4) : PolN N (pX G) (drawV 4 i) (drawV 3 j) := by
  refine ⟨?_, sameV_refl _, tot_ok G hN, fun _ => two_ok G, fun _ => ?_⟩
  · rw [mv_fields mvC_all i j G N]
    exact sameV_refl _
  · rw [energy_two]
    exact en_all (poleD_I (G 0)) (poleD_I (G 1))
theorem k_Poles {n m : Nat} {B C : Nat → Int} (hn : n ≤ maxLen ∧ ∀ k, 0 ≤ B k ∧ B k ≤ 255) (hm : m ≤ maxLen ∧ ∀ k, 0 ≤ C k ∧ C k ≤ 255) : Con Try.prog 4 [rs 1 n (byteC B), rs 1 m (byteC C)] (RetA (vv (.bool true))) :=
  k_PolesE polN_all hn hm
end Go.Proofs.Ytejpamlaacffaaa
