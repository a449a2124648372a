/-
  Torques and energies of dipoles: what they are worth. Conditions: none.
-/
import Derived.Test.YtejpamlaacffaaaUb
namespace Go.Proofs.Ytejpamlaacffaaa
open Go Go.RowKit

theorem read_neg32v (X : Nat) : FloatKind.f32.format.read (Op.negFloat .f32 X) = (FloatKind.f32.format.read X).opposite := by
  have e1 : FloatKind.f32.format.signWeight = 2147483648 := rfl
  have h1 : Op.negFloat .f32 X = X ^^^ 2 ^ 31 := rfl
  have q2 : (X ^^^ 2 ^ 31) % 2 ^ 31 = X % 2 ^ 31 := by rw [Nat.xor_mod_two_pow, Nat.mod_self, Nat.xor_zero]
  have q3 : (X ^^^ 2 ^ 31) / 2147483648 % 2 = 1 - X / 2147483648 % 2 := by
    have a := Nat.testBit_xor X (2 ^ 31) 31
    rw [Nat.testBit_two_pow_self, Bool.xor_true, Nat.testBit_eq_decide_div_mod_eq, Nat.testBit_eq_decide_div_mod_eq] at a
    have b1 := Nat.mod_two_eq_zero_or_one ((X ^^^ 2 ^ 31) / 2 ^ 31)
    have b2 := Nat.mod_two_eq_zero_or_one (X / 2 ^ 31)
    rcases b1 with b1 | b1 <;> rcases b2 with b2 | b2 <;> rw [b1, b2] at a <;> simp at a
    · show _ = 1 - X / 2 ^ 31 % 2
      rw [b2]; exact b1
    · show _ = 1 - X / 2 ^ 31 % 2
      rw [b2]; exact b1
  rw [h1]
  unfold Ieee.Format.read
  simp only [e1]
  rw [q3, show (X ^^^ 2 ^ 31) % 2147483648 = X % 2147483648 from q2]
  have b2 := Nat.mod_two_eq_zero_or_one (X / 2147483648)
  rcases b2 with b2 | b2 <;> rw [b2]
  all_goals
    split
    · rfl
    · split
      · rfl
      · split <;> rfl
theorem V.neg32v {X : Nat} {s : Bool} {A : Nat} (h : V .f32 X (sgnI s A)) : V .f32 (fneg .f32 X) (sgnI (!s) A) := by
  obtain ⟨t, m, i, e, hi, ea⟩ := h.out
  have hr := read_neg32v X
  rw [e] at hr
  have hn : fneg .f32 X = Op.negFloat .f32 X := can_num (by unfold isNan; rw [hr]; rfl)
  rw [hn]
  refine ⟨!t, m, i, hr, hi, ?_⟩
  rw [sgnI_neg, sgnI_neg, ea]
theorem read_neg64v (X : Nat) : FloatKind.f64.format.read (Op.negFloat .f64 X) = (FloatKind.f64.format.read X).opposite := by
  have e1 : FloatKind.f64.format.signWeight = 9223372036854775808 := rfl
  have h1 : Op.negFloat .f64 X = X ^^^ 2 ^ 63 := rfl
  have q2 : (X ^^^ 2 ^ 63) % 2 ^ 63 = X % 2 ^ 63 := by rw [Nat.xor_mod_two_pow, Nat.mod_self, Nat.xor_zero]
  have q3 : (X ^^^ 2 ^ 63) / 9223372036854775808 % 2 = 1 - X / 9223372036854775808 % 2 := by
    have a := Nat.testBit_xor X (2 ^ 63) 63
    rw [Nat.testBit_two_pow_self, Bool.xor_true, Nat.testBit_eq_decide_div_mod_eq, Nat.testBit_eq_decide_div_mod_eq] at a
    have b1 := Nat.mod_two_eq_zero_or_one ((X ^^^ 2 ^ 63) / 2 ^ 63)
    have b2 := Nat.mod_two_eq_zero_or_one (X / 2 ^ 63)
    rcases b1 with b1 | b1 <;> rcases b2 with b2 | b2 <;> rw [b1, b2] at a <;> simp at a
    · show _ = 1 - X / 2 ^ 63 % 2
      rw [b2]; exact b1
    · show _ = 1 - X / 2 ^ 63 % 2
      rw [b2]; exact b1
  rw [h1]
  unfold Ieee.Format.read
  simp only [e1]
  rw [q3, show (X ^^^ 2 ^ 63) % 9223372036854775808 = X % 9223372036854775808 from q2]
  have b2 := Nat.mod_two_eq_zero_or_one (X / 9223372036854775808)
  rcases b2 with b2 | b2 <;> rw [b2]
  all_goals
    split
    · rfl
    · split
      · rfl
      · split <;> rfl
theorem V.neg64v {X : Nat} {s : Bool} {A : Nat} (h : V .f64 X (sgnI s A)) : V .f64 (fneg .f64 X) (sgnI (!s) A) := by
  obtain ⟨t, m, i, e, hi, ea⟩ := h.out
  have hr := read_neg64v X
  rw [e] at hr
  have hn : fneg .f64 X = Op.negFloat .f64 X := can_num (by unfold isNan; rw [hr]; rfl)
  rw [hn]
  refine ⟨!t, m, i, hr, hi, ?_⟩
  rw [sgnI_neg, sgnI_neg, ea]
theorem V.toS {k : FloatKind} {X : Nat} {z : Int} {s : Bool} {A : Nat} (h : V k X z) (e : z = sgnI s A) : V k X (sgnI s A) := e ▸ h
theorem sgnI_pos {A : Nat} (h : 0 < A) : (0 : Int) < sgnI false A := by
  unfold sgnI
  simp only [Bool.false_eq_true, if_false]
  omega
/-- A length of zero. -/
theorem long_zero {A : V3} (hA : VUV A 0 0 0) : V .f32 (longV A) 0 := by
  have z0 : ∀ {X : Nat}, VU X 0 → V .f32 X (sgnI false (0 * 2 ^ 0)) := fun h => by
    unfold VU at h
    exact h.toS (by decide)
  have hW : VW A false 0 0 false 0 0 false 0 0 := ⟨z0 hA.x, z0 hA.y, z0 hA.z⟩
  obtain ⟨s, m, x, v, h⟩ := longK_spec (K := fun _ m _ => Nat.beq m 0) hW (show longK false 0 0 false 0 0 false 0 0 (fun _ m _ => Nat.beq m 0) = true by decide +kernel)
  obtain rfl := Nat.eq_of_beq_eq_true h
  rw [Nat.zero_mul, sgnI_zero] at v
  exact v
theorem V_c1 : V .f32 981668463 (sgnI false (8589935 * 2 ^ 116)) := ⟨false, 8589935, -33, by decide +kernel, by decide, rfl⟩
def eC : Nat := 1015
theorem V_c2 : V .f64 4576918229304087675 (sgnI false (5764607523034235 * 2 ^ eC)) := by
  refine ⟨false, 5764607523034235, -59, by decide +kernel, by decide, ?_⟩
  have : (-59 - FloatKind.f64.format.leastPlace).toNat = eC := by decide
  rw [this]
theorem zero64V : V .f64 0 0 := ⟨false, 0, -1074, by decide +kernel, by decide, by rw [Nat.zero_mul]; rfl⟩
theorem small_mul {a p : Int} (ha : -2 ≤ a ∧ a ≤ 2) (hp : -4 ≤ p ∧ p ≤ 4) : -8 ≤ a * p ∧ a * p ≤ 8 := by
  obtain ⟨i, rfl⟩ : ∃ i : Nat, a = (i : Int) - 2 := ⟨(a + 2).toNat, by omega⟩
  have hi : i ≤ 4 := by omega
  match i, hi with
  | 0, _ => omega
  | 1, _ => omega
  | 2, _ => omega
  | 3, _ => omega
  | 4, _ => omega
theorem small_mul3 {a p : Int} (ha : -16 ≤ a ∧ a ≤ 16) (hp : -4 ≤ p ∧ p ≤ 4) : -64 ≤ a * p ∧ a * p ≤ 64 := by
  obtain ⟨i, rfl⟩ : ∃ i : Nat, p = (i : Int) - 4 := ⟨(p + 4).toNat, by omega⟩
  have hi : i ≤ 8 := by omega
  match i, hi with
  | 0, _ => omega
  | 1, _ => omega
  | 2, _ => omega
  | 3, _ => omega
  | 4, _ => omega
  | 5, _ => omega
  | 6, _ => omega
  | 7, _ => omega
  | 8, _ => omega
section
variable {F W L : V3} {fx fy fz a b c y z p q r : Int} (hs : Sm fx fy fz a b c y z) (hF : VUV F (16 * fx) (16 * fy) (16 * fz)) (hW : VUV W (16 * a) (16 * b) (16 * c))
include hs hF hW
theorem mo_ok : cmpB .gtr .f32 (longV (lessV (moX F W) (scaleV W 1056964608))) 981668463 = false := by
  have := hs.w
  have h8 : VU 1056964608 8 := VU.const (by decide +kernel)
  have h1 := (mo_VU hs hF hW).sub (hW.scale h8 (d := 8 * a) (e := 8 * b) (f := 8 * c) (by omega) (by omega)) (by omega)
  have h2 := long_zero (h1.cast (d := 0) (e := 0) (f := 0) (by omega))
  rw [gtr_rk h2.num V_c1.num, h2.rk, V_c1.rk]
  exact decide_eq_false (by decide)
variable (hp : (-4 ≤ p ∧ p ≤ 4) ∧ (-4 ≤ q ∧ q ≤ 4) ∧ -4 ≤ r ∧ r ≤ 4) (hL : VUV L (16 * p) (16 * q) (16 * r))
include hp hL
theorem tor_VU : VU (innerV (crossV (moX F W) L) L) 0 := by
  obtain ⟨hp1, hp2, hp3⟩ := hp
  obtain ⟨ha, hb, hc⟩ := hs.w
  have hM := mo_VU hs hF hW
  have k1 := small_mul ha hp2; have k2 := small_mul ha hp3; have k3 := small_mul hb hp1; have k4 := small_mul hb hp3; have k5 := small_mul hc hp1; have k6 := small_mul hc hp2
  have c1 : VU (crossV (moX F W) L).x (8 * (b * r) - 8 * (c * q)) := (hM.y.mul hL.z (c := 8 * (b * r)) (by grind) (by omega)).sub (hM.z.mul hL.y (c := 8 * (c * q)) (by grind) (by omega)) (by omega)
  have c2 : VU (crossV (moX F W) L).y (8 * (c * p) - 8 * (a * r)) := (hM.z.mul hL.x (c := 8 * (c * p)) (by grind) (by omega)).sub (hM.x.mul hL.z (c := 8 * (a * r)) (by grind) (by omega)) (by omega)
  have c3 : VU (crossV (moX F W) L).z (8 * (a * q) - 8 * (b * p)) := (hM.x.mul hL.y (c := 8 * (a * q)) (by grind) (by omega)).sub (hM.y.mul hL.x (c := 8 * (b * p)) (by grind) (by omega)) (by omega)
  have m1 := small_mul3 (a := b * r - c * q) (by omega) hp1
  have m2 := small_mul3 (a := c * p - a * r) (by omega) hp2
  have m3 := small_mul3 (a := a * q - b * p) (by omega) hp3
  have e1 := c1.mul hL.x (c := 8 * ((b * r - c * q) * p)) (by grind) (by omega)
  have e2 := c2.mul hL.y (c := 8 * ((c * p - a * r) * q)) (by grind) (by omega)
  have e3 := c3.mul hL.z (c := 8 * ((a * q - b * p) * r)) (by grind) (by omega)
  exact ((e1.add e2 (by omega)).add e3 (by omega)).cast (by grind)
theorem tor_ok : cmpB .lss .f64 (gapV (fcvt .f32 .f64 (innerV (crossV (moX F W) L) L)) 0) 4576918229304087675 = true := by
  have h := tor_VU hs hF hW hp hL
  unfold VU at h
  have h2 : V .f64 (fcvt .f32 .f64 (innerV (crossV (moX F W) L) L)) 0 := by
    have := (h.toS (s := false) (A := 0) (by decide)).cvt_up
    rw [sgnI_zero, Int.zero_mul] at this
    exact this
  have h3 : cmpB .lss .f64 (fcvt .f32 .f64 (innerV (crossV (moX F W) L) L)) 0 = false := by
    rw [lss_rk h2.num zero64V.num, h2.rk, zero64V.rk]
    rfl
  have h4 : V .f64 (gapV (fcvt .f32 .f64 (innerV (crossV (moX F W) L) L)) 0) 0 := by
    unfold gapV
    rw [if_neg (by rw [h3]; simp)]
    have := h2.sub zero64V (by rw [Int.sub_zero, Int.natAbs_zero, rndQ_zero]; exact cap_pos _)
    rw [Int.sub_zero] at this
    have e : rndZ FloatKind.f64.format.fractionBits 0 1 = 0 := by unfold rndZ; rw [Int.natAbs_zero, rndQ_zero, sgnI_zero]
    rwa [e] at this
  rw [lss_rk h4.num V_c2.num, h4.rk, V_c2.rk, decide_eq_true_eq]
  exact sgnI_pos (Nat.mul_pos (by omega) (Nat.pow_pos (by omega)))
end
/-- The least energy: N and M are the squares of the lengths. -/
def enC (N M : Nat) : Bool :=
  intN false (Nat.mul 4 N) fun _ m1 x1 => rootK false m1 x1 fun s2 m2 x2 => intN false (Nat.mul 16 M) fun _ m3 x3 => rootK false m3 x3 fun s4 m4 x4 =>
  mul64 (!s2) (Nat.shiftLeft m2 29) (Nat.add x2 896) s4 (Nat.shiftLeft m4 29) (Nat.add x4 896) fun s5 m5 x5 => add64 s5 m5 x5 true 5764607523034235 eC fun s6 m6 x6 =>
  bc s6 (alln 25 fun k => bc (Nat.ble (Nat.mul k k) (Nat.mul N M)) (Nat.ble (Nat.shiftLeft k 1073) (Nat.shiftLeft m6 x6)) true) false
set_option maxRecDepth 100000 in
set_option maxHeartbeats 40000000 in
theorem enC_all : (alln 13 fun N => alln 49 fun M => enC N M) = true := by decide +kernel
theorem sq2 {a : Int} (ha : -2 ≤ a ∧ a ≤ 2) : 0 ≤ a * a ∧ a * a ≤ 4 := by
  obtain ⟨i, rfl⟩ : ∃ i : Nat, a = (i : Int) - 2 := ⟨(a + 2).toNat, by omega⟩
  have hi : i ≤ 4 := by omega
  match i, hi with
  | 0, _ => decide
  | 1, _ => decide
  | 2, _ => decide
  | 3, _ => decide
  | 4, _ => decide
theorem sq4 {a : Int} (ha : -4 ≤ a ∧ a ≤ 4) : 0 ≤ a * a ∧ a * a ≤ 16 := by
  obtain ⟨i, rfl⟩ : ∃ i : Nat, a = (i : Int) - 4 := ⟨(a + 4).toNat, by omega⟩
  have hi : i ≤ 8 := by omega
  match i, hi with
  | 0, _ => decide
  | 1, _ => decide
  | 2, _ => decide
  | 3, _ => decide
  | 4, _ => decide
  | 5, _ => decide
  | 6, _ => decide
  | 7, _ => decide
  | 8, _ => decide
theorem shl0 (A T : Nat) (h : A = 0) : Nat.shiftLeft A 29 * T = 0 := by
  subst h
  have e0 : Nat.shiftLeft 0 29 = 0 := by
    show 0 <<< 29 = 0
    rw [Nat.zero_shiftLeft]
  rw [e0, Nat.zero_mul]
theorem sq_pos0 (x : Int) : 0 ≤ x * x := by
  rw [← Int.natAbs_mul_self]
  exact Int.natCast_nonneg _
theorem cauchy3 (a b c p q r : Int) : (a * p + b * q + c * r) * (a * p + b * q + c * r) ≤ (a * a + b * b + c * c) * (p * p + q * q + r * r) := by
  have l : (a*p+b*q+c*r)*(a*p+b*q+c*r) + ((b * r - c * q)*(b * r - c * q) + (c * p - a * r)*(c * p - a * r) + (a * q - b * p)*(a * q - b * p)) = (a*a+b*b+c*c)*(p*p+q*q+r*r) := by grind
  have s1 := sq_pos0 (b * r - c * q)
  have s2 := sq_pos0 (c * p - a * r)
  have s3 := sq_pos0 (a * q - b * p)
  omega
/-- Sixteenths that are not negative. -/
theorem VU.nat {X n : Nat} {a : Int} (h : VU X a) (e : a = (n : Int)) : V .f32 X (sgnI false (n * 2 ^ 145)) := by
  subst e
  unfold VU at h
  rw [decide_eq_false (Int.not_lt.2 (Int.natCast_nonneg n)), Int.natAbs_natCast] at h
  exact h
section
variable {F W L : V3} {fx fy fz a b c y z p q r : Int} (hs : Sm fx fy fz a b c y z) (hF : VUV F (16 * fx) (16 * fy) (16 * fz)) (hW : VUV W (16 * a) (16 * b) (16 * c)) (hp : (-4 ≤ p ∧ p ≤ 4) ∧ (-4 ≤ q ∧ q ≤ 4) ∧ -4 ≤ r ∧ r ≤ 4) (hL : VUV L (16 * p) (16 * q) (16 * r))
include hs hF hW hp hL
theorem en_ok : cmpB .geq .f64 (fcvt .f32 .f64 (fneg .f32 (innerV (moX F W) L))) (fop .sub .f64 (fop .mul .f64 (fneg .f64 (fcvt .f32 .f64 (longV (moX F W)))) (fcvt .f32 .f64 (longV L))) 4576918229304087675) = true := by
  obtain ⟨hp1, hp2, hp3⟩ := hp
  obtain ⟨ha, hb, hc⟩ := hs.w
  have hM := mo_VU hs hF hW
  have k1 := small_mul ha hp1; have k2 := small_mul hb hp2; have k3 := small_mul hc hp3
  have a1 := sq2 ha; have a2 := sq2 hb; have a3 := sq2 hc
  have b1 := sq4 hp1; have b2 := sq4 hp2; have b3 := sq4 hp3
  obtain ⟨N, hN⟩ : ∃ N : Nat, a * a + b * b + c * c = (N : Int) := ⟨(a * a + b * b + c * c).toNat, by omega⟩
  obtain ⟨M, hM'⟩ : ∃ M : Nat, p * p + q * q + r * r = (M : Int) := ⟨(p * p + q * q + r * r).toNat, by omega⟩
  have vE : VU (innerV (moX F W) L) (8 * (a * p + b * q + c * r)) := (((hM.x.mul hL.x (c := 8 * (a * p)) (by grind) (by omega)).add (hM.y.mul hL.y (c := 8 * (b * q)) (by grind) (by omega)) (by omega)).add (hM.z.mul hL.z (c := 8 * (c * r)) (by grind) (by omega)) (by omega)).cast (by omega)
  have vM : VU (innerV (moX F W) (moX F W)) ((4 * N : Nat) : Int) := (((hM.x.mul hM.x (c := 4 * (a * a)) (by grind) (by omega)).add (hM.y.mul hM.y (c := 4 * (b * b)) (by grind) (by omega)) (by omega)).add (hM.z.mul hM.z (c := 4 * (c * c)) (by grind) (by omega)) (by omega)).cast (by omega)
  have vL : VU (innerV L L) ((16 * M : Nat) : Int) := (((hL.x.mul hL.x (c := 16 * (p * p)) (by grind) (by omega)).add (hL.y.mul hL.y (c := 16 * (q * q)) (by grind) (by omega)) (by omega)).add (hL.z.mul hL.z (c := 16 * (r * r)) (by grind) (by omega)) (by omega)).cast (by omega)
  have h := alln_spec _ (alln_spec _ enC_all N (by omega)) M (by omega)
  unfold enC at h
  obtain ⟨m1, x1, e1, h⟩ := intN_spec h
  have v1 := vM.nat rfl
  rw [show 4 * N = Nat.mul 4 N from rfl, e1] at v1
  obtain ⟨s2, m2, x2, v2, h⟩ := rootK_spec v1 h
  obtain ⟨m3, x3, e3, h⟩ := intN_spec h
  have v3 := vL.nat rfl
  rw [show 16 * M = Nat.mul 16 M from rfl, e3] at v3
  obtain ⟨s4, m4, x4, v4, h⟩ := rootK_spec v3 h
  have w2 : V .f64 (fneg .f64 (fcvt .f32 .f64 (longV (moX F W)))) _ := (upK_spec v2).neg64v
  have w4 : V .f64 (fcvt .f32 .f64 (longV L)) _ := upK_spec v4
  obtain ⟨s5, m5, x5, v5, h⟩ := mul64_spec w2 w4 h
  obtain ⟨s6, m6, x6, v6, h⟩ := sub64_spec v5 V_c2 h
  cases s6
  · cases h
  rw [bc_true] at h
  -- the energy
  generalize hk : a * p + b * q + c * r = k at *
  have hcs : k * k ≤ (N : Int) * (M : Int) := by
    rw [← hN, ← hM', ← hk]
    exact cauchy3 a b c p q r
  have w := vE
  unfold VU at w
  obtain ⟨E, hE⟩ : ∃ E : Nat, 145 = E := ⟨_, rfl⟩
  rw [hE] at w
  have w6 := upK_spec w.neg32v
  rw [geq_rk w6.num v6.num, w6.rk, v6.rk, decide_eq_true_eq]
  by_cases hk0 : k ≤ 0
  · have q1 : (!decide (8 * k < 0)) = false ∨ (8 * k).natAbs = 0 := by
      by_cases e : k = 0
      · right; omega
      · left
        rw [decide_eq_true (by omega)]
        rfl
    have g0 : ∀ s A, (s = false ∨ A = 0) → 0 ≤ sgnI s A := fun s A h => by
      rcases h with rfl | rfl
      · unfold sgnI; simp
      · rw [sgnI_zero]; exact Int.le_refl _
    have g1 : sgnI true (m6 * 2 ^ x6) ≤ 0 := by
      generalize m6 * 2 ^ x6 = T
      unfold sgnI
      simp only [if_true]
      omega
    refine Int.le_trans g1 (g0 _ _ ?_)
    rcases q1 with q1 | q1
    · exact .inl q1
    · exact .inr (shl0 _ _ q1)
  · obtain ⟨n, rfl⟩ : ∃ n : Nat, k = (n : Int) := ⟨k.toNat, by omega⟩
    have hn : n * n ≤ N * M := by exact_mod_cast hcs
    have h7 := alln_spec _ h n (by omega)
    have : Nat.ble (Nat.mul n n) (Nat.mul N M) = true := Nat.ble_eq_true_of_le hn
    rw [this, bc_true] at h7
    have h8 := Nat.le_of_ble_eq_true h7
    have q1 : (!decide (8 * (n : Int) < 0)) = true := by
      rw [decide_eq_false (by omega)]
      rfl
    rw [q1]
    have e8 : Nat.shiftLeft (8 * (n : Int)).natAbs 29 * 2 ^ (Nat.add E 896) = Nat.shiftLeft n 1073 := by
      have : (8 * (n : Int)).natAbs = n * 2 ^ 3 := by omega
      rw [this]
      obtain ⟨R, hR⟩ : ∃ R : Nat, Nat.add E 896 = R := ⟨_, rfl⟩
      have hR1 : E + 896 = R := hR
      have hR2 : 1073 = 3 + 29 + R := by omega
      have f1 : Nat.shiftLeft (n * 2 ^ 3) 29 = n * 2 ^ 3 * 2 ^ 29 := Nat.shiftLeft_eq _ _
      have f2 : Nat.shiftLeft n (3 + 29 + R) = n * 2 ^ (3 + 29 + R) := Nat.shiftLeft_eq _ _
      rw [hR, hR2, f1, f2, Nat.pow_add, Nat.pow_add]
      simp only [Nat.mul_assoc]
    have e9 : Nat.shiftLeft m6 x6 = m6 * 2 ^ x6 := Nat.shiftLeft_eq _ _
    rw [e8]
    rw [e9] at h8
    generalize Nat.shiftLeft n 1073 = A at *
    generalize m6 * 2 ^ x6 = T at *
    unfold sgnI
    simp only [if_true]
    omega
end
end Go.Proofs.Ytejpamlaacffaaa
