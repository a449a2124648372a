/-
  Programs that compute what vectors are worth; multiples of a sixteenth, which are exact. Conditions: none.
-/
import Derived.Test.YtejpamlaacffaaaRd
namespace Go.Proofs.Ytejpamlaacffaaa
open Go Go.RowKit

theorem fit32 : Fit .f32 23 149 250 := ⟨rfl, by decide, by decide +kernel⟩
theorem fit64 : Fit .f64 52 1074 2040 := ⟨rfl, by decide, by decide +kernel⟩
def mul32 := mulK 23 149 250
def add32 := addK 23 250
def quo32 := quoK 23 149 250
def mul64 := mulK 52 1074 2040
def add64 := addK 52 2040
def quo64 := quoK 52 1074 2040
section
variable {X Y : Nat} {s1 s2 : Bool} {m1 m2 x1 x2 : Nat} {K : KK}
theorem add32_spec (hx : V .f32 X (sgnI s1 (m1 * 2 ^ x1))) (hy : V .f32 Y (sgnI s2 (m2 * 2 ^ x2))) (h : add32 s1 m1 x1 s2 m2 x2 K = true) : ∃ s m x, V .f32 (fop .add .f32 X Y) (sgnI s (m * 2 ^ x)) ∧ K s m x = true := addK_spec fit32 hx hy h
theorem quo32_spec (hx : V .f32 X (sgnI s1 (m1 * 2 ^ x1))) (hy : V .f32 Y (sgnI s2 (m2 * 2 ^ x2))) (h : quo32 s1 m1 x1 s2 m2 x2 K = true) : ∃ s m x, V .f32 (fop .quo .f32 X Y) (sgnI s (m * 2 ^ x)) ∧ K s m x = true := quoK_spec fit32 hx hy h
theorem mul64_spec (hx : V .f64 X (sgnI s1 (m1 * 2 ^ x1))) (hy : V .f64 Y (sgnI s2 (m2 * 2 ^ x2))) (h : mul64 s1 m1 x1 s2 m2 x2 K = true) : ∃ s m x, V .f64 (fop .mul .f64 X Y) (sgnI s (m * 2 ^ x)) ∧ K s m x = true := mulK_spec fit64 hx hy h
theorem sub64_spec (hx : V .f64 X (sgnI s1 (m1 * 2 ^ x1))) (hy : V .f64 Y (sgnI s2 (m2 * 2 ^ x2))) (h : add64 s1 m1 x1 (!s2) m2 x2 K = true) : ∃ s m x, V .f64 (fop .sub .f64 X Y) (sgnI s (m * 2 ^ x)) ∧ K s m x = true := subK_spec fit64 hx hy h
/-- The root of a number that is not negative. -/
def rootK (s : Bool) (m x : Nat) (K : KK) : Bool := bc s (bc (Nat.beq m 0) (K false 0 0) false) (force (Nat.shiftLeft m 29) fun n => sqrtK 1074 2040 n (Nat.add x 896) fun s n y => downK 250 s n y K)
theorem rootK_spec (hx : V .f32 X (sgnI s1 (m1 * 2 ^ x1))) (h : rootK s1 m1 x1 K = true) : ∃ s m x, V .f32 (rootF X) (sgnI s (m * 2 ^ x)) ∧ K s m x = true := by
  unfold rootK at h
  cases s1
  · rw [bc_false, force_eq] at h
    obtain ⟨s, m, x, hv, h⟩ := sqrtK_spec fit64 (upK_spec hx) h
    obtain ⟨s, m, x, hv, h⟩ := downK_spec fit32.c hv h
    exact ⟨s, m, x, hv.1, h⟩
  · rw [bc_true] at h
    cases h0 : Nat.beq m1 0 <;> rw [h0] at h
    · cases h
    · rw [bc_true] at h
      obtain rfl : m1 = 0 := Nat.eq_of_beq_eq_true h0
      have hx' : V .f32 X (sgnI false (0 * 2 ^ x1)) := by
        rw [Nat.zero_mul, sgnI_zero] at hx ⊢
        exact hx
      have hu := upK_spec hx'
      have e0 : Nat.shiftLeft 0 29 = 0 := by show 0 <<< 29 = 0; rw [Nat.zero_shiftLeft]
      rw [e0] at hu
      obtain ⟨s, m, x, hv, hq⟩ := sqrtK_spec (K := fun s m _ => !s && Nat.beq m 0) fit64 hu (show sqrtK 1074 2040 0 _ (fun s m _ => !s && Nat.beq m 0) = true from rfl)
      simp only [Bool.and_eq_true, Bool.not_eq_true'] at hq
      obtain ⟨rfl, hn⟩ := hq
      obtain rfl := Nat.eq_of_beq_eq_true hn
      have hd := (hv.cvt_down (by rw [sgnI_abs, Nat.zero_mul, rndQ_zero]; exact cap_pos _)).1
      rw [rndZ_sgn, Nat.zero_mul, rndQ_zero] at hd
      exact ⟨false, 0, 0, by rw [Nat.zero_mul]; exact hd, h⟩
end
/-- A vector whose numbers are finite and worth these. -/
structure VW (A : V3) (sx : Bool) (mx ex : Nat) (sy : Bool) (my ey : Nat) (sz : Bool) (mz ez : Nat) : Prop where
  x : V .f32 A.x (sgnI sx (mx * 2 ^ ex))
  y : V .f32 A.y (sgnI sy (my * 2 ^ ey))
  z : V .f32 A.z (sgnI sz (mz * 2 ^ ez))
abbrev K9 : Type := Bool → Nat → Nat → Bool → Nat → Nat → Bool → Nat → Nat → Bool
def innK (a1 : Bool) (a2 a3 : Nat) (b1 : Bool) (b2 b3 : Nat) (c1 : Bool) (c2 c3 : Nat) (d1 : Bool) (d2 d3 : Nat) (f1 : Bool) (f2 f3 : Nat) (g1 : Bool) (g2 g3 : Nat) (K : KK) : Bool :=
  mul32 a1 a2 a3 d1 d2 d3 fun s1 n1 e1 => mul32 b1 b2 b3 f1 f2 f3 fun s2 n2 e2 => add32 s1 n1 e1 s2 n2 e2 fun s3 n3 e3 => mul32 c1 c2 c3 g1 g2 g3 fun s4 n4 e4 => add32 s3 n3 e3 s4 n4 e4 K
def longK (a1 : Bool) (a2 a3 : Nat) (b1 : Bool) (b2 b3 : Nat) (c1 : Bool) (c2 c3 : Nat) (K : KK) : Bool := innK a1 a2 a3 b1 b2 b3 c1 c2 c3 a1 a2 a3 b1 b2 b3 c1 c2 c3 fun s n e => rootK s n e K
def scaK (a1 : Bool) (a2 a3 : Nat) (b1 : Bool) (b2 b3 : Nat) (c1 : Bool) (c2 c3 : Nat) (s : Bool) (n e : Nat) (K : K9) : Bool :=
  mul32 a1 a2 a3 s n e fun s1 n1 e1 => mul32 b1 b2 b3 s n e fun s2 n2 e2 => mul32 c1 c2 c3 s n e fun s3 n3 e3 => K s1 n1 e1 s2 n2 e2 s3 n3 e3
def sumK (a1 : Bool) (a2 a3 : Nat) (b1 : Bool) (b2 b3 : Nat) (c1 : Bool) (c2 c3 : Nat) (d1 : Bool) (d2 d3 : Nat) (f1 : Bool) (f2 f3 : Nat) (g1 : Bool) (g2 g3 : Nat) (K : K9) : Bool :=
  add32 a1 a2 a3 d1 d2 d3 fun s1 n1 e1 => add32 b1 b2 b3 f1 f2 f3 fun s2 n2 e2 => add32 c1 c2 c3 g1 g2 g3 fun s3 n3 e3 => K s1 n1 e1 s2 n2 e2 s3 n3 e3
def cubK (s : Bool) (n e : Nat) (K : KK) : Bool := mul32 s n e s n e fun s1 n1 e1 => mul32 s1 n1 e1 s n e K
section
variable {A B : V3} {S : Nat} {a1 b1 c1 d1 f1 g1 s : Bool} {a2 a3 b2 b3 c2 c3 d2 d3 f2 f3 g2 g3 n e : Nat} {K : KK} {J : K9}
end
/-- Runs through 0 .. n - 1. -/
def alln (n : Nat) (f : Nat → Bool) : Bool := Nat.rec (motive := fun _ => Bool) true (fun m ih => bc (f m) ih false) n
theorem alln_succ (n : Nat) (f : Nat → Bool) : alln (n + 1) f = bc (f n) (alln n f) false := rfl
theorem alln_spec {f : Nat → Bool} : ∀ n, alln n f = true → ∀ i, i < n → f i = true
  | n + 1, h, i, hi => by
    rw [alln_succ] at h
    cases hf : f n <;> rw [hf] at h
    · cases h
    · rw [bc_true] at h
      by_cases e : i = n
      · subst e; exact hf
      · exact alln_spec n h i (by omega)
/-- X is worth a sixteenths. -/
def VU (X : Nat) (a : Int) : Prop := V .f32 X (sgnI (decide (a < 0)) (a.natAbs * 2 ^ 145))
theorem sgnI_mulU (a : Int) (U : Nat) : sgnI (decide (a < 0)) (a.natAbs * U) = a * (U : Int) := by
  unfold sgnI
  by_cases h : a < 0
  · rw [decide_eq_true h, if_pos rfl]
    have : (a.natAbs : Int) = -a := by omega
    rw [Int.natCast_mul, this, Int.neg_mul, Int.neg_neg]
  · rw [decide_eq_false h]
    have : (a.natAbs : Int) = a := by omega
    simp only [Bool.false_eq_true, if_false]
    rw [Int.natCast_mul, this]
theorem VU.core {X : Nat} {c : Int} (hc : c.natAbs < 2 ^ 24) (h : ∀ U : Nat, U = 2 ^ 145 → rndQ 23 (c.natAbs * U) 1 < capF FloatKind.f32.format → V .f32 X (rndZ 23 (c * (U : Int)) 1)) : VU X c := by
  have hr := rndQ_exact (fb := 23) (m := c.natAbs) (s := 145) hc
  obtain ⟨U, hU⟩ : ∃ U : Nat, U = 2 ^ 145 := ⟨_, rfl⟩
  have := h U hU (by
    rw [hU, hr]
    exact Nat.lt_of_lt_of_le (Nat.mul_lt_mul_of_pos_right hc (Nat.pow_pos (by omega))) (by decide +kernel))
  unfold VU
  rw [← hU] at hr ⊢
  rw [← sgnI_mulU c U, rndZ_sgn, hr] at this
  exact this
theorem VU.add {X Y : Nat} {a b : Int} (hx : VU X a) (hy : VU Y b) (hc : (a + b).natAbs < 2 ^ 24) : VU (fop .add .f32 X Y) (a + b) := by
  refine VU.core hc fun U hU hr => ?_
  unfold VU at hx hy
  rw [← hU, sgnI_mulU] at hx hy
  have e : a * (U : Int) + b * (U : Int) = (a + b) * (U : Int) := by rw [Int.add_mul]
  have := hx.add hy (by
    rw [e, Int.natAbs_mul, Int.natAbs_natCast]
    exact hr)
  rw [e] at this
  exact this
theorem VU.sub {X Y : Nat} {a b : Int} (hx : VU X a) (hy : VU Y b) (hc : (a - b).natAbs < 2 ^ 24) : VU (fop .sub .f32 X Y) (a - b) := by
  refine VU.core hc fun U hU hr => ?_
  unfold VU at hx hy
  rw [← hU, sgnI_mulU] at hx hy
  have e : a * (U : Int) - b * (U : Int) = (a - b) * (U : Int) := by rw [Int.sub_mul]
  have := hx.sub hy (by
    rw [e, Int.natAbs_mul, Int.natAbs_natCast]
    exact hr)
  rw [e] at this
  exact this
theorem VU.mul {X Y : Nat} {a b c : Int} (hx : VU X a) (hy : VU Y b) (he : a * b = 16 * c) (hc : c.natAbs < 2 ^ 24) : VU (fop .mul .f32 X Y) c := by
  refine VU.core hc fun U hU hr => ?_
  unfold VU at hx hy
  rw [← hU, sgnI_mulU] at hx hy
  have hq : ∀ w : Nat, rndQ 23 (w * 16 * U * U) (2 ^ pF .f32) = rndQ 23 (w * U) 1 := fun w => by
    obtain ⟨T, hT⟩ : ∃ T : Nat, T = 145 := ⟨_, rfl⟩
    have h1 : w * 16 * U * U = w * 2 ^ (4 + T + T) := by
      rw [hU, ← hT, Nat.pow_add, Nat.pow_add]
      simp only [Nat.mul_assoc]
    have h2 : w * U = w * 2 ^ T := by rw [hU, ← hT]
    have h3 : 2 ^ pF .f32 = 1 * 2 ^ (4 + T) := by
      have : pF .f32 = 4 + T := by rw [hT]; decide
      rw [this, Nat.one_mul]
    have h4 : (1 : Nat) = 1 * 2 ^ 0 := rfl
    rw [h1, h2, h3]
    rw [show rndQ 23 (w * 2 ^ T) 1 = rndQ 23 (w * 2 ^ T) (1 * 2 ^ 0) from rfl]
    exact rndQ_scale2 (by omega)
  have e : a * (U : Int) * (b * (U : Int)) = c * ((16 * U * U : Nat) : Int) := by
    rw [Int.mul_assoc, Int.mul_left_comm (U : Int) b, ← Int.mul_assoc a b, he, Int.natCast_mul, Int.natCast_mul, Int.mul_comm 16 c]
    simp only [Int.mul_assoc]
    rfl
  have e2 : (a * (U : Int) * (b * (U : Int))).natAbs = c.natAbs * 16 * U * U := by
    rw [e, Int.natAbs_mul, Int.natAbs_natCast]
    simp only [Nat.mul_assoc]
  have := hx.mul hy (by
    rw [e2]
    show rndQ 23 _ _ < _
    rw [hq]
    exact hr)
  have e3 : rndZ FloatKind.f32.format.fractionBits (a * (U : Int) * (b * (U : Int))) (2 ^ pF .f32) = rndZ 23 (c * (U : Int)) 1 := by
    show rndZ 23 _ _ = _
    rw [e, ← sgnI_mulU, rndZ_sgn, ← sgnI_mulU, rndZ_sgn]
    congr 1
    rw [← Nat.mul_assoc, ← Nat.mul_assoc]
    exact hq _
  rw [e3] at this
  exact this
theorem VU.ofInt {n : Int} (hn : n.natAbs < 2 ^ 19) : VU (floatOfInt .f32 n) (16 * n) := by
  have ha : (16 * n).natAbs = n.natAbs * 16 := by omega
  have hs : decide (16 * n < 0) = decide (n < 0) := decide_eq_decide.2 (by omega)
  have h24 : n.natAbs * 16 < 2 ^ 24 := by omega
  have hr := rndQ_exact (fb := 23) (m := n.natAbs) (s := 149) (by omega)
  have h := V.ofInt (k := .f32) (n := n) (by
    show rndQ 23 (n.natAbs * 2 ^ 149) 1 < _
    rw [hr]
    exact Nat.lt_of_lt_of_le (Nat.mul_lt_mul_of_pos_right hn (Nat.pow_pos (by omega))) (by decide +kernel))
  have e : rndQ FloatKind.f32.format.fractionBits (n.natAbs * 2 ^ pF .f32) 1 = n.natAbs * 2 ^ 149 := hr
  rw [e] at h
  unfold VU
  rw [ha, hs, Nat.mul_assoc]
  exact h
theorem VU.const {X : Nat} {a : Int} (h : (match FloatKind.f32.format.read X with | .number s m i => decide (FloatKind.f32.format.leastPlace ≤ i) && decide (sgnI (decide (a < 0)) (a.natAbs * 2 ^ 145) = sgnI s (m * 2 ^ (i - FloatKind.f32.format.leastPlace).toNat)) | _ => false) = true) : VU X a := by
  refine ⟨?_⟩
  cases hx : FloatKind.f32.format.read X with
  | number s m i =>
    rw [hx] at h
    simp only [Bool.and_eq_true, decide_eq_true_eq] at h
    exact ⟨s, m, i, rfl, h.1, h.2⟩
  | infinity s => rw [hx] at h; cases h
  | nan s t => rw [hx] at h; cases h
end Go.Proofs.Ytejpamlaacffaaa
