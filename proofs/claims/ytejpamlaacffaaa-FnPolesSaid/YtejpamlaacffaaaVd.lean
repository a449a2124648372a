/-
  What operations make of worths, for all numbers of these worths; bounds. Conditions: none.
-/
import Derived.Test.YtejpamlaacffaaaUb
import Derived.Test.YtejpamlaacffaaaUe
namespace Go.Proofs.Ytejpamlaacffaaa
open Go Go.RowKit

theorem cutQ_le {A B c : Nat} (hB : 0 < B) (h : A ≤ c * B) : cutQ A B ≤ c := by
  unfold cutQ
  rcases Nat.lt_or_eq_of_le h with q | q
  · have : A / B < c := (Nat.div_lt_iff_lt_mul hB).2 q
    have h3 : ∀ b : Bool, b.toNat ≤ 1 := fun b => by cases b <;> decide
    exact Nat.le_trans (Nat.add_le_add_left (h3 _) _) this
  · rw [q, Nat.mul_div_cancel _ hB, Nat.mul_mod_left]
    have e1 : decide (B < 2 * 0) = false := decide_eq_false (by omega)
    have e2 : decide (B = 2 * 0) = false := decide_eq_false (by omega)
    rw [e1, e2]
    exact Nat.le_refl _
theorem rndQ_le {fb A B E : Nat} (hB : 0 < B) (hE : fb ≤ E) (h : A ≤ 2 ^ E * B) : rndQ fb A B ≤ 2 ^ E := by
  unfold rndQ
  have hq : A / B ≤ 2 ^ E := Nat.div_le_of_le_mul (by rw [Nat.mul_comm]; exact h)
  have hl : (A / B).log2 ≤ E := by
    by_cases h0 : A / B = 0
    · rw [h0]; simp
    · have := Nat.log2_self_le h0
      exact (Nat.pow_le_pow_iff_right (by omega : 1 < 2)).1 (Nat.le_trans this hq)
  obtain ⟨d, hd⟩ : ∃ d, (A / B).log2 - fb = d := ⟨_, rfl⟩
  rw [hd]
  have hdE : d ≤ E := by omega
  have hp : 0 < 2 ^ d := Nat.pow_pos (by omega)
  have : cutQ A (B * 2 ^ d) ≤ 2 ^ (E - d) := by
    refine cutQ_le (Nat.mul_pos hB hp) (Nat.le_trans h (Nat.le_of_eq ?_))
    rw [Nat.mul_comm B, ← Nat.mul_assoc, ← Nat.pow_add, show E - d + d = E by omega]
  refine Nat.le_trans (Nat.mul_le_mul_right _ this) ?_
  rw [← Nat.pow_add, show E - d + d = E by omega]
  exact Nat.le_refl _
/-- How far a sum is rounded. -/
theorem rndQ_err {A E : Nat} (h : A < 2 ^ (E + 24)) : rndQ 23 A 1 ≤ A + 2 ^ E ∧ A ≤ rndQ 23 A 1 + 2 ^ E := by
  unfold rndQ
  rw [Nat.div_one, Nat.one_mul]
  have hl : A.log2 - 23 ≤ E := by
    by_cases h0 : A = 0
    · rw [h0]; simp
    · have := (Nat.log2_lt h0).2 h
      omega
  obtain ⟨d, hd⟩ : ∃ d, A.log2 - 23 = d := ⟨_, rfl⟩
  rw [hd] at hl ⊢
  have hdE : 2 ^ d ≤ 2 ^ E := Nat.pow_le_pow_right (by omega) hl
  have hp : 0 < 2 ^ d := Nat.pow_pos (by omega)
  generalize 2 ^ d = B at *
  generalize 2 ^ E = T at *
  have h1 := Nat.div_add_mod A B
  have h2 := Nat.mod_lt A hp
  unfold cutQ
  have h3 : ∀ b : Bool, b.toNat = 0 ∨ b.toNat = 1 := fun b => by cases b <;> simp
  rw [Nat.add_mul, Nat.mul_comm (A / B)]
  rcases h3 (decide (B < 2 * (A % B)) || (decide (B = 2 * (A % B)) && decide (A / B % 2 = 1))) with q | q
  · rw [q]; omega
  · rw [q]; omega
theorem capL32 {E : Nat} (h : E ≤ 270) {R : Nat} (hR : R ≤ 2 ^ E) : R < capF FloatKind.f32.format :=
  Nat.lt_of_le_of_lt (Nat.le_trans hR (Nat.pow_le_pow_right (by omega) h)) (by decide +kernel)
theorem capL64 {E : Nat} (h : E ≤ 2090) {R : Nat} (hR : R ≤ 2 ^ E) : R < capF FloatKind.f64.format := by
  obtain ⟨T, hT⟩ : ∃ T : Nat, T = 2090 := ⟨_, rfl⟩
  have h5 : 2 ^ E ≤ 2 ^ T := Nat.pow_le_pow_right (by omega) (by omega)
  refine Nat.lt_of_le_of_lt (Nat.le_trans hR h5) ?_
  unfold capF
  exact Nat.pow_lt_pow_right (by omega) (by rw [hT]; decide)
/-- A sum of two that are not great. -/
theorem V.add_err {X Y : Nat} {a b : Int} (hx : V .f32 X a) (hy : V .f32 Y b) {E : Nat} (hE : E ≤ 240) (h : (a + b).natAbs < 2 ^ (E + 24)) : ∃ c, V .f32 (fop .add .f32 X Y) c ∧ (c - (a + b)).natAbs ≤ 2 ^ E := by
  obtain ⟨e1, e2⟩ := rndQ_err h
  have hr : rndQ 23 (a + b).natAbs 1 < capF FloatKind.f32.format := by
    refine capL32 (E := E + 25) (by omega) ?_
    have : 2 ^ (E + 24) + 2 ^ E ≤ 2 ^ (E + 25) := by
      rw [Nat.pow_succ 2 (E + 24), Nat.mul_two]
      exact Nat.add_le_add_left (Nat.pow_le_pow_right (by omega) (by omega)) _
    omega
  refine ⟨_, hx.add hy hr, ?_⟩
  show (rndZ 23 (a + b) 1 - (a + b)).natAbs ≤ _
  unfold rndZ
  generalize rndQ 23 (a + b).natAbs 1 = R at *
  generalize 2 ^ E = T at *
  by_cases hn : a + b < 0
  · rw [decide_eq_true hn]
    unfold sgnI
    simp only [if_true]
    omega
  · rw [decide_eq_false hn]
    unfold sgnI
    simp only [Bool.false_eq_true, if_false]
    omega
/-- The root of a number that is not great. -/
theorem sqrt_bd {X a G : Nat} (hx : V .f64 X (sgnI false a)) (ha : 0 < a) (hG : G ≤ 2000) (hb : a * 2 ^ pF .f64 ≤ 2 ^ (2 * G)) : ∃ R, V .f64 (fsqrt X) (sgnI false R) ∧ R ≤ 2 ^ (G + 1) := by
  have hN4 : 2 ^ 104 ≤ a * 2 ^ pF .f64 := by
    refine Nat.le_trans ?_ (Nat.mul_le_mul_right _ ha)
    rw [Nat.one_mul]
    exact Nat.pow_le_pow_right (by omega) (by decide)
  have hVs := fun w d g1 g2 g3 g4 => @V.sqrt X a w d hx ha g1 g2 g3 g4
  generalize a * 2 ^ pF .f64 = N at *
  have hN0 : N ≠ 0 := by
    have := Nat.pow_pos (n := 104) (show 0 < 2 by omega)
    omega
  have hL1 := Nat.log2_self_le hN0
  have hL2 : N < 2 ^ (N.log2 + 1) := Nat.lt_log2_self
  have hL3 : 104 ≤ N.log2 := (Nat.le_log2 hN0).2 hN4
  have hL4 : N.log2 ≤ 2 * G := (Nat.pow_le_pow_iff_right (by omega : 1 < 2)).1 (Nat.le_trans hL1 hb)
  generalize N.log2 = L at *
  obtain ⟨d, hd⟩ : ∃ d, d = L / 2 - 52 := ⟨_, rfl⟩
  have hp : 0 < 2 ^ (2 * d) := Nat.pow_pos (by omega)
  obtain ⟨M, hM⟩ : ∃ M, M = N / 2 ^ (2 * d) := ⟨_, rfl⟩
  have hM1 : 2 ^ 104 ≤ M := by
    rw [hM]
    refine (Nat.le_div_iff_mul_le hp).2 (Nat.le_trans ?_ hL1)
    rw [← Nat.pow_add]
    exact Nat.pow_le_pow_right (by omega) (by omega)
  have hM2 : M < 2 ^ 106 := by
    rw [hM]
    refine (Nat.div_lt_iff_lt_mul hp).2 (Nat.lt_of_lt_of_le hL2 ?_)
    rw [← Nat.pow_add]
    exact Nat.pow_le_pow_right (by omega) (by omega)
  obtain ⟨r1, r2⟩ := rootFrom_is M 53 0 (Nat.zero_le _) (by
    rw [Nat.zero_add, pow_two2]
    exact hM2)
  generalize Ieee.Datum.rootFrom M 53 0 = w at *
  have g3 : 2 ^ 52 ≤ w := by
    have : 2 ^ 52 < w + 1 := sq_lt (by rw [pow_two2]; omega)
    omega
  have g4 : w < 2 ^ 53 := sq_lt (by rw [pow_two2]; omega)
  have hdm := Nat.div_add_mod N (2 ^ (2 * d))
  have hdr := Nat.mod_lt N hp
  rw [← hM] at hdm
  have g1 : w * w * 2 ^ (2 * d) ≤ N := by
    have := Nat.mul_le_mul_right (2 ^ (2 * d)) r1
    rw [Nat.mul_comm M] at this
    omega
  have g2 : N < (w + 1) * (w + 1) * 2 ^ (2 * d) := by
    have := Nat.mul_le_mul_right (2 ^ (2 * d)) (show M + 1 ≤ (w + 1) * (w + 1) from r2)
    rw [Nat.add_mul, Nat.one_mul, Nat.mul_comm M] at this
    omega
  have hu : upS N w d ≤ 1 := by
    have h3 : ∀ b : Bool, b.toNat ≤ 1 := fun b => by cases b <;> decide
    exact h3 _
  have hR : (w + upS N w d) * 2 ^ d ≤ 2 ^ (G + 1) := by
    have h1 : w + upS N w d ≤ 2 ^ 53 := by omega
    refine Nat.le_trans (Nat.mul_le_mul_right _ h1) ?_
    rw [← Nat.pow_add]
    exact Nat.pow_le_pow_right (by omega) (by omega)
  exact ⟨_, hVs w d g1 g2 g3 g4 (capL64 (by omega) hR), hR⟩
theorem root_zero {X : Nat} {s : Bool} (hx : V .f32 X (sgnI s 0)) : V .f32 (rootF X) 0 := by
  have hx' : V .f32 X (sgnI false (0 * 2 ^ 0)) := by
    rw [Nat.zero_mul, sgnI_zero]
    rw [sgnI_zero] at hx
    exact hx
  obtain ⟨s, m, x, v, h⟩ := rootK_spec (K := fun _ m _ => Nat.beq m 0) hx' (show rootK false 0 0 (fun _ m _ => Nat.beq m 0) = true from rfl)
  obtain rfl := Nat.eq_of_beq_eq_true h
  rw [Nat.zero_mul, sgnI_zero] at v
  exact v
/-- A root that is not great, or is none. -/
theorem root_bd {X A E : Nat} {s : Bool} (hx : V .f32 X (sgnI s A)) (hE : E ≤ 200 ∧ E % 2 = 1) (hA : A ≤ 2 ^ E) : isNan .f32 (rootF X) = true ∨ ∃ R, V .f32 (rootF X) (sgnI false R) ∧ R ≤ 2 ^ ((E + 1) / 2 + 75) := by
  by_cases h0 : A = 0
  · subst h0
    exact .inr ⟨0, by rw [sgnI_zero]; exact root_zero hx, Nat.zero_le _⟩
  have hu := hx.cvt_up
  obtain ⟨Q, hQ⟩ : ∃ Q : Nat, Q = 925 := ⟨_, rfl⟩
  rw [← hQ] at hu
  have e : sgnI s A * ((2 ^ Q : Nat) : Int) = sgnI s (A * 2 ^ Q) := by
    generalize (2 : Nat) ^ Q = T
    unfold sgnI
    cases s <;> simp [Int.neg_mul]
  rw [e] at hu
  have hp : 0 < A * 2 ^ Q := Nat.mul_pos (by omega) (Nat.pow_pos (by omega))
  cases s
  · right
    have hP : pF .f64 = 1074 := by decide
    obtain ⟨R, hv, hR⟩ := sqrt_bd (G := (E + 1) / 2 + 999) hu hp (by omega) (by
      rw [Nat.mul_assoc, ← Nat.pow_add]
      refine Nat.le_trans (Nat.mul_le_mul_right _ hA) ?_
      rw [← Nat.pow_add]
      exact Nat.pow_le_pow_right (by omega) (by omega))
    have hr : rndQ 23 R (2 ^ Q) ≤ 2 ^ ((E + 1) / 2 + 75) := rndQ_le (Nat.pow_pos (by omega)) (by omega) (by
      rw [← Nat.pow_add]
      exact Nat.le_trans hR (Nat.pow_le_pow_right (by omega) (by omega)))
    have hd := (hv.cvt_down (by rw [sgnI_abs, ← hQ]; exact capL32 (by omega) hr)).1
    rw [rndZ_sgn, ← hQ] at hd
    exact ⟨_, hd, hr⟩
  · left
    obtain ⟨t, m, i, e1, hi, ea⟩ := hu.out
    have ht : true = t := by
      have : A * 2 ^ Q = m * 2 ^ (i - FloatKind.f64.format.leastPlace).toNat := by
        have := congrArg Int.natAbs ea
        rwa [sgnI_abs, sgnI_abs] at this
      rw [← this] at ea
      exact sgnI_sign ea (by omega)
    subst ht
    have hm : m ≠ 0 := fun q => by
      subst q
      rw [Nat.zero_mul, sgnI_zero] at ea
      have := congrArg Int.natAbs ea
      rw [sgnI_abs] at this
      omega
    have hn : fsqrt (fcvt .f32 .f64 X) = nanOf .f64 := by
      unfold fsqrt Ieee.Format.sqrt
      rw [e1]
      unfold Ieee.Datum.root
      simp only [hm, if_false, if_true, Option.map_none, Option.getD_none]
    unfold rootF
    rw [hn]
    decide +kernel
/-- A vector that is not great has no great length. -/
theorem long_bd {A : V3} {a b c : Int} (hx : V .f32 A.x a) (hy : V .f32 A.y b) (hz : V .f32 A.z c) (h : a.natAbs ≤ 2 ^ 136 ∧ b.natAbs ≤ 2 ^ 136 ∧ c.natAbs ≤ 2 ^ 136) {T : Nat} {X : Nat} (hX : V .f32 X (sgnI false T)) (hT : 2 ^ 138 ≤ T) : cmpB .gtr .f32 (longV A) X = false := by
  obtain ⟨M, hM⟩ : ∃ M : Nat, 136 = M := ⟨_, rfl⟩
  rw [hM] at h
  have sq : ∀ {x y : Nat} {u v : Int}, V .f32 x u → V .f32 y v → u.natAbs ≤ 2 ^ M → v.natAbs ≤ 2 ^ M → ∃ w, V .f32 (fop .mul .f32 x y) w ∧ w.natAbs ≤ 2 ^ 123 := fun {x y u v} h1 h2 k1 k2 => by
    have hr : rndQ 23 (u * v).natAbs (2 ^ pF .f32) ≤ 2 ^ 123 := rndQ_le (Nat.pow_pos (by omega)) (by omega) (by
      rw [Int.natAbs_mul, ← Nat.pow_add, show 123 + pF .f32 = M + M by rw [← hM]; decide, Nat.pow_add]
      exact Nat.mul_le_mul k1 k2)
    refine ⟨_, h1.mul h2 (capL32 (by omega) hr), ?_⟩
    unfold rndZ
    rw [sgnI_abs]
    exact hr
  have ad : ∀ {x y : Nat} {u v : Int} {E : Nat}, V .f32 x u → V .f32 y v → 23 ≤ E → E ≤ 200 → u.natAbs ≤ 2 ^ E → v.natAbs ≤ 2 ^ E → ∃ w, V .f32 (fop .add .f32 x y) w ∧ w.natAbs ≤ 2 ^ (E + 1) := fun {x y u v E} h1 h2 e1 e2 k1 k2 => by
    have hr : rndQ 23 (u + v).natAbs 1 ≤ 2 ^ (E + 1) := rndQ_le (by omega) (by omega) (by
      rw [Nat.mul_one, Nat.pow_succ]
      have := Int.natAbs_add_le u v
      omega)
    refine ⟨_, h1.add h2 (capL32 (by omega) hr), ?_⟩
    unfold rndZ
    rw [sgnI_abs]
    exact hr
  obtain ⟨w1, v1, k1⟩ := sq hx hx h.1 h.1
  obtain ⟨w2, v2, k2⟩ := sq hy hy h.2.1 h.2.1
  obtain ⟨w3, v3, k3⟩ := sq hz hz h.2.2 h.2.2
  obtain ⟨w4, v4, k4⟩ := ad v1 v2 (by omega) (by omega) k1 k2
  obtain ⟨w5, v5, k5⟩ := ad v4 v3 (by omega) (by omega) k4 (Nat.le_trans k3 (Nat.pow_le_pow_right (by omega) (by omega)))
  have e : w5 = sgnI (decide (w5 < 0)) w5.natAbs := by
    have := sgnI_mulU w5 1
    rw [Nat.mul_one] at this
    rw [this]
    simp
  rw [e] at v5
  rcases root_bd v5 (E := 125) (by omega) k5 with hn | ⟨R, hv, hR⟩
  · show cmpB .gtr .f32 (rootF (innerV A A)) X = false
    cases hc : cmpB .gtr .f32 (rootF (innerV A A)) X
    · rfl
    · have := (gtr_iff.1 hc).1
      have hn' : isNan .f32 (rootF (innerV A A)) = true := hn
      rw [hn'] at this
      cases this
  · have hv' : V .f32 (longV A) (sgnI false R) := hv
    rw [gtr_rk hv'.num hX.num, hv'.rk, hX.rk, decide_eq_false_iff_not]
    have : R ≤ T := Nat.le_trans hR hT
    unfold sgnI
    simp only [Bool.false_eq_true, if_false]
    omega
section
variable {s1 s2 : Bool} {m1 m2 x1 x2 : Nat} {K : KK}
/-- What a product is worth, for all signs. -/
def MulIs (A B R : Nat) : Prop := ∀ X Y s t, V .f32 X (sgnI s A) → V .f32 Y (sgnI t B) → V .f32 (fop .mul .f32 X Y) (sgnI (Bool.xor s t) R)
def QuoIs (A B R : Nat) : Prop := ∀ X Y s t, V .f32 X (sgnI s A) → V .f32 Y (sgnI t B) → V .f32 (fop .quo .f32 X Y) (sgnI (Bool.xor s t) R)
def RootIs (A R : Nat) : Prop := ∀ X, V .f32 X (sgnI false A) → V .f32 (rootF X) (sgnI false R)
theorem V_mul_is {A B R : Nat} (h : rndQ 23 (A * B) (2 ^ pF .f32) = R) (hc : R < capF FloatKind.f32.format) : MulIs A B R := fun X Y s t hx hy => by
  have he : sgnI s A * sgnI t B = sgnI (Bool.xor s t) (A * B) := sgnI_mul _ _ _ _
  have := hx.mul hy (by rw [he, sgnI_abs]; rw [← h] at hc; exact hc)
  rw [he, rndZ_sgn] at this
  rw [← h]
  exact this
theorem mul32_rk (h : mul32 s1 m1 x1 s2 m2 x2 K = true) : ∃ m y, MulIs (m1 * 2 ^ x1) (m2 * 2 ^ x2) (m * 2 ^ y) ∧ K (bx s1 s2) m y = true := by
  have hC := fit32.c
  unfold mul32 mulK at h
  rw [sgK_eq] at h
  have he : m1 * 2 ^ x1 * (m2 * 2 ^ x2) = m1 * m2 * 2 ^ (x1 + x2) := by rw [Nat.pow_add, Nat.mul_mul_mul_comm]
  cases h0 : Nat.beq (Nat.mul m1 m2) 0 <;> rw [h0] at h
  · rw [bc_false, force_eq] at h
    obtain ⟨h1, h2⟩ := ble_or h
    have h1 : 149 ≤ x1 + x2 := h1
    obtain ⟨m, y, q0, q1, q2⟩ := rnM_spec hC h2
    refine ⟨m, y, V_mul_is ?_ q1, q2⟩
    rw [he, ← q0, show pF .f32 = 149 by decide]
    rw [show (2 : Nat) ^ 149 = 1 * 2 ^ 149 by rw [Nat.one_mul], show rndQ 23 (Nat.mul m1 m2 * 2 ^ Nat.sub (Nat.add x1 x2) 149) 1 = rndQ 23 (m1 * m2 * 2 ^ (x1 + x2 - 149)) (1 * 2 ^ 0) from rfl]
    exact rndQ_scale2 (by omega)
  · rw [bc_true] at h
    have hz : m1 * m2 = 0 := Nat.eq_of_beq_eq_true h0
    refine ⟨0, 0, V_mul_is ?_ ?_, h⟩
    · rw [he, hz, Nat.zero_mul, rndQ_zero, Nat.zero_mul]
    · rw [Nat.zero_mul]; exact cap_pos _
theorem V.cong {k : FloatKind} {X : Nat} {s : Bool} {A B : Nat} (h : V k X (sgnI s A)) (e : A = B) : V k X (sgnI s B) := e ▸ h
theorem V.uniq {k : FloatKind} {X : Nat} {a b : Int} (h : V k X a) (h' : V k X b) : a = b := h.rk.symm.trans h'.rk
theorem quoK_rk {k : FloatKind} {fb P Z : Nat} (hk : Fit k fb P Z) (h : quoK fb P Z s1 m1 x1 s2 m2 x2 K = true) : ∃ m y, (∀ X Y s t, V k X (sgnI s (m1 * 2 ^ x1)) → V k Y (sgnI t (m2 * 2 ^ x2)) → V k (fop .quo k X Y) (sgnI (Bool.xor s t) (m * 2 ^ y))) ∧ K (Bool.xor s1 s2) m y = true := by
  obtain ⟨hf, hP, hC⟩ := hk
  subst hf hP
  unfold quoK at h
  cases h0 : Nat.beq m2 0 <;> rw [h0] at h
  case true => cases h
  rw [bc_false, sgK_eq, bx_eq] at h
  have hm2 : 0 < m2 := by
    rcases Nat.eq_zero_or_pos m2 with q | q
    · subst q; cases h0
    · exact q
  have hB : 0 < m2 * 2 ^ x2 := Nat.mul_pos hm2 (Nat.pow_pos (by omega))
  cases h1 : Nat.beq m1 0 <;> rw [h1] at h
  · rw [bc_false, force_eq, force_eq] at h
    obtain ⟨h2, h⟩ := ble_or h
    have h2 : k.format.fractionBits + 2 + x2 ≤ x1 + pF k := h2
    have eD : Nat.shiftLeft m1 (Nat.add k.format.fractionBits 2) = m1 * 2 ^ (k.format.fractionBits + 2) := Nat.shiftLeft_eq _ _
    rw [eD] at h
    generalize hD : m1 * 2 ^ (k.format.fractionBits + 2) = D at h
    have hsr : Nat.shiftRight (Nat.div D m2) k.format.fractionBits = D / m2 / 2 ^ k.format.fractionBits := Nat.shiftRight_eq_div_pow _ _
    cases h3 : Nat.beq (Nat.shiftRight (Nat.div D m2) k.format.fractionBits) 0 <;> rw [h3] at h
    case true => cases h
    rw [bc_false] at h
    have hq : 2 ^ k.format.fractionBits ≤ D / m2 := by
      rcases Nat.lt_or_ge (D / m2) (2 ^ k.format.fractionBits) with q | q
      · rw [hsr, Nat.div_eq_of_lt q] at h3; cases h3
      · exact q
    have h4 := seek_spec _ _ h
    rw [force_eq, cutK_eq, force_eq] at h4
    obtain ⟨h5, h6⟩ := ble_or h4
    have hq0 : D / m2 ≠ 0 := by
      have := Nat.pow_pos (n := k.format.fractionBits) (show 0 < 2 by omega)
      omega
    have hlq : k.format.fractionBits ≤ (D / m2).log2 := (Nat.le_log2 hq0).2 hq
    have hlo := Nat.log2_self_le hq0
    have hhi : D / m2 < 2 ^ ((D / m2).log2 + 1) := Nat.lt_log2_self
    have hDn1 : m2 * (D / m2) ≤ D := Nat.mul_div_le D m2
    have hDn2 : D < m2 * (D / m2 + 1) := by
      have h1 := Nat.div_add_mod D m2
      have h2 := Nat.mod_lt D hm2
      rw [Nat.mul_add, Nat.mul_one]
      omega
    obtain ⟨x, hxx⟩ : ∃ x, x = x1 + pF k - (k.format.fractionBits + 2 + x2) := ⟨_, rfl⟩
    have hl : (D * 2 ^ x / m2).log2 = (D / m2).log2 + x := by
      have hp : 0 < 2 ^ x := Nat.pow_pos (by omega)
      refine log2_is ((Nat.le_div_iff_mul_le hm2).2 ?_) ((Nat.div_lt_iff_lt_mul hm2).2 ?_)
      · rw [Nat.pow_add, Nat.mul_right_comm]
        refine Nat.mul_le_mul_right _ ?_
        have := Nat.mul_le_mul_left m2 hlo
        rw [Nat.mul_comm _ m2]
        omega
      · rw [Nat.add_right_comm, Nat.pow_add, Nat.mul_right_comm _ (2 ^ x)]
        refine Nat.mul_lt_mul_of_pos_right ?_ hp
        have := Nat.mul_le_mul_left m2 (show D / m2 + 1 ≤ 2 ^ ((D / m2).log2 + 1) from hhi)
        rw [Nat.mul_comm _ m2]
        omega
    have e : rndQ k.format.fractionBits (m1 * 2 ^ x1 * 2 ^ pF k) (m2 * 2 ^ x2) = cutQ D (Nat.shiftLeft m2 ((Nat.div D m2).log2 - k.format.fractionBits)) * 2 ^ (Nat.add (Nat.sub (Nat.add x1 (pF k)) (Nat.add (Nat.add k.format.fractionBits 2) x2)) ((Nat.div D m2).log2 - k.format.fractionBits)) := by
      have e1 : rndQ k.format.fractionBits (m1 * 2 ^ x1 * 2 ^ pF k) (m2 * 2 ^ x2) = rndQ k.format.fractionBits (D * 2 ^ x) m2 := by
        rw [Nat.mul_assoc, ← Nat.pow_add, ← hD, Nat.mul_assoc m1, ← Nat.pow_add, show rndQ k.format.fractionBits (m1 * 2 ^ (k.format.fractionBits + 2 + x)) m2 = rndQ k.format.fractionBits (m1 * 2 ^ (k.format.fractionBits + 2 + x)) (m2 * 2 ^ 0) by rw [Nat.pow_zero, Nat.mul_one]]
        exact rndQ_scale2 (by omega)
      rw [e1]
      unfold rndQ
      rw [hl, show (D / m2).log2 + x - k.format.fractionBits = (D / m2).log2 - k.format.fractionBits + x by omega, Nat.pow_add, ← Nat.mul_assoc m2, cutQ_scale, ← Nat.pow_add, Nat.add_comm _ x, hxx]
      show cutQ D (m2 * 2 ^ ((D / m2).log2 - _)) * _ = cutQ D (m2 <<< ((D / m2).log2 - _)) * _
      rw [Nat.shiftLeft_eq]
      rfl
    have hlt : rndQ k.format.fractionBits (m1 * 2 ^ x1 * 2 ^ pF k) (m2 * 2 ^ x2) < capF k.format := by
      rw [e]
      refine Nat.lt_of_le_of_lt ?_ hC
      rw [Nat.pow_add 2 (k.format.fractionBits + 1) Z]
      refine Nat.mul_le_mul ?_ (Nat.pow_le_pow_right (n := 2) (Nat.succ_pos 1) h5)
      have hT : D ≤ 2 ^ (k.format.fractionBits + 1) * (m2 * 2 ^ ((D / m2).log2 - k.format.fractionBits)) := by
        have := Nat.mul_le_mul_left m2 (show D / m2 + 1 ≤ 2 ^ ((D / m2).log2 + 1) from hhi)
        rw [Nat.mul_left_comm, ← Nat.pow_add, show k.format.fractionBits + 1 + ((D / m2).log2 - k.format.fractionBits) = (D / m2).log2 + 1 by omega]
        omega
      show cutQ D (m2 <<< ((D / m2).log2 - _)) ≤ _
      rw [Nat.shiftLeft_eq]
      generalize m2 * 2 ^ ((D / m2).log2 - k.format.fractionBits) = E at hT
      have hE : 0 < E ∨ E = 0 := by omega
      unfold cutQ
      rcases hE with hE | hE
      · rcases Nat.lt_or_eq_of_le hT with q | q
        · have : D / E < 2 ^ (k.format.fractionBits + 1) := (Nat.div_lt_iff_lt_mul hE).2 q
          have h3 : ∀ b : Bool, b.toNat ≤ 1 := fun b => by cases b <;> decide
          exact Nat.le_trans (Nat.add_le_add_left (h3 _) _) this
        · rw [q, Nat.mul_div_cancel _ hE, Nat.mul_mod_left]
          have e1 : decide (E < 2 * 0) = false := decide_eq_false (by omega)
          have e2 : decide (E = 2 * 0) = false := decide_eq_false (by omega)
          rw [e1, e2]
          exact Nat.le_refl _
      · subst hE
        rw [Nat.mul_zero] at hT
        obtain rfl : D = 0 := by omega
        simp
    refine ⟨_, _, fun X Y s t hx hy => ?_, h6⟩
    have := hx.quo hy hB hlt
    rw [e] at this
    exact this
  · have hz : m1 = 0 := Nat.eq_of_beq_eq_true h1
    subst hz
    refine ⟨0, 0, fun X Y s t hx hy => ?_, h⟩
    have := hx.quo hy hB (by rw [Nat.zero_mul, Nat.zero_mul, rndQ_zero]; exact cap_pos k)
    rw [Nat.zero_mul, Nat.zero_mul, rndQ_zero] at this
    rw [Nat.zero_mul]
    exact this
theorem sqrtK_rk {P Z : Nat} (hk : Fit .f64 52 P Z) (hm0 : m1 ≠ 0) (h : sqrtK P Z m1 x1 K = true) : ∃ m y, (∀ X, V .f64 X (sgnI false (m1 * 2 ^ x1)) → V .f64 (fsqrt X) (sgnI false (m * 2 ^ y))) ∧ K false m y = true := by
  obtain ⟨_, hP, hC⟩ := hk
  unfold sqrtK at h
  cases h0 : Nat.beq m1 0 <;> rw [h0] at h
  · rw [bc_false, force_eq] at h
    have hn1 : 0 < m1 := by
      rcases Nat.eq_zero_or_pos m1 with q | q
      · subst q; cases h0
      · exact q
    have ha : 0 < m1 * 2 ^ x1 := Nat.mul_pos hn1 (Nat.pow_pos (by omega))
    have hVs := fun X (hx : V .f64 X (sgnI false (m1 * 2 ^ x1))) w d g1 g2 g3 g4 => @V.sqrt X (m1 * 2 ^ x1) w d hx ha g1 g2 g3 g4
    rw [hP] at hVs
    generalize capF FloatKind.f64.format = C at *
    obtain ⟨d, hd, h1⟩ := seek4_some _ _ h
    rw [force_eq] at h1
    obtain ⟨w, h2⟩ := newt_some _ _ h1
    clear h h1
    have hd : 2 * d ≤ x1 + P := hd
    have hN : m1 * 2 ^ x1 * 2 ^ P = m1 * 2 ^ (x1 + P - 2 * d) * 2 ^ (2 * d) := by
      rw [Nat.mul_assoc, ← Nat.pow_add, Nat.mul_assoc, ← Nat.pow_add, show x1 + P - 2 * d + 2 * d = x1 + P by omega]
    rw [hN] at hVs
    have h2 : bc (Nat.ble lo53 w) (bc (Nat.ble hi53 w) false (bc (Nat.ble (Nat.mul w w) (m1 * 2 ^ (x1 + P - 2 * d))) (bc (Nat.ble (Nat.mul (Nat.succ w) (Nat.succ w)) (m1 * 2 ^ (x1 + P - 2 * d))) false
      (force (Nat.mul (Nat.succ (Nat.mul 2 w)) (Nat.succ (Nat.mul 2 w))) fun t => force (Nat.mul 4 (m1 * 2 ^ (x1 + P - 2 * d))) fun N4 => force (nc (Nat.ble N4 t) (nc (Nat.beq t N4) (Nat.add w (Nat.land w 1)) w) (Nat.succ w)) fun R => bc (Nat.ble d Z) (K false R d) false)) false)) false = true := h2
    generalize m1 * 2 ^ (x1 + P - 2 * d) = M at *
    obtain ⟨c1, h2⟩ := ble_or h2
    cases c2 : Nat.ble hi53 w <;> rw [c2] at h2
    case true => cases h2
    rw [bc_false] at h2
    obtain ⟨c3, h2⟩ := ble_or h2
    cases c4 : Nat.ble (Nat.mul (Nat.succ w) (Nat.succ w)) M <;> rw [c4] at h2
    case true => cases h2
    rw [bc_false, force_eq, force_eq, force_eq] at h2
    obtain ⟨c5, h2⟩ := ble_or h2
    have hp : 0 < 2 ^ (2 * d) := Nat.pow_pos (by omega)
    have g1 : w * w * 2 ^ (2 * d) ≤ M * 2 ^ (2 * d) := Nat.mul_le_mul_right _ c3
    have g2 : M * 2 ^ (2 * d) < (w + 1) * (w + 1) * 2 ^ (2 * d) := by
      refine Nat.mul_lt_mul_of_pos_right ?_ hp
      rcases Nat.lt_or_ge M ((w + 1) * (w + 1)) with q | q
      · exact q
      · have : Nat.ble (Nat.mul (Nat.succ w) (Nat.succ w)) M = true := Nat.ble_eq_true_of_le q
        rw [this] at c4; cases c4
    have g3 : 2 ^ 52 ≤ w := c1
    have g4 : w < 2 ^ 53 := by
      rcases Nat.lt_or_ge w (2 ^ 53) with q | q
      · exact q
      · have : Nat.ble hi53 w = true := Nat.ble_eq_true_of_le q
        rw [this] at c2; cases c2
    have eU : upS (M * 2 ^ (2 * d)) w d = upS M w 0 := by rw [upS_scale (Nat.le_refl d), Nat.sub_self]
    have eR : nc (Nat.ble (Nat.mul 4 M) (Nat.mul (Nat.succ (Nat.mul 2 w)) (Nat.succ (Nat.mul 2 w)))) (nc (Nat.beq (Nat.mul (Nat.succ (Nat.mul 2 w)) (Nat.succ (Nat.mul 2 w))) (Nat.mul 4 M)) (Nat.add w (Nat.land w 1)) w) (Nat.succ w) = w + upS M w 0 := by
      show nc (Nat.ble (4 * M) ((2 * w + 1) * (2 * w + 1))) (nc (Nat.beq ((2 * w + 1) * (2 * w + 1)) (4 * M)) (w + (w &&& 1)) w) (w + 1) = _
      rw [Nat.and_one_is_mod]
      unfold upS
      rw [Nat.mul_zero, Nat.pow_zero, Nat.mul_one]
      generalize (2 * w + 1) * (2 * w + 1) = t
      generalize 4 * M = F
      by_cases b1 : t < F
      · have : Nat.ble F t = false := by
          cases q : Nat.ble F t
          · rfl
          · have := Nat.le_of_ble_eq_true q; omega
        rw [this, decide_eq_true b1]
        rfl
      · rw [Nat.ble_eq_true_of_le (by omega), decide_eq_false b1, Bool.false_or]
        by_cases b2 : t = F
        · subst b2
          rw [show Nat.beq t t = true from by rw [Nat.beq_eq]]
          simp only [nc_true, decide_true, Bool.true_and]
          congr 1
          rcases Nat.mod_two_eq_zero_or_one w with q | q <;> rw [q] <;> rfl
        · have : Nat.beq t F = false := by
            cases q : Nat.beq t F
            · rfl
            · have := Nat.eq_of_beq_eq_true q; omega
          rw [this, decide_eq_false b2]
          simp [nc_true, nc_false]
    rw [eR] at h2
    have hlt : (w + upS (M * 2 ^ (2 * d)) w d) * 2 ^ d < C := by
      refine Nat.lt_of_le_of_lt ?_ hC
      rw [Nat.pow_add 2 (52 + 1) Z]
      refine Nat.mul_le_mul ?_ (Nat.pow_le_pow_right (n := 2) (Nat.succ_pos 1) c5)
      have h3 : ∀ b : Bool, b.toNat ≤ 1 := fun b => by cases b <;> decide
      have : upS (M * 2 ^ (2 * d)) w d ≤ 1 := h3 _
      have : (2 : Nat) ^ (52 + 1) = 2 ^ 53 := rfl
      omega
    refine ⟨_, _, fun X hx => ?_, h2⟩
    have := hVs X hx w d g1 g2 g3 g4 hlt
    rw [eU] at this
    exact this
  · exact absurd (Nat.eq_of_beq_eq_true h0) hm0
theorem root32_rk (hm0 : m1 ≠ 0) (h : rootK false m1 x1 K = true) : ∃ m y, RootIs (m1 * 2 ^ x1) (m * 2 ^ y) ∧ K false m y = true := by
  unfold rootK at h
  rw [bc_false, force_eq] at h
  have hm : Nat.shiftLeft m1 29 ≠ 0 := by
    have : Nat.shiftLeft m1 29 = m1 * 2 ^ 29 := Nat.shiftLeft_eq _ _
    rw [this]
    have := Nat.mul_pos (show 0 < m1 by omega) (Nat.pow_pos (n := 29) (show 0 < 2 by omega))
    omega
  obtain ⟨m, y, f1, h⟩ := sqrtK_rk fit64 hm h
  unfold downK at h
  cases h0 : Nat.beq m 0 <;> rw [h0] at h
  · rw [bc_false] at h
    obtain ⟨h1, h⟩ := ble_or h
    obtain ⟨n, z, q0, q1, q2⟩ := rnM_spec fit32.c h
    refine ⟨n, z, fun X hx => ?_, q2⟩
    have e : rndQ 23 (m * 2 ^ y) (2 ^ 925) = n * 2 ^ z := by
      rw [← q0]
      obtain ⟨Q, hQ⟩ : ∃ Q : Nat, Q = 925 := ⟨_, rfl⟩
      rw [← hQ] at h1 ⊢
      rw [show (2 : Nat) ^ Q = 1 * 2 ^ Q by rw [Nat.one_mul], show rndQ 23 (m * 2 ^ Nat.sub y Q) 1 = rndQ 23 (m * 2 ^ (y - Q)) (1 * 2 ^ 0) from rfl]
      exact rndQ_scale2 (by omega)
    have := (f1 _ (upK_spec hx)).cvt_down (by rw [sgnI_abs, e]; exact q1)
    rw [rndZ_sgn, e] at this
    exact this.1
  · rw [bc_true] at h
    obtain rfl : m = 0 := Nat.eq_of_beq_eq_true h0
    refine ⟨0, 0, fun X hx => ?_, h⟩
    have := (f1 _ (upK_spec hx)).cvt_down (by rw [sgnI_abs, Nat.zero_mul, rndQ_zero]; exact cap_pos _)
    rw [rndZ_sgn, Nat.zero_mul, rndQ_zero] at this
    rw [Nat.zero_mul]
    exact this.1
end
end Go.Proofs.Ytejpamlaacffaaa
