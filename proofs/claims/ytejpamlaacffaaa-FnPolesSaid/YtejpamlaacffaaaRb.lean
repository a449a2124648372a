/-
  Finite numbers with their worth, and what each operation makes of them. Conditions: none.
-/
import Derived.Test.YtejpamlaacffaaaRa
namespace Go.Proofs.Ytejpamlaacffaaa
open Go Go.RowKit

/-- X is finite and worth z, counted from the least place. -/
structure V (k : FloatKind) (X : Nat) (z : Int) : Prop where
  out : ∃ s m i, k.format.read X = .number s m i ∧ k.format.leastPlace ≤ i ∧ z = sgnI s (m * 2 ^ (i - k.format.leastPlace).toNat)
theorem signed_sgn (s : Bool) (m a : Nat) : Ieee.signed s m a = sgnI s (m * 2 ^ a) := by
  unfold Ieee.signed sgnI
  rw [Nat.shiftLeft_eq]
theorem V.num {k : FloatKind} {X : Nat} {z : Int} (h : V k X z) : isNan k X = false := by
  obtain ⟨s, m, i, e, _⟩ := h.out
  unfold isNan
  rw [e]
  rfl
theorem V.rk {k : FloatKind} {X : Nat} {z : Int} (h : V k X z) : rk k X = z := by
  obtain ⟨s, m, i, e, _, rfl⟩ := h.out
  unfold Go.Proofs.Ytejpamlaacffaaa.rk rkD
  rw [e]
  exact signed_sgn _ _ _
theorem V.cap {k : FloatKind} {X : Nat} {z : Int} (h : V k X z) : V k X z := h
/-- z / B, rounded. -/
def rndZ (fb : Nat) (z : Int) (B : Nat) : Int := sgnI (decide (z < 0)) (rndQ fb z.natAbs B)
theorem sgnI_zero (s : Bool) : sgnI s 0 = 0 := by cases s <;> rfl
theorem rndZ_sgn (fb : Nat) (s : Bool) (w B : Nat) : rndZ fb (sgnI s w) B = sgnI s (rndQ fb w B) := by
  unfold rndZ
  rw [sgnI_abs]
  by_cases h : w = 0
  · subst h
    rw [rndQ_zero, sgnI_zero, sgnI_zero]
  · congr 1
    unfold sgnI
    cases s
    · simp
    · simp; omega
theorem sgnI_mul (s t : Bool) (a b : Nat) : sgnI s a * sgnI t b = sgnI (Bool.xor s t) (a * b) := by
  unfold sgnI
  cases s <;> cases t <;> simp [Int.mul_neg, Int.neg_mul]
theorem sgnI_sign {s t : Bool} {A : Nat} (h : sgnI s A = sgnI t A) (h0 : A ≠ 0) : s = t := by
  unfold sgnI at h
  cases s <;> cases t <;> first | rfl | (exfalso; simp only [if_true, if_false, Bool.false_eq_true] at h; omega)
theorem V.of_nearest {k : FloatKind} {neg : Bool} {mag : Nat} {place : Int} {R : Nat} (e : rndQ k.format.fractionBits (mag * 2 ^ (place - k.format.leastPlace).toNat) (2 ^ (k.format.leastPlace - place).toNat) = R) (hc : R < capF k.format) : V k (k.format.nearest neg mag place) (sgnI neg R) := by
  subst e
  obtain ⟨m, i, h1, h2, h3⟩ := nearest_val (neg := neg) hc
  exact ⟨⟨neg, m, i, h1, h2, by rw [h3]⟩⟩
theorem sum_V {k : FloatKind} {d1 d2 : Ieee.Datum} {a b : Int} (h1 : ∃ s m i, d1 = .number s m i ∧ k.format.leastPlace ≤ i ∧ a = sgnI s (m * 2 ^ (i - k.format.leastPlace).toNat)) (h2 : ∃ s m i, d2 = .number s m i ∧ k.format.leastPlace ≤ i ∧ b = sgnI s (m * 2 ^ (i - k.format.leastPlace).toNat)) (hc : rndQ k.format.fractionBits (a + b).natAbs 1 < capF k.format) : V k (((d1.sum d2).map k.format.write).getD (nanOf k)) (rndZ k.format.fractionBits (a + b) 1) := by
  obtain ⟨s, m, i, rfl, hi, ea⟩ := h1
  obtain ⟨t, n, j, rfl, hj, eb⟩ := h2
  have e0 : (k.format.leastPlace - min i j).toNat = 0 := by omega
  have e1 : (i - k.format.leastPlace).toNat = (i - min i j).toNat + (min i j - k.format.leastPlace).toNat := by omega
  have e2 : (j - k.format.leastPlace).toNat = (j - min i j).toNat + (min i j - k.format.leastPlace).toNat := by omega
  have hs : a + b = (Ieee.signed s m (i - min i j).toNat + Ieee.signed t n (j - min i j).toNat) * ((2 ^ (min i j - k.format.leastPlace).toNat : Nat) : Int) := by
    rw [Int.add_mul, ← signed_scale, ← signed_scale, ← e1, ← e2, signed_sgn, signed_sgn, ea, eb]
  show V k (k.format.nearest (if Ieee.signed s m (i - min i j).toNat + Ieee.signed t n (j - min i j).toNat = 0 then s && t else decide (Ieee.signed s m (i - min i j).toNat + Ieee.signed t n (j - min i j).toNat < 0)) (Ieee.signed s m (i - min i j).toNat + Ieee.signed t n (j - min i j).toNat).natAbs (min i j)) _
  generalize Ieee.signed s m (i - min i j).toNat + Ieee.signed t n (j - min i j).toNat = T at *
  have hp : 0 < 2 ^ (min i j - k.format.leastPlace).toNat := Nat.pow_pos (by omega)
  have habs : (a + b).natAbs = T.natAbs * 2 ^ (min i j - k.format.leastPlace).toNat := by
    rw [hs, Int.natAbs_mul, Int.natAbs_natCast]
  have hv := V.of_nearest (k := k) (neg := if T = 0 then s && t else decide (T < 0)) (mag := T.natAbs) (place := min i j) (R := rndQ k.format.fractionBits (a + b).natAbs 1) (by rw [e0, habs]) hc
  have : sgnI (if T = 0 then s && t else decide (T < 0)) (rndQ k.format.fractionBits (a + b).natAbs 1) = rndZ k.format.fractionBits (a + b) 1 := by
    by_cases h : T = 0
    · subst h
      rw [hs]
      unfold rndZ
      simp [rndQ_zero, sgnI_zero]
    · rw [if_neg h]
      unfold rndZ
      congr 1
      rw [decide_eq_decide, hs]
      have hp' : (0 : Int) < ((2 ^ (min i j - k.format.leastPlace).toNat : Nat) : Int) := by omega
      constructor
      · intro h
        exact Int.mul_neg_of_neg_of_pos h hp'
      · intro h
        rcases Int.lt_or_le T 0 with h' | h'
        · exact h'
        · have := Int.mul_nonneg h' (Int.le_of_lt hp')
          omega
  rw [← this]
  exact hv
theorem V.add {k : FloatKind} {X Y : Nat} {a b : Int} (hx : V k X a) (hy : V k Y b) (hc : rndQ k.format.fractionBits (a + b).natAbs 1 < capF k.format) : V k (fop .add k X Y) (rndZ k.format.fractionBits (a + b) 1) := sum_V hx.out hy.out hc
theorem V.sub {k : FloatKind} {X Y : Nat} {a b : Int} (hx : V k X a) (hy : V k Y b) (hc : rndQ k.format.fractionBits (a - b).natAbs 1 < capF k.format) : V k (fop .sub k X Y) (rndZ k.format.fractionBits (a - b) 1) := by
  rw [Int.sub_eq_add_neg] at hc ⊢
  refine sum_V hx.out ?_ hc
  obtain ⟨t, n, j, e, hj, eb⟩ := hy.out
  refine ⟨!t, n, j, by rw [e]; rfl, hj, ?_⟩
  rw [eb]
  unfold sgnI
  cases t <;> simp
/-- What the format counts from. -/
def pF (k : FloatKind) : Nat := (-k.format.leastPlace).toNat
theorem V.mul {k : FloatKind} {X Y : Nat} {a b : Int} (hx : V k X a) (hy : V k Y b) (hc : rndQ k.format.fractionBits (a * b).natAbs (2 ^ pF k) < capF k.format) : V k (fop .mul k X Y) (rndZ k.format.fractionBits (a * b) (2 ^ pF k)) := by
  obtain ⟨s, m, i, e1, hi, ea⟩ := hx.out
  obtain ⟨t, n, j, e2, hj, eb⟩ := hy.out
  have hlp := lp_neg k
  have hab : a * b = sgnI (Bool.xor s t) (m * n * 2 ^ ((i - k.format.leastPlace).toNat + (j - k.format.leastPlace).toNat)) := by
    rw [ea, eb, sgnI_mul, Nat.pow_add, Nat.mul_mul_mul_comm]
  show V k ((((k.format.read X).product (k.format.read Y)).map k.format.write).getD (nanOf k)) _
  rw [e1, e2]
  show V k (k.format.nearest (Bool.xor s t) (m * n) (i + j)) _
  rw [hab, sgnI_abs] at hc
  rw [hab, rndZ_sgn]
  refine V.of_nearest ?_ hc
  rw [show (2 : Nat) ^ pF k = 1 * 2 ^ pF k by rw [Nat.one_mul], show (2 : Nat) ^ (k.format.leastPlace - (i + j)).toNat = 1 * 2 ^ (k.format.leastPlace - (i + j)).toNat by rw [Nat.one_mul]]
  refine rndQ_scale2 ?_
  unfold pF
  omega
/-- The core of a quotient with a digit for what is left over. -/
theorem cutQ_rest {D n T : Nat} (hn : 0 < n) (hT : 2 ≤ T) : cutQ (2 * (D / n) + (D % n != 0).toNat) (2 ^ T) = cutQ (2 * D) (n * 2 ^ T) := by
  obtain ⟨U, rfl⟩ : ∃ U, T = U + 2 := ⟨T - 2, by omega⟩
  generalize hs : (D % n != 0).toNat = s
  have hs1 : s = 0 ∧ D % n = 0 ∨ s = 1 ∧ 0 < D % n := by
    rw [← hs]
    by_cases h : D % n = 0
    · left; rw [h]; exact ⟨rfl, rfl⟩
    · right
      refine ⟨?_, by omega⟩
      have : (D % n != 0) = true := by rw [bne_iff_ne]; exact h
      rw [this]; rfl
  have hD := Nat.div_add_mod D n
  have hr := Nat.mod_lt D hn
  generalize D / n = q at *
  generalize D % n = ρ at *
  have hW : 0 < 2 ^ U := Nat.pow_pos (by omega)
  have e4 : 2 ^ (U + 2) = 2 * (2 * 2 ^ U) := by rw [Nat.pow_succ, Nat.pow_succ]; omega
  rw [e4]
  generalize 2 ^ U = W at *
  -- q = v * 2W + u
  have hq := Nat.div_add_mod q (2 * W)
  have hu := Nat.mod_lt q (show 0 < 2 * W by omega)
  generalize q / (2 * W) = v at *
  generalize q % (2 * W) = u at *
  have d1 : (2 * q + s) / (2 * (2 * W)) = v := by
    rw [Nat.div_eq_iff (by omega)]
    have : v * (2 * (2 * W)) = 2 * (2 * W * v) := by rw [Nat.mul_comm v, Nat.mul_assoc]
    rw [this]
    omega
  have m1 : (2 * q + s) % (2 * (2 * W)) = 2 * u + s := by
    have h := Nat.div_add_mod (2 * q + s) (2 * (2 * W))
    rw [d1, Nat.mul_assoc] at h
    omega
  have hnv : D = n * (2 * W) * v + (n * u + ρ) := by
    rw [← hD, ← hq, Nat.mul_add, Nat.add_assoc, Nat.mul_assoc n (2 * W) v]
  have hnu : n * u + ρ < n * (2 * W) := by
    have : n * (u + 1) ≤ n * (2 * W) := Nat.mul_le_mul_left _ hu
    rw [Nat.mul_add, Nat.mul_one] at this
    omega
  have en : n * (2 * (2 * W)) = 2 * (n * (2 * W)) := Nat.mul_left_comm _ _ _
  rw [en]
  have d2 : 2 * D / (2 * (n * (2 * W))) = v := by
    rw [Nat.mul_div_mul_left _ _ (by omega), hnv, Nat.mul_add_div (Nat.mul_pos hn (by omega)), Nat.div_eq_of_lt hnu, Nat.add_zero]
  have m2 : 2 * D % (2 * (n * (2 * W))) = 2 * (n * u + ρ) := by
    rw [Nat.mul_mod_mul_left, hnv, Nat.mul_add_mod, Nat.mod_eq_of_lt hnu]
  unfold cutQ
  rw [d1, m1, d2, m2]
  have en2 : n * (2 * W) = 2 * (n * W) := Nat.mul_left_comm _ _ _
  rw [en2]
  have c1 : (2 * (2 * W) < 2 * (2 * u + s)) ↔ (2 * (2 * (n * W)) < 2 * (2 * (n * u + ρ))) := by
    rcases Nat.lt_trichotomy W u with h | h | h
    · have : n * (W + 1) ≤ n * u := Nat.mul_le_mul_left _ h
      rw [Nat.mul_add, Nat.mul_one] at this
      omega
    · subst h; omega
    · have : n * (u + 1) ≤ n * W := Nat.mul_le_mul_left _ h
      rw [Nat.mul_add, Nat.mul_one] at this
      omega
  have c2 : (2 * (2 * W) = 2 * (2 * u + s)) ↔ (2 * (2 * (n * W)) = 2 * (2 * (n * u + ρ))) := by
    rcases Nat.lt_trichotomy W u with h | h | h
    · have : n * (W + 1) ≤ n * u := Nat.mul_le_mul_left _ h
      rw [Nat.mul_add, Nat.mul_one] at this
      omega
    · subst h; omega
    · have : n * (u + 1) ≤ n * W := Nat.mul_le_mul_left _ h
      rw [Nat.mul_add, Nat.mul_one] at this
      omega
  rw [decide_eq_decide.2 c1, decide_eq_decide.2 c2]
theorem log2_twice {q s : Nat} (hq : 0 < q) (hs : s ≤ 1) : (2 * q + s).log2 = q.log2 + 1 := by
  have h1 := Nat.log2_self_le (show q ≠ 0 by omega)
  have h2 : q < 2 ^ (q.log2 + 1) := Nat.lt_log2_self
  refine log2_is ?_ ?_
  · rw [Nat.pow_succ]; omega
  · rw [Nat.pow_succ]; omega
theorem rndQ_rest {fb D n α τ : Nat} (hn : 0 < n) (hq : 2 ^ (fb + 1) ≤ D / n) (h0 : α = 0 ∨ τ = 0) : rndQ fb ((2 * (D / n) + (D % n != 0).toNat) * 2 ^ α) (2 ^ τ) = rndQ fb (2 * D * 2 ^ α) (n * 2 ^ τ) := by
  have hs1 : (D % n != 0).toNat ≤ 1 := by cases (D % n != 0) <;> decide
  have hq0 : 0 < D / n := Nat.lt_of_lt_of_le (Nat.pow_pos (by omega)) hq
  have hlq : fb + 1 ≤ (D / n).log2 := (Nat.le_log2 (by omega)).2 hq
  have core := fun T (hT : 2 ≤ T) => cutQ_rest (D := D) (n := n) (T := T) hn hT
  have hlo := Nat.log2_self_le (show D / n ≠ 0 by omega)
  have hhi : D / n < 2 ^ ((D / n).log2 + 1) := Nat.lt_log2_self
  have hDn1 : n * (D / n) ≤ D := Nat.mul_div_le D n
  have hDn2 : D < n * (D / n + 1) := by
    have h1 := Nat.div_add_mod D n
    have h2 := Nat.mod_lt D hn
    rw [Nat.mul_add, Nat.mul_one]
    omega
  unfold rndQ
  rcases Nat.eq_zero_or_pos τ with ht | ht
  · subst ht
    rw [Nat.pow_zero, Nat.mul_one, Nat.one_mul, Nat.div_one, log2_mul _ _ (by omega), log2_twice hq0 hs1]
    have hl : (2 * D * 2 ^ α / n).log2 = (D / n).log2 + 1 + α := by
      have hp : 0 < 2 ^ α := Nat.pow_pos (by omega)
      refine log2_is ((Nat.le_div_iff_mul_le hn).2 ?_) ((Nat.div_lt_iff_lt_mul hn).2 ?_)
      · rw [Nat.pow_add, Nat.pow_succ, Nat.mul_right_comm]
        refine Nat.mul_le_mul_right _ ?_
        have := Nat.mul_le_mul_left n hlo
        rw [Nat.mul_right_comm, Nat.mul_comm _ n]
        omega
      · rw [Nat.add_right_comm, Nat.pow_add, Nat.mul_right_comm _ (2 ^ α)]
        refine Nat.mul_lt_mul_of_pos_right ?_ hp
        have := Nat.mul_le_mul_left n (show D / n + 1 ≤ 2 ^ ((D / n).log2 + 1) from hhi)
        rw [Nat.pow_succ 2 ((D / n).log2 + 1), Nat.mul_right_comm, Nat.mul_comm _ n]
        omega
    rw [hl]
    obtain ⟨T, hT⟩ : ∃ T, (D / n).log2 + 1 + α - fb = T + α := ⟨(D / n).log2 + 1 - fb, by omega⟩
    rw [hT, Nat.pow_add, cutQ_scale, ← Nat.mul_assoc n, cutQ_scale, core T (by omega)]
  · obtain rfl : α = 0 := by omega
    rw [Nat.pow_zero, Nat.mul_one, Nat.mul_one]
    have hZ : (2 * (D / n) + (D % n != 0).toNat) / 2 ^ τ = 2 * D / (n * 2 ^ τ) := by
      obtain ⟨x, rfl⟩ : ∃ x, τ = x + 1 := ⟨τ - 1, by omega⟩
      have e1 : (2 : Nat) ^ (x + 1) = 2 * 2 ^ x := by rw [Nat.pow_succ, Nat.mul_comm]
      rw [e1, ← Nat.div_div_eq_div_mul, show n * (2 * 2 ^ x) = 2 * (n * 2 ^ x) from Nat.mul_left_comm _ _ _, Nat.mul_div_mul_left _ _ (by omega), ← Nat.div_div_eq_div_mul]
      congr 1
      omega
    rw [← hZ, log2_div, log2_twice hq0 hs1]
    generalize hd : (D / n).log2 + 1 - τ - fb = d
    rw [← Nat.pow_add, Nat.mul_assoc n, ← Nat.pow_add, core (τ + d) (by omega)]
theorem V.quo {k : FloatKind} {X Y : Nat} {s t : Bool} {A B : Nat} (hx : V k X (sgnI s A)) (hy : V k Y (sgnI t B)) (hB : 0 < B) (hc : rndQ k.format.fractionBits (A * 2 ^ pF k) B < capF k.format) : V k (fop .quo k X Y) (sgnI (Bool.xor s t) (rndQ k.format.fractionBits (A * 2 ^ pF k) B)) := by
  obtain ⟨s', m, i, e1, hi, ea⟩ := hx.out
  obtain ⟨t', n, j, e2, hj, eb⟩ := hy.out
  have hlp := lp_neg k
  have eA : A = m * 2 ^ (i - k.format.leastPlace).toNat := by
    have := congrArg Int.natAbs ea
    rwa [sgnI_abs, sgnI_abs] at this
  have eB : B = n * 2 ^ (j - k.format.leastPlace).toNat := by
    have := congrArg Int.natAbs eb
    rwa [sgnI_abs, sgnI_abs] at this
  have hn0 : n ≠ 0 := fun h => by rw [h, Nat.zero_mul] at eB; omega
  have hn : 0 < n := by omega
  have ht : t = t' := by
    rw [← eB] at eb
    exact sgnI_sign eb (by omega)
  subst ht
  have hv : ∀ R, rndQ k.format.fractionBits (A * 2 ^ pF k) B = R → sgnI (Bool.xor s t) R = sgnI (Bool.xor s' t) R := fun R hR => by
    by_cases h0 : A = 0
    · rw [h0, Nat.zero_mul, rndQ_zero] at hR
      rw [← hR, sgnI_zero, sgnI_zero]
    · have : s = s' := by
        rw [← eA] at ea
        exact sgnI_sign ea h0
      rw [this]
  rw [hv _ rfl]
  show V k ((((k.format.read X).quotient (k.format.fractionBits + 2) (k.format.read Y)).map k.format.write).getD (nanOf k)) _
  rw [e1, e2]
  have hq : (Ieee.Datum.number s' m i).quotient (k.format.fractionBits + 2) (.number t n j) = some (.number (Bool.xor s' t) (2 * (m <<< (k.format.fractionBits + 2 + n.log2 - m.log2) / n) + (m <<< (k.format.fractionBits + 2 + n.log2 - m.log2) % n != 0).toNat) (i - j - ((k.format.fractionBits + 2 + n.log2 - m.log2 : Nat) : Int) - 1)) := by
    simp only [Ieee.Datum.quotient]
    rw [if_neg hn0]
  rw [hq]
  refine V.of_nearest ?_ hc
  subst eA
  subst eB
  clear hv hq ea eb hx hy
  unfold pF at *
  generalize k.format.leastPlace = lp at *
  generalize k.format.fractionBits = fb at *
  generalize hmo : fb + 2 + n.log2 - m.log2 = more
  rw [Nat.shiftLeft_eq]
  by_cases hm : m = 0
  · subst hm
    simp [rndQ_zero]
  have hlm := Nat.log2_self_le hm
  have hln : n < 2 ^ (n.log2 + 1) := Nat.lt_log2_self
  have hDq : 2 ^ (fb + 1) ≤ m * 2 ^ more / n := by
    refine (Nat.le_div_iff_mul_le hn).2 ?_
    refine Nat.le_trans (Nat.mul_le_mul_left _ (Nat.le_of_lt hln)) ?_
    refine Nat.le_trans ?_ (Nat.mul_le_mul_right _ hlm)
    rw [← Nat.pow_add, ← Nat.pow_add]
    exact Nat.pow_le_pow_right (by omega) (by omega)
  rw [rndQ_rest hn hDq (by omega)]
  rw [show 2 * (m * 2 ^ more) * 2 ^ (i - j - (more : Int) - 1 - lp).toNat = m * 2 ^ (more + 1 + (i - j - (more : Int) - 1 - lp).toNat) by rw [Nat.pow_add, Nat.pow_succ, Nat.mul_comm 2 (m * 2 ^ more)]; simp only [Nat.mul_assoc]]
  rw [Nat.mul_assoc m, ← Nat.pow_add]
  refine rndQ_scale2 ?_
  omega
theorem V.cvt_up {X : Nat} {z : Int} (h : V .f32 X z) : V .f64 (fcvt .f32 .f64 X) (z * (2 ^ 925 : Nat)) := by
  obtain ⟨s, m, i, e, hi, rfl⟩ := h.out
  obtain ⟨n, j, h1, h2, h3⟩ := cvt_exact e
  refine ⟨⟨s, n, j, h1, h2, ?_⟩⟩
  have l64 : FloatKind.f64.format.leastPlace = -1074 := by decide
  have l32 : FloatKind.f32.format.leastPlace = -149 := by decide
  rw [l32] at hi ⊢
  rw [l64, h3]
  obtain ⟨M, hM⟩ : ∃ M : Nat, M = 925 := ⟨_, rfl⟩
  rw [← hM, show (i - -1074).toNat = (i - -149).toNat + M by omega, Nat.pow_add, ← Nat.mul_assoc]
  unfold sgnI
  cases s
  · simp
  · simp [Int.neg_mul]
theorem V.cvt_down {X : Nat} {z : Int} (h : V .f64 X z) (hc : rndQ 23 z.natAbs (2 ^ 925) < capF FloatKind.f32.format) : V .f32 (fcvt .f64 .f32 X) (rndZ 23 z (2 ^ 925)) ∧ fits .f64 .f32 X := by
  obtain ⟨s, m, i, e, hi, rfl⟩ := h.out
  have l64 : FloatKind.f64.format.leastPlace = -1074 := by decide
  have l32 : FloatKind.f32.format.leastPlace = -149 := by decide
  rw [l64] at hi
  rw [l64, sgnI_abs] at hc
  rw [l64, rndZ_sgn]
  have hv : V .f32 (FloatKind.f32.format.nearest s m i) (sgnI s (rndQ 23 (m * 2 ^ (i - -1074).toNat) (2 ^ 925))) := by
    refine V.of_nearest ?_ hc
    rw [l32]
    obtain ⟨M, hM⟩ : ∃ M : Nat, M = 925 := ⟨_, rfl⟩
    rw [← hM, show (2 : Nat) ^ M = 1 * 2 ^ M by rw [Nat.one_mul], show (2 : Nat) ^ (-149 - i).toNat = 1 * 2 ^ (-149 - i).toNat by rw [Nat.one_mul]]
    show rndQ 23 _ _ = _
    refine rndQ_scale2 ?_
    omega
  have e1 : FloatKind.f64.decode X = .number s m i := e
  obtain ⟨s2, m2, i2, e2, _⟩ := hv.out
  have e3 : FloatKind.f32.decode (FloatKind.f32.encode (.number s m i)) = .number s2 m2 i2 := e2
  have hb : floatToFloatBits .f64 X .f32 = some (FloatKind.f32.format.nearest s m i) := by
    unfold floatToFloatBits
    rw [if_neg (by decide), e1]
    simp only [e3]
    rfl
  refine ⟨?_, fun _ => by rw [hb]; rfl⟩
  unfold fcvt
  rw [hb]
  exact hv
theorem V.ofInt {k : FloatKind} {n : Int} (hc : rndQ k.format.fractionBits (n.natAbs * 2 ^ pF k) 1 < capF k.format) : V k (floatOfInt k n) (sgnI (decide (n < 0)) (rndQ k.format.fractionBits (n.natAbs * 2 ^ pF k) 1)) := by
  have hlp := lp_neg k
  refine V.of_nearest (k := k) (neg := decide (n < 0)) (mag := n.natAbs) (place := 0) ?_ hc
  unfold pF
  rw [show (k.format.leastPlace - 0).toNat = 0 by omega, show (0 - k.format.leastPlace) = -k.format.leastPlace by omega]
end Go.Proofs.Ytejpamlaacffaaa
