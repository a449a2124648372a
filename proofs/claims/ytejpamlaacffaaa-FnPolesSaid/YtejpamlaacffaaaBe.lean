/-
  Exact roundings, widened floats, absolute values; bounds that a NaN may break. Conditions: none.
-/
import Derived.Test.YtejpamlaacffaaaBd
import Derived.Test.YtejpamlaacffaaaFn
namespace Go.Proofs.Ytejpamlaacffaaa
open Go Go.RowKit

/-- A number of few digits is not rounded. -/
theorem nearest_exact {k : FloatKind} {neg : Bool} {mag : Nat} {place : Int} (hm : mag < 2 ^ (k.format.fractionBits + 1)) (hp : k.format.leastPlace ≤ place) (hI : ((place - k.format.leastPlace).toNat + 2) * k.format.binade ≤ k.format.infRung) : ∃ m i, k.format.read (k.format.nearest neg mag place) = .number neg m i ∧ k.format.leastPlace ≤ i ∧ m * 2 ^ (i - k.format.leastPlace).toNat = mag * 2 ^ (place - k.format.leastPlace).toNat := by
  have hb0 : 0 < k.format.binade := Nat.pow_pos (by omega)
  have hb : k.format.binade = 2 ^ k.format.fractionBits := rfl
  -- the rung and what it is worth
  have hr : ∃ r, k.format.nearest neg mag place = k.format.word neg r ∧ r < k.format.infRung ∧ rvq k.format.binade (r / k.format.binade) (r % k.format.binade) = mag * 2 ^ (place - k.format.leastPlace).toNat := by
    unfold Ieee.Format.nearest
    by_cases h0 : mag = 0
    · rw [if_pos h0]
      refine ⟨0, rfl, Nat.lt_of_lt_of_le (Nat.mul_pos (by omega) hb0) hI, ?_⟩
      rw [h0, Nat.zero_mul, Nat.zero_div, Nat.zero_mod]
      rfl
    rw [if_neg h0]
    simp only
    generalize hL : mag.log2 = L
    have hl1 : 2 ^ L ≤ mag := by rw [← hL]; exact Nat.log2_self_le h0
    have hl2 : mag < 2 ^ (L + 1) := by rw [← hL]; exact Nat.lt_log2_self
    have hLf : L ≤ k.format.fractionBits := by
      have : 2 ^ L < 2 ^ (k.format.fractionBits + 1) := Nat.lt_of_le_of_lt hl1 hm
      have := (Nat.pow_lt_pow_iff_right (by omega : 1 < 2)).1 this
      omega
    generalize hlast : max (place + (L : Int) - (k.format.fractionBits : Int)) k.format.leastPlace = last
    have hle : last ≤ place := by rw [← hlast]; omega
    have hge : k.format.leastPlace ≤ last := by rw [← hlast]; omega
    rw [show (last - place).toNat = 0 by omega, cut_zero, Nat.shiftLeft_eq]
    have hkept : mag * 2 ^ (place - last).toNat < 2 * k.format.binade := by
      rw [hb]
      refine Nat.lt_of_lt_of_le (Nat.mul_lt_mul_of_pos_right hl2 (Nat.pow_pos (by omega))) ?_
      rw [← Nat.pow_add, show 2 * 2 ^ k.format.fractionBits = 2 ^ (k.format.fractionBits + 1) by rw [Nat.pow_succ, Nat.mul_comm]]
      exact Nat.pow_le_pow_right (by omega) (by omega)
    have hlt : (last - k.format.leastPlace).toNat * k.format.binade + mag * 2 ^ (place - last).toNat < k.format.infRung := by
      refine Nat.lt_of_lt_of_le (Nat.add_lt_add_left hkept _) (Nat.le_trans ?_ hI)
      rw [← Nat.add_mul]
      exact Nat.mul_le_mul_right _ (by omega)
    rw [Nat.min_eq_left (Nat.le_of_lt hlt)]
    refine ⟨_, rfl, hlt, ?_⟩
    by_cases hn : last = k.format.leastPlace
    · rw [hn, Int.sub_self, show (0 : Int).toNat = 0 from rfl, Nat.zero_mul, Nat.zero_add]
      rw [hn] at hkept
      generalize mag * 2 ^ (place - k.format.leastPlace).toNat = z at *
      by_cases hz : z < k.format.binade
      · rw [Nat.div_eq_of_lt hz, Nat.mod_eq_of_lt hz]
        rfl
      · have e1 : z / k.format.binade = 1 := by
          rw [Nat.div_eq_iff hb0]
          omega
        have e2 := Nat.div_add_mod z k.format.binade
        rw [e1, Nat.mul_one] at e2
        rw [e1]
        unfold rvq
        rw [if_neg (by omega), Nat.sub_self, Nat.pow_zero, Nat.mul_one]
        exact e2
    · have hl : last = place + (L : Int) - (k.format.fractionBits : Int) := by omega
      have hlow : k.format.binade ≤ mag * 2 ^ (place - last).toNat := by
        rw [hb]
        refine Nat.le_trans ?_ (Nat.mul_le_mul_right _ hl1)
        rw [← Nat.pow_add]
        exact Nat.pow_le_pow_right (by omega) (by omega)
      have hpw : mag * 2 ^ (place - k.format.leastPlace).toNat = mag * 2 ^ (place - last).toNat * 2 ^ (last - k.format.leastPlace).toNat := by
        rw [Nat.mul_assoc, ← Nat.pow_add, show (place - last).toNat + (last - k.format.leastPlace).toNat = (place - k.format.leastPlace).toNat by omega]
      rw [hpw]
      generalize mag * 2 ^ (place - last).toNat = z at *
      generalize (last - k.format.leastPlace).toNat = q at *
      have e0 : q * k.format.binade + z = (z - k.format.binade) + k.format.binade * (q + 1) := by
        rw [Nat.mul_comm k.format.binade, Nat.add_mul, Nat.one_mul]
        omega
      have e1 : (q * k.format.binade + z) / k.format.binade = q + 1 := by
        rw [e0, Nat.add_mul_div_left _ _ hb0, Nat.div_eq_of_lt (by omega), Nat.zero_add]
      have e2 : (q * k.format.binade + z) % k.format.binade = z - k.format.binade := by
        rw [e0, Nat.add_mul_mod_self_left, Nat.mod_eq_of_lt (by omega)]
      rw [e1, e2]
      unfold rvq
      rw [if_neg (by omega), Nat.add_sub_cancel]
      congr 1
      omega
  obtain ⟨r, h1, h2, h3⟩ := hr
  rw [h1]
  have hw := word_mod k.format neg (rung_lt_sign k.format (Nat.le_of_lt h2))
  rcases read_parts k.format (k.format.word neg r) (exp_pos k) (read_word_num k.format neg (Nat.le_of_lt h2)) with ⟨_, g1, m, i, g2⟩ | ⟨g1, _⟩
  · have hf := read_form k.format _ g2
    have hneg : negW k.format (k.format.word neg r) = neg := by
      have hq := rung_lt_sign k.format (Nat.le_of_lt h2)
      have hs : 0 < k.format.signWeight := by omega
      unfold negW Ieee.Format.word
      cases neg
      · simp [Nat.div_eq_of_lt hq]
      · simp [Nat.add_div_left _ hs, Nat.div_eq_of_lt hq]
    rw [hneg] at g1 g2
    refine ⟨m, i, g2, hf.1, ?_⟩
    rw [hw, g2] at g1
    have g3 : (Ieee.signed neg m (i - k.format.leastPlace).toNat).natAbs = (sgnI neg (rvq k.format.binade (r / k.format.binade) (r % k.format.binade))).natAbs := congrArg Int.natAbs g1
    rw [signed_abs, sgnI_abs] at g3
    rw [g3, h3]
  · rw [hw] at g1
    omega
/-- A widened number. -/
theorem cvt_exact {X : Nat} {s : Bool} {m : Nat} {i : Int} (h : FloatKind.f32.format.read X = .number s m i) : ∃ n j, FloatKind.f64.format.read (fcvt .f32 .f64 X) = .number s n j ∧ -1074 ≤ j ∧ n * 2 ^ (j - -1074).toNat = m * 2 ^ (i - -1074).toNat := by
  obtain ⟨h1, h2, h3⟩ := read32 X h
  have lp : FloatKind.f64.format.leastPlace = -1074 := by decide
  have nx : isNan .f32 X = false := by unfold isNan; rw [h]; rfl
  obtain ⟨n, j, e1, e2, e3⟩ := nearest_exact (k := .f64) (neg := s) (mag := m) (place := i) (Nat.lt_trans h1 (by decide)) (by rw [lp]; omega) (by
    rw [lp]
    have : (i - -1074).toNat + 2 ≤ 1180 := by omega
    exact Nat.le_trans (Nat.mul_le_mul_right _ this) (by decide))
  rw [lp] at e2 e3
  refine ⟨n, j, ?_, e2, e3⟩
  have hv : floatToFloatBits .f32 X .f64 = some (FloatKind.f64.format.nearest s m i) := by
    have hd : FloatKind.f32.decode X = .number s m i := h
    unfold floatToFloatBits
    rw [if_neg (by decide), hd]
    have e4 : FloatKind.f64.decode (FloatKind.f64.encode (.number s m i)) = .number s n j := e1
    simp only [e4]
    rfl
  have : fcvt .f32 .f64 X = FloatKind.f64.format.nearest s m i := by unfold fcvt; rw [hv]; rfl
  rw [this]
  exact e1
/-- Finite 64-bit floats, as the reference tells them. -/
def fin64 (X : Nat) : Bool := cmpB .eql .f64 (fop .sub .f64 X X) 0
/- Bounds that a NaN may break. -/
/-- The absolute value. -/
def absF (X : Nat) : Nat := X % 9223372036854775808
def leB (k : FloatKind) (E X : Nat) : Bool := match k.format.read X with
  | .number _ m i => Nat.ble (m * 2 ^ (i - k.format.leastPlace).toNat) (2 ^ E) && decide (k.format.leastPlace ≤ i)
  | _ => false
end Go.Proofs.Ytejpamlaacffaaa
