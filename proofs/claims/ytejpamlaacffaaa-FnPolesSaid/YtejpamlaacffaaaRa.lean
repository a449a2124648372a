/-
  What a rounded number is worth, counted from the format's least place. Conditions: none.
-/
import Derived.Test.YtejpamlaacffaaaBe
namespace Go.Proofs.Ytejpamlaacffaaa
open Go Go.RowKit

/-- A / B as a whole number, to the nearest, to the even one between two. -/
def cutQ (A B : Nat) : Nat := A / B + (decide (B < 2 * (A % B)) || (decide (B = 2 * (A % B)) && decide (A / B % 2 = 1))).toNat
/-- A / B to fb + 1 digits, and to whole numbers. -/
def rndQ (fb A B : Nat) : Nat := cutQ A (B * 2 ^ ((A / B).log2 - fb)) * 2 ^ ((A / B).log2 - fb)
theorem cutQ_zero (B : Nat) : cutQ 0 B = 0 := by
  unfold cutQ
  simp
theorem rndQ_zero (fb B : Nat) : rndQ fb 0 B = 0 := by
  unfold rndQ
  rw [cutQ_zero, Nat.zero_mul]
theorem cut_cutQ (neg : Bool) (n d : Nat) : Ieee.Toward.even.cut neg n d = cutQ n (2 ^ d) := by
  unfold Ieee.Toward.cut cutQ
  simp only [Nat.shiftLeft_eq, Nat.one_mul]
  have hb : ∀ a b : Nat, (a == b) = decide (a = b) := fun a b => rfl
  by_cases hd : d ≤ n.log2 + 2
  · rw [Nat.min_eq_left hd]
    rfl
  · rw [Nat.min_eq_right (by omega)]
    have hlt : n < 2 ^ (n.log2 + 1) := Nat.lt_log2_self
    have h1 : 2 ^ (n.log2 + 1) * 2 = 2 ^ (n.log2 + 2) := by rw [Nat.pow_succ 2 (n.log2 + 1)]
    have h2 : 2 ^ (n.log2 + 2) ≤ 2 ^ d := Nat.pow_le_pow_right (by omega) (by omega)
    rw [Nat.div_eq_of_lt (show n < 2 ^ (n.log2 + 2) by omega), Nat.mod_eq_of_lt (show n < 2 ^ (n.log2 + 2) by omega), Nat.div_eq_of_lt (show n < 2 ^ d by omega), Nat.mod_eq_of_lt (show n < 2 ^ d by omega)]
    have e1 : decide (2 ^ (n.log2 + 2) < 2 * n) = false := decide_eq_false (by omega)
    have e2 : decide (2 ^ d < 2 * n) = false := decide_eq_false (by omega)
    have e3 : (2 ^ (n.log2 + 2) == 2 * n) = false := by rw [hb]; exact decide_eq_false (by omega)
    have e4 : decide (2 ^ d = 2 * n) = false := decide_eq_false (by omega)
    rw [e1, e2, e3, e4]
    rfl
theorem cutQ_scale (A B x : Nat) : cutQ (A * 2 ^ x) (B * 2 ^ x) = cutQ A B := by
  have hx : 0 < 2 ^ x := Nat.pow_pos (by omega)
  unfold cutQ
  rw [Nat.mul_div_mul_right _ _ hx, Nat.mul_mod_mul_right, ← Nat.mul_assoc]
  have e1 : decide (B * 2 ^ x < 2 * (A % B) * 2 ^ x) = decide (B < 2 * (A % B)) := by
    rw [decide_eq_decide]
    exact Nat.mul_lt_mul_right hx
  have e2 : decide (B * 2 ^ x = 2 * (A % B) * 2 ^ x) = decide (B = 2 * (A % B)) := by
    rw [decide_eq_decide]
    exact Nat.mul_left_inj (by omega)
  rw [e1, e2]
theorem rndQ_scale (fb A B x : Nat) : rndQ fb (A * 2 ^ x) (B * 2 ^ x) = rndQ fb A B := by
  have hx : 0 < 2 ^ x := Nat.pow_pos (by omega)
  unfold rndQ
  rw [Nat.mul_div_mul_right _ _ hx, Nat.mul_right_comm B, cutQ_scale]
theorem rndQ_scale2 {fb m n p1 q1 p2 q2 : Nat} (h : p1 + q2 = p2 + q1) : rndQ fb (m * 2 ^ p1) (n * 2 ^ q1) = rndQ fb (m * 2 ^ p2) (n * 2 ^ q2) := by
  rw [← rndQ_scale fb (m * 2 ^ p1) (n * 2 ^ q1) q2, ← rndQ_scale fb (m * 2 ^ p2) (n * 2 ^ q2) q1, Nat.mul_assoc, Nat.mul_assoc, Nat.mul_assoc, Nat.mul_assoc, ← Nat.pow_add, ← Nat.pow_add, ← Nat.pow_add, ← Nat.pow_add, h, Nat.add_comm q1 q2]
theorem log2_is {n e : Nat} (h1 : 2 ^ e ≤ n) (h2 : n < 2 ^ (e + 1)) : n.log2 = e := by
  have h0 : n ≠ 0 := by
    have := Nat.pow_pos (n := e) (show 0 < 2 by omega)
    omega
  exact (Nat.log2_eq_iff h0).2 ⟨h1, h2⟩
theorem log2_div (n t : Nat) : (n / 2 ^ t).log2 = n.log2 - t := by
  by_cases h0 : n = 0
  · subst h0; simp
  have h1 := Nat.log2_self_le h0
  have h2 : n < 2 ^ (n.log2 + 1) := Nat.lt_log2_self
  by_cases ht : t ≤ n.log2
  · obtain ⟨e, he⟩ : ∃ e, n.log2 = t + e := ⟨n.log2 - t, by omega⟩
    rw [he, Nat.add_sub_cancel_left]
    rw [he] at h1 h2
    have hp : 0 < 2 ^ t := Nat.pow_pos (by omega)
    refine log2_is ((Nat.le_div_iff_mul_le hp).2 ?_) ((Nat.div_lt_iff_lt_mul hp).2 ?_)
    · rw [← Nat.pow_add, Nat.add_comm]; exact h1
    · rw [← Nat.pow_add, Nat.add_comm (e + 1), ← Nat.add_assoc]; exact h2
  · have h3 : n < 2 ^ t := Nat.lt_of_lt_of_le h2 (Nat.pow_le_pow_right (by omega) (by omega))
    rw [Nat.div_eq_of_lt h3, Nat.sub_eq_zero_of_le (by omega)]
    rfl
theorem log2_mul (n a : Nat) (h0 : n ≠ 0) : (n * 2 ^ a).log2 = n.log2 + a := by
  have h1 := Nat.log2_self_le h0
  have h2 : n < 2 ^ (n.log2 + 1) := Nat.lt_log2_self
  refine log2_is ?_ ?_
  · rw [Nat.pow_add]; exact Nat.mul_le_mul_right _ h1
  · rw [Nat.add_right_comm, Nat.pow_add]; exact Nat.mul_lt_mul_of_pos_right h2 (Nat.pow_pos (by omega))
theorem rvq_rung {b q z : Nat} (hb : 0 < b) (h : z ≤ 2 * b) (h2 : q = 0 ∨ b ≤ z) : rvq b ((q * b + z) / b) ((q * b + z) % b) = z * 2 ^ q := by
  rw [Nat.add_comm (q * b), Nat.add_mul_div_right _ _ hb, Nat.add_mul_mod_self_right]
  by_cases h3 : z < b
  · obtain rfl : q = 0 := by omega
    rw [Nat.div_eq_of_lt h3, Nat.mod_eq_of_lt h3]
    unfold rvq
    simp
  · by_cases h4 : z < 2 * b
    · have e1 : z / b = 1 := by rw [Nat.div_eq_iff hb]; omega
      have e2 := Nat.div_add_mod z b
      rw [e1, Nat.mul_one] at e2
      rw [e1]
      unfold rvq
      rw [if_neg (by omega), e2, Nat.add_sub_cancel_left]
    · obtain rfl : z = 2 * b := by omega
      rw [Nat.mul_div_cancel _ hb, Nat.mul_mod_left]
      unfold rvq
      rw [if_neg (by omega), Nat.add_zero, show 2 + q - 1 = q + 1 by omega, Nat.pow_succ, Nat.mul_comm (2 ^ q), ← Nat.mul_assoc, Nat.mul_comm b]
/-- The least number that is too great. -/
def capF (f : Ieee.Format) : Nat := 2 ^ (f.fractionBits + 2 ^ f.exponentBits - 2)
theorem word_val {k : FloatKind} {neg : Bool} {r : Nat} (h2 : r < k.format.infRung) : ∃ m i, k.format.read (k.format.word neg r) = .number neg m i ∧ k.format.leastPlace ≤ i ∧ m * 2 ^ (i - k.format.leastPlace).toNat = rvq k.format.binade (r / k.format.binade) (r % k.format.binade) := by
  have hw := word_mod k.format neg (rung_lt_sign k.format (Nat.le_of_lt h2))
  rcases read_parts k.format (k.format.word neg r) (exp_pos k) (read_word_num k.format neg (Nat.le_of_lt h2)) with ⟨_, g1, m, i, g2⟩ | ⟨g1, _⟩
  · have hf := read_form k.format _ g2
    have hneg : negW k.format (k.format.word neg r) = neg := by
      have hq := rung_lt_sign k.format (Nat.le_of_lt h2)
      have hs : 0 < k.format.signWeight := by omega
      unfold negW Ieee.Format.word
      cases neg
      · simp [Nat.div_eq_of_lt hq]
      · simp [Nat.add_div_left _ hs, Nat.div_eq_of_lt hq]
    rw [hneg] at g1 g2
    refine ⟨m, i, g2, hf.1, ?_⟩
    rw [hw, g2] at g1
    have g3 : (Ieee.signed neg m (i - k.format.leastPlace).toNat).natAbs = (sgnI neg (rvq k.format.binade (r / k.format.binade) (r % k.format.binade))).natAbs := congrArg Int.natAbs g1
    rw [signed_abs, sgnI_abs] at g3
    exact g3
  · rw [hw] at g1
    omega
theorem nearest_val {k : FloatKind} {neg : Bool} {mag : Nat} {place : Int} (hc : rndQ k.format.fractionBits (mag * 2 ^ (place - k.format.leastPlace).toNat) (2 ^ (k.format.leastPlace - place).toNat) < capF k.format) :
    ∃ m i, k.format.read (k.format.nearest neg mag place) = .number neg m i ∧ k.format.leastPlace ≤ i ∧ m * 2 ^ (i - k.format.leastPlace).toNat = rndQ k.format.fractionBits (mag * 2 ^ (place - k.format.leastPlace).toNat) (2 ^ (k.format.leastPlace - place).toNat) := by
  have hb0 : 0 < k.format.binade := Nat.pow_pos (by omega)
  have hb : k.format.binade = 2 ^ k.format.fractionBits := rfl
  have hI : k.format.infRung = (2 ^ k.format.exponentBits - 1) * k.format.binade := rfl
  have hE : 2 ≤ 2 ^ k.format.exponentBits := by cases k <;> decide
  unfold Ieee.Format.nearest
  by_cases h0 : mag = 0
  · rw [if_pos h0]
    obtain ⟨m, i, g1, g2, g3⟩ := word_val (k := k) (neg := neg) (r := 0) (by rw [hI]; exact Nat.mul_pos (by omega) hb0)
    refine ⟨m, i, g1, g2, ?_⟩
    rw [g3, h0, Nat.zero_mul, rndQ_zero, Nat.zero_div, Nat.zero_mod]
    rfl
  rw [if_neg h0]
  simp only
  unfold rndQ at hc ⊢
  rw [log2_div, log2_mul _ _ h0] at hc ⊢
  generalize hL : mag.log2 = L at *
  have hl1 : 2 ^ L ≤ mag := by rw [← hL]; exact Nat.log2_self_le h0
  have hl2 : mag < 2 ^ (L + 1) := by rw [← hL]; exact Nat.lt_log2_self
  generalize hlast : max (place + (L : Int) - (k.format.fractionBits : Int)) k.format.leastPlace = last
  generalize ha : (place - k.format.leastPlace).toNat = a at *
  generalize ht : (k.format.leastPlace - place).toNat = t at *
  generalize hfb : k.format.fractionBits = fb at *
  have hd : (last - k.format.leastPlace).toNat = L + a - t - fb := by omega
  rw [hd]
  generalize hdd : L + a - t - fb = d at *
  rw [cut_cutQ, Nat.shiftLeft_eq]
  generalize hu : (place - last).toNat = u
  generalize hv : (last - place).toNat = v
  have huv : a + v = t + d + u := by omega
  have hz : cutQ (mag * 2 ^ u) (2 ^ v) = cutQ (mag * 2 ^ a) (2 ^ t * 2 ^ d) := by
    rw [← Nat.pow_add]
    rcases Nat.le_total u a with h | h
    · obtain ⟨w, rfl⟩ : ∃ w, a = u + w := ⟨a - u, by omega⟩
      rw [show t + d = v + w by omega, Nat.pow_add, Nat.pow_add, ← Nat.mul_assoc, cutQ_scale]
    · obtain ⟨w, rfl⟩ : ∃ w, u = a + w := ⟨u - a, by omega⟩
      rw [show v = t + d + w by omega, Nat.pow_add 2 a, Nat.pow_add 2 (t + d), ← Nat.mul_assoc, cutQ_scale]
  rw [hz]
  have hz1 : cutQ (mag * 2 ^ a) (2 ^ t * 2 ^ d) ≤ 2 * k.format.binade := by
    rw [← Nat.pow_add, ← cut_cutQ false]
    refine cut_even_le ?_
    rw [hb, show 2 * 2 ^ fb = 2 ^ (fb + 1) by rw [Nat.pow_succ, Nat.mul_comm], ← Nat.pow_add]
    refine Nat.le_trans (Nat.mul_le_mul_right _ (Nat.le_of_lt hl2)) ?_
    rw [← Nat.pow_add]
    exact Nat.pow_le_pow_right (by omega) (by omega)
  have hz2 : d = 0 ∨ k.format.binade ≤ cutQ (mag * 2 ^ a) (2 ^ t * 2 ^ d) := by
    by_cases h : d = 0
    · exact .inl h
    · right
      rw [← Nat.pow_add, ← cut_cutQ false]
      refine cut_even_ge ?_
      rw [hb, ← Nat.pow_add]
      refine Nat.le_trans ?_ (Nat.mul_le_mul_right _ hl1)
      rw [← Nat.pow_add]
      exact Nat.pow_le_pow_right (by omega) (by omega)
  generalize cutQ (mag * 2 ^ a) (2 ^ t * 2 ^ d) = z at *
  have hr : d * k.format.binade + z < k.format.infRung := by
    rcases Nat.lt_or_ge (d * k.format.binade + z) k.format.infRung with h | h
    · exact h
    exfalso
    rw [hI] at h
    unfold capF at hc
    rw [hfb] at hc
    generalize hX : 2 ^ k.format.exponentBits = X at *
    by_cases hz3 : z < k.format.binade
    · obtain rfl : d = 0 := by omega
      have : k.format.binade ≤ (X - 1) * k.format.binade := Nat.le_mul_of_pos_left _ (by omega)
      omega
    · by_cases hz4 : z = 2 * k.format.binade
      · have h3 : X - 1 ≤ d + 2 := by
          rw [hz4, ← Nat.add_mul] at h
          exact Nat.le_of_mul_le_mul_right h hb0
        rw [hz4, hb, show 2 * 2 ^ fb = 2 ^ (fb + 1) by rw [Nat.pow_succ, Nat.mul_comm], ← Nat.pow_add] at hc
        have := (Nat.pow_lt_pow_iff_right (by omega : 1 < 2)).1 hc
        omega
      · have h3 : X - 1 < d + 2 := by
          have : d * k.format.binade + z < (d + 2) * k.format.binade := by rw [Nat.add_mul]; omega
          exact Nat.lt_of_mul_lt_mul_right (Nat.lt_of_le_of_lt h this)
        have h5 : 2 ^ (fb + d) ≤ z * 2 ^ d := by
          rw [Nat.pow_add]
          exact Nat.mul_le_mul_right _ (by rw [← hb]; omega)
        have := (Nat.pow_lt_pow_iff_right (by omega : 1 < 2)).1 (Nat.lt_of_le_of_lt h5 hc)
        omega
  rw [Nat.min_eq_left (Nat.le_of_lt hr)]
  obtain ⟨m, i, g1, g2, g3⟩ := word_val (k := k) (neg := neg) hr
  refine ⟨m, i, g1, g2, ?_⟩
  rw [g3, rvq_rung hb0 hz1 hz2]
end Go.Proofs.Ytejpamlaacffaaa
