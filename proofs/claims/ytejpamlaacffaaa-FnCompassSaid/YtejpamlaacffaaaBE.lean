/-
  The base texts, joined. Conditions: none.
-/
import Derived.Test.YtejpamlaacffaaaBC
/-
  What a rounded number is worth, counted from the format's least place. Conditions: none.
-/
namespace Go.Proofs.Ytejpamlaacffaaa
open Go Go.RowKit

/-- A / B as a whole number, to the nearest, to the even one between two. -/
def cutQ (A B : Nat) : Nat := A / B + (decide (B < 2 * (A % B)) || (decide (B = 2 * (A % B)) && decide (A / B % 2 = 1))).toNat
/-- A / B to fb + 1 digits, and to whole numbers. -/
def rndQ (fb A B : Nat) : Nat := cutQ A (B * 2 ^ ((A / B).log2 - fb)) * 2 ^ ((A / B).log2 - fb)
theorem cutQ_zero (B : Nat) : cutQ 0 B = 0 := by
  unfold cutQ
  simp
theorem rndQ_zero (fb B : Nat) : rndQ fb 0 B = 0 := by
  unfold rndQ
  rw [cutQ_zero, Nat.zero_mul]
theorem cut_cutQ (neg : Bool) (n d : Nat) : Ieee.Toward.even.cut neg n d = cutQ n (2 ^ d) := by
  unfold Ieee.Toward.cut cutQ
  simp only [Nat.shiftLeft_eq, Nat.one_mul]
  have hb : ∀ a b : Nat, (a == b) = decide (a = b) := fun a b => rfl
  by_cases hd : d ≤ n.log2 + 2
  · rw [Nat.min_eq_left hd]
    rfl
  · rw [Nat.min_eq_right (by omega)]
    have hlt : n < 2 ^ (n.log2 + 1) := Nat.lt_log2_self
    have h1 : 2 ^ (n.log2 + 1) * 2 = 2 ^ (n.log2 + 2) := by rw [Nat.pow_succ 2 (n.log2 + 1)]
    have h2 : 2 ^ (n.log2 + 2) ≤ 2 ^ d := Nat.pow_le_pow_right (by omega) (by omega)
    rw [Nat.div_eq_of_lt (show n < 2 ^ (n.log2 + 2) by omega), Nat.mod_eq_of_lt (show n < 2 ^ (n.log2 + 2) by omega), Nat.div_eq_of_lt (show n < 2 ^ d by omega), Nat.mod_eq_of_lt (show n < 2 ^ d by omega)]
    have e1 : decide (2 ^ (n.log2 + 2) < 2 * n) = false := decide_eq_false (by omega)
    have e2 : decide (2 ^ d < 2 * n) = false := decide_eq_false (by omega)
    have e3 : (2 ^ (n.log2 + 2) == 2 * n) = false := by rw [hb]; exact decide_eq_false (by omega)
    have e4 : decide (2 ^ d = 2 * n) = false := decide_eq_false (by omega)
    rw [e1, e2, e3, e4]
    rfl
theorem cutQ_scale (A B x : Nat) : cutQ (A * 2 ^ x) (B * 2 ^ x) = cutQ A B := by
  have hx : 0 < 2 ^ x := Nat.pow_pos (by omega)
  unfold cutQ
  rw [Nat.mul_div_mul_right _ _ hx, Nat.mul_mod_mul_right, ← Nat.mul_assoc]
  have e1 : decide (B * 2 ^ x < 2 * (A % B) * 2 ^ x) = decide (B < 2 * (A % B)) := by
    rw [decide_eq_decide]
    exact Nat.mul_lt_mul_right hx
  have e2 : decide (B * 2 ^ x = 2 * (A % B) * 2 ^ x) = decide (B = 2 * (A % B)) := by
    rw [decide_eq_decide]
    exact Nat.mul_left_inj (by omega)
  rw [e1, e2]
theorem rndQ_scale (fb A B x : Nat) : rndQ fb (A * 2 ^ x) (B * 2 ^ x) = rndQ fb A B := by
  have hx : 0 < 2 ^ x := Nat.pow_pos (by omega)
  unfold rndQ
  rw [Nat.mul_div_mul_right _ _ hx, Nat.mul_right_comm B, cutQ_scale]
theorem rndQ_scale2 {fb m n p1 q1 p2 q2 : Nat} (h : p1 + q2 = p2 + q1) : rndQ fb (m * 2 ^ p1) (n * 2 ^ q1) = rndQ fb (m * 2 ^ p2) (n * 2 ^ q2) := by
  rw [← rndQ_scale fb (m * 2 ^ p1) (n * 2 ^ q1) q2, ← rndQ_scale fb (m * 2 ^ p2) (n * 2 ^ q2) q1, Nat.mul_assoc, Nat.mul_assoc, Nat.mul_assoc, Nat.mul_assoc, ← Nat.pow_add, ← Nat.pow_add, ← Nat.pow_add, ← Nat.pow_add, h, Nat.add_comm q1 q2]
theorem log2_is {n e : Nat} (h1 : 2 ^ e ≤ n) (h2 : n < 2 ^ (e + 1)) : n.log2 = e := by
  have h0 : n ≠ 0 := by
    have := Nat.pow_pos (n := e) (show 0 < 2 by omega)
    omega
  exact (Nat.log2_eq_iff h0).2 ⟨h1, h2⟩
theorem log2_div (n t : Nat) : (n / 2 ^ t).log2 = n.log2 - t := by
  by_cases h0 : n = 0
  · subst h0; simp
  have h1 := Nat.log2_self_le h0
  have h2 : n < 2 ^ (n.log2 + 1) := Nat.lt_log2_self
  by_cases ht : t ≤ n.log2
  · obtain ⟨e, he⟩ : ∃ e, n.log2 = t + e := ⟨n.log2 - t, by omega⟩
    rw [he, Nat.add_sub_cancel_left]
    rw [he] at h1 h2
    have hp : 0 < 2 ^ t := Nat.pow_pos (by omega)
    refine log2_is ((Nat.le_div_iff_mul_le hp).2 ?_) ((Nat.div_lt_iff_lt_mul hp).2 ?_)
    · rw [← Nat.pow_add, Nat.add_comm]; exact h1
    · rw [← Nat.pow_add, Nat.add_comm (e + 1), ← Nat.add_assoc]; exact h2
  · have h3 : n < 2 ^ t := Nat.lt_of_lt_of_le h2 (Nat.pow_le_pow_right (by omega) (by omega))
    rw [Nat.div_eq_of_lt h3, Nat.sub_eq_zero_of_le (by omega)]
    rfl
theorem log2_mul (n a : Nat) (h0 : n ≠ 0) : (n * 2 ^ a).log2 = n.log2 + a := by
  have h1 := Nat.log2_self_le h0
  have h2 : n < 2 ^ (n.log2 + 1) := Nat.lt_log2_self
  refine log2_is ?_ ?_
  · rw [Nat.pow_add]; exact Nat.mul_le_mul_right _ h1
  · rw [Nat.add_right_comm, Nat.pow_add]; exact Nat.mul_lt_mul_of_pos_right h2 (Nat.pow_pos (by omega))
theorem rvq_rung {b q z : Nat} (hb : 0 < b) (h : z ≤ 2 * b) (h2 : q = 0 ∨ b ≤ z) : rvq b ((q * b + z) / b) ((q * b + z) % b) = z * 2 ^ q := by
  rw [Nat.add_comm (q * b), Nat.add_mul_div_right _ _ hb, Nat.add_mul_mod_self_right]
  by_cases h3 : z < b
  · obtain rfl : q = 0 := by omega
    rw [Nat.div_eq_of_lt h3, Nat.mod_eq_of_lt h3]
    unfold rvq
    simp
  · by_cases h4 : z < 2 * b
    · have e1 : z / b = 1 := by rw [Nat.div_eq_iff hb]; omega
      have e2 := Nat.div_add_mod z b
      rw [e1, Nat.mul_one] at e2
      rw [e1]
      unfold rvq
      rw [if_neg (by omega), e2, Nat.add_sub_cancel_left]
    · obtain rfl : z = 2 * b := by omega
      rw [Nat.mul_div_cancel _ hb, Nat.mul_mod_left]
      unfold rvq
      rw [if_neg (by omega), Nat.add_zero, show 2 + q - 1 = q + 1 by omega, Nat.pow_succ, Nat.mul_comm (2 ^ q), ← Nat.mul_assoc, Nat.mul_comm b]
/-- The least number that is too great. -/
def capF (f : Ieee.Format) : Nat := 2 ^ (f.fractionBits + 2 ^ f.exponentBits - 2)
theorem word_val {k : FloatKind} {neg : Bool} {r : Nat} (h2 : r < k.format.infRung) : ∃ m i, k.format.read (k.format.word neg r) = .number neg m i ∧ k.format.leastPlace ≤ i ∧ m * 2 ^ (i - k.format.leastPlace).toNat = rvq k.format.binade (r / k.format.binade) (r % k.format.binade) := by
  have hw := word_mod k.format neg (rung_lt_sign k.format (Nat.le_of_lt h2))
  rcases read_parts k.format (k.format.word neg r) (exp_pos k) (read_word_num k.format neg (Nat.le_of_lt h2)) with ⟨_, g1, m, i, g2⟩ | ⟨g1, _⟩
  · have hf := read_form k.format _ g2
    have hneg : negW k.format (k.format.word neg r) = neg := by
      have hq := rung_lt_sign k.format (Nat.le_of_lt h2)
      have hs : 0 < k.format.signWeight := by omega
      unfold negW Ieee.Format.word
      cases neg
      · simp [Nat.div_eq_of_lt hq]
      · simp [Nat.add_div_left _ hs, Nat.div_eq_of_lt hq]
    rw [hneg] at g1 g2
    refine ⟨m, i, g2, hf.1, ?_⟩
    rw [hw, g2] at g1
    have g3 : (Ieee.signed neg m (i - k.format.leastPlace).toNat).natAbs = (sgnI neg (rvq k.format.binade (r / k.format.binade) (r % k.format.binade))).natAbs := congrArg Int.natAbs g1
    rw [signed_abs, sgnI_abs] at g3
    exact g3
  · rw [hw] at g1
    omega
theorem nearest_val {k : FloatKind} {neg : Bool} {mag : Nat} {place : Int} (hc : rndQ k.format.fractionBits (mag * 2 ^ (place - k.format.leastPlace).toNat) (2 ^ (k.format.leastPlace - place).toNat) < capF k.format) :
    ∃ m i, k.format.read (k.format.nearest neg mag place) = .number neg m i ∧ k.format.leastPlace ≤ i ∧ m * 2 ^ (i - k.format.leastPlace).toNat = rndQ k.format.fractionBits (mag * 2 ^ (place - k.format.leastPlace).toNat) (2 ^ (k.format.leastPlace - place).toNat) := by
  have hb0 : 0 < k.format.binade := Nat.pow_pos (by omega)
  have hb : k.format.binade = 2 ^ k.format.fractionBits := rfl
  have hI : k.format.infRung = (2 ^ k.format.exponentBits - 1) * k.format.binade := rfl
  have hE : 2 ≤ 2 ^ k.format.exponentBits := by cases k <;> decide
  unfold Ieee.Format.nearest
  by_cases h0 : mag = 0
  · rw [if_pos h0]
    obtain ⟨m, i, g1, g2, g3⟩ := word_val (k := k) (neg := neg) (r := 0) (by rw [hI]; exact Nat.mul_pos (by omega) hb0)
    refine ⟨m, i, g1, g2, ?_⟩
    rw [g3, h0, Nat.zero_mul, rndQ_zero, Nat.zero_div, Nat.zero_mod]
    rfl
  rw [if_neg h0]
  simp only
  unfold rndQ at hc ⊢
  rw [log2_div, log2_mul _ _ h0] at hc ⊢
  generalize hL : mag.log2 = L at *
  have hl1 : 2 ^ L ≤ mag := by rw [← hL]; exact Nat.log2_self_le h0
  have hl2 : mag < 2 ^ (L + 1) := by rw [← hL]; exact Nat.lt_log2_self
  generalize hlast : max (place + (L : Int) - (k.format.fractionBits : Int)) k.format.leastPlace = last
  generalize ha : (place - k.format.leastPlace).toNat = a at *
  generalize ht : (k.format.leastPlace - place).toNat = t at *
  generalize hfb : k.format.fractionBits = fb at *
  have hd : (last - k.format.leastPlace).toNat = L + a - t - fb := by omega
  rw [hd]
  generalize hdd : L + a - t - fb = d at *
  rw [cut_cutQ, Nat.shiftLeft_eq]
  generalize hu : (place - last).toNat = u
  generalize hv : (last - place).toNat = v
  have huv : a + v = t + d + u := by omega
  have hz : cutQ (mag * 2 ^ u) (2 ^ v) = cutQ (mag * 2 ^ a) (2 ^ t * 2 ^ d) := by
    rw [← Nat.pow_add]
    rcases Nat.le_total u a with h | h
    · obtain ⟨w, rfl⟩ : ∃ w, a = u + w := ⟨a - u, by omega⟩
      rw [show t + d = v + w by omega, Nat.pow_add, Nat.pow_add, ← Nat.mul_assoc, cutQ_scale]
    · obtain ⟨w, rfl⟩ : ∃ w, u = a + w := ⟨u - a, by omega⟩
      rw [show v = t + d + w by omega, Nat.pow_add 2 a, Nat.pow_add 2 (t + d), ← Nat.mul_assoc, cutQ_scale]
  rw [hz]
  have hz1 : cutQ (mag * 2 ^ a) (2 ^ t * 2 ^ d) ≤ 2 * k.format.binade := by
    rw [← Nat.pow_add, ← cut_cutQ false]
    refine cut_even_le ?_
    rw [hb, show 2 * 2 ^ fb = 2 ^ (fb + 1) by rw [Nat.pow_succ, Nat.mul_comm], ← Nat.pow_add]
    refine Nat.le_trans (Nat.mul_le_mul_right _ (Nat.le_of_lt hl2)) ?_
    rw [← Nat.pow_add]
    exact Nat.pow_le_pow_right (by omega) (by omega)
  have hz2 : d = 0 ∨ k.format.binade ≤ cutQ (mag * 2 ^ a) (2 ^ t * 2 ^ d) := by
    by_cases h : d = 0
    · exact .inl h
    · right
      rw [← Nat.pow_add, ← cut_cutQ false]
      refine cut_even_ge ?_
      rw [hb, ← Nat.pow_add]
      refine Nat.le_trans ?_ (Nat.mul_le_mul_right _ hl1)
      rw [← Nat.pow_add]
      exact Nat.pow_le_pow_right (by omega) (by omega)
  generalize cutQ (mag * 2 ^ a) (2 ^ t * 2 ^ d) = z at *
  have hr : d * k.format.binade + z < k.format.infRung := by
    rcases Nat.lt_or_ge (d * k.format.binade + z) k.format.infRung with h | h
    · exact h
    exfalso
    rw [hI] at h
    unfold capF at hc
    rw [hfb] at hc
    generalize hX : 2 ^ k.format.exponentBits = X at *
    by_cases hz3 : z < k.format.binade
    · obtain rfl : d = 0 := by omega
      have : k.format.binade ≤ (X - 1) * k.format.binade := Nat.le_mul_of_pos_left _ (by omega)
      omega
    · by_cases hz4 : z = 2 * k.format.binade
      · have h3 : X - 1 ≤ d + 2 := by
          rw [hz4, ← Nat.add_mul] at h
          exact Nat.le_of_mul_le_mul_right h hb0
        rw [hz4, hb, show 2 * 2 ^ fb = 2 ^ (fb + 1) by rw [Nat.pow_succ, Nat.mul_comm], ← Nat.pow_add] at hc
        have := (Nat.pow_lt_pow_iff_right (by omega : 1 < 2)).1 hc
        omega
      · have h3 : X - 1 < d + 2 := by
          have : d * k.format.binade + z < (d + 2) * k.format.binade := by rw [Nat.add_mul]; omega
          exact Nat.lt_of_mul_lt_mul_right (Nat.lt_of_le_of_lt h this)
        have h5 : 2 ^ (fb + d) ≤ z * 2 ^ d := by
          rw [Nat.pow_add]
          exact Nat.mul_le_mul_right _ (by rw [← hb]; omega)
        have := (Nat.pow_lt_pow_iff_right (by omega : 1 < 2)).1 (Nat.lt_of_le_of_lt h5 hc)
        omega
  rw [Nat.min_eq_left (Nat.le_of_lt hr)]
  obtain ⟨m, i, g1, g2, g3⟩ := word_val (k := k) (neg := neg) hr
  refine ⟨m, i, g1, g2, ?_⟩
  rw [g3, rvq_rung hb0 hz1 hz2]
end Go.Proofs.Ytejpamlaacffaaa

/-
  Finite numbers with their worth, and what each operation makes of them. Conditions: none.
-/
namespace Go.Proofs.Ytejpamlaacffaaa
open Go Go.RowKit

/-- X is finite and worth z, counted from the least place. -/
structure V (k : FloatKind) (X : Nat) (z : Int) : Prop where
  out : ∃ s m i, k.format.read X = .number s m i ∧ k.format.leastPlace ≤ i ∧ z = sgnI s (m * 2 ^ (i - k.format.leastPlace).toNat)
theorem signed_sgn (s : Bool) (m a : Nat) : Ieee.signed s m a = sgnI s (m * 2 ^ a) := by
  unfold Ieee.signed sgnI
  rw [Nat.shiftLeft_eq]
theorem V.num {k : FloatKind} {X : Nat} {z : Int} (h : V k X z) : isNan k X = false := by
  obtain ⟨s, m, i, e, _⟩ := h.out
  unfold isNan
  rw [e]
  rfl
theorem V.rk {k : FloatKind} {X : Nat} {z : Int} (h : V k X z) : rk k X = z := by
  obtain ⟨s, m, i, e, _, rfl⟩ := h.out
  unfold Go.Proofs.Ytejpamlaacffaaa.rk rkD
  rw [e]
  exact signed_sgn _ _ _
theorem V.cap {k : FloatKind} {X : Nat} {z : Int} (h : V k X z) : V k X z := h
/-- z / B, rounded. -/
def rndZ (fb : Nat) (z : Int) (B : Nat) : Int := sgnI (decide (z < 0)) (rndQ fb z.natAbs B)
theorem sgnI_zero (s : Bool) : sgnI s 0 = 0 := by cases s <;> rfl
theorem rndZ_sgn (fb : Nat) (s : Bool) (w B : Nat) : rndZ fb (sgnI s w) B = sgnI s (rndQ fb w B) := by
  unfold rndZ
  rw [sgnI_abs]
  by_cases h : w = 0
  · subst h
    rw [rndQ_zero, sgnI_zero, sgnI_zero]
  · congr 1
    unfold sgnI
    cases s
    · simp
    · simp; omega
theorem sgnI_mul (s t : Bool) (a b : Nat) : sgnI s a * sgnI t b = sgnI (Bool.xor s t) (a * b) := by
  unfold sgnI
  cases s <;> cases t <;> simp [Int.mul_neg, Int.neg_mul]
theorem sgnI_sign {s t : Bool} {A : Nat} (h : sgnI s A = sgnI t A) (h0 : A ≠ 0) : s = t := by
  unfold sgnI at h
  cases s <;> cases t <;> first | rfl | (exfalso; simp only [if_true, if_false, Bool.false_eq_true] at h; omega)
theorem V.of_nearest {k : FloatKind} {neg : Bool} {mag : Nat} {place : Int} {R : Nat} (e : rndQ k.format.fractionBits (mag * 2 ^ (place - k.format.leastPlace).toNat) (2 ^ (k.format.leastPlace - place).toNat) = R) (hc : R < capF k.format) : V k (k.format.nearest neg mag place) (sgnI neg R) := by
  subst e
  obtain ⟨m, i, h1, h2, h3⟩ := nearest_val (neg := neg) hc
  exact ⟨⟨neg, m, i, h1, h2, by rw [h3]⟩⟩
theorem sum_V {k : FloatKind} {d1 d2 : Ieee.Datum} {a b : Int} (h1 : ∃ s m i, d1 = .number s m i ∧ k.format.leastPlace ≤ i ∧ a = sgnI s (m * 2 ^ (i - k.format.leastPlace).toNat)) (h2 : ∃ s m i, d2 = .number s m i ∧ k.format.leastPlace ≤ i ∧ b = sgnI s (m * 2 ^ (i - k.format.leastPlace).toNat)) (hc : rndQ k.format.fractionBits (a + b).natAbs 1 < capF k.format) : V k (((d1.sum d2).map k.format.write).getD (nanOf k)) (rndZ k.format.fractionBits (a + b) 1) := by
  obtain ⟨s, m, i, rfl, hi, ea⟩ := h1
  obtain ⟨t, n, j, rfl, hj, eb⟩ := h2
  have e0 : (k.format.leastPlace - min i j).toNat = 0 := by omega
  have e1 : (i - k.format.leastPlace).toNat = (i - min i j).toNat + (min i j - k.format.leastPlace).toNat := by omega
  have e2 : (j - k.format.leastPlace).toNat = (j - min i j).toNat + (min i j - k.format.leastPlace).toNat := by omega
  have hs : a + b = (Ieee.signed s m (i - min i j).toNat + Ieee.signed t n (j - min i j).toNat) * ((2 ^ (min i j - k.format.leastPlace).toNat : Nat) : Int) := by
    rw [Int.add_mul, ← signed_scale, ← signed_scale, ← e1, ← e2, signed_sgn, signed_sgn, ea, eb]
  show V k (k.format.nearest (if Ieee.signed s m (i - min i j).toNat + Ieee.signed t n (j - min i j).toNat = 0 then s && t else decide (Ieee.signed s m (i - min i j).toNat + Ieee.signed t n (j - min i j).toNat < 0)) (Ieee.signed s m (i - min i j).toNat + Ieee.signed t n (j - min i j).toNat).natAbs (min i j)) _
  generalize Ieee.signed s m (i - min i j).toNat + Ieee.signed t n (j - min i j).toNat = T at *
  have hp : 0 < 2 ^ (min i j - k.format.leastPlace).toNat := Nat.pow_pos (by omega)
  have habs : (a + b).natAbs = T.natAbs * 2 ^ (min i j - k.format.leastPlace).toNat := by
    rw [hs, Int.natAbs_mul, Int.natAbs_natCast]
  have hv := V.of_nearest (k := k) (neg := if T = 0 then s && t else decide (T < 0)) (mag := T.natAbs) (place := min i j) (R := rndQ k.format.fractionBits (a + b).natAbs 1) (by rw [e0, habs]) hc
  have : sgnI (if T = 0 then s && t else decide (T < 0)) (rndQ k.format.fractionBits (a + b).natAbs 1) = rndZ k.format.fractionBits (a + b) 1 := by
    by_cases h : T = 0
    · subst h
      rw [hs]
      unfold rndZ
      simp [rndQ_zero, sgnI_zero]
    · rw [if_neg h]
      unfold rndZ
      congr 1
      rw [decide_eq_decide, hs]
      have hp' : (0 : Int) < ((2 ^ (min i j - k.format.leastPlace).toNat : Nat) : Int) := by omega
      constructor
      · intro h
        exact Int.mul_neg_of_neg_of_pos h hp'
      · intro h
        rcases Int.lt_or_le T 0 with h' | h'
        · exact h'
        · have := Int.mul_nonneg h' (Int.le_of_lt hp')
          omega
  rw [← this]
  exact hv
theorem V.add {k : FloatKind} {X Y : Nat} {a b : Int} (hx : V k X a) (hy : V k Y b) (hc : rndQ k.format.fractionBits (a + b).natAbs 1 < capF k.format) : V k (fop .add k X Y) (rndZ k.format.fractionBits (a + b) 1) := sum_V hx.out hy.out hc
theorem V.sub {k : FloatKind} {X Y : Nat} {a b : Int} (hx : V k X a) (hy : V k Y b) (hc : rndQ k.format.fractionBits (a - b).natAbs 1 < capF k.format) : V k (fop .sub k X Y) (rndZ k.format.fractionBits (a - b) 1) := by
  rw [Int.sub_eq_add_neg] at hc ⊢
  refine sum_V hx.out ?_ hc
  obtain ⟨t, n, j, e, hj, eb⟩ := hy.out
  refine ⟨!t, n, j, by rw [e]; rfl, hj, ?_⟩
  rw [eb]
  unfold sgnI
  cases t <;> simp
/-- What the format counts from. -/
def pF (k : FloatKind) : Nat := (-k.format.leastPlace).toNat
theorem V.mul {k : FloatKind} {X Y : Nat} {a b : Int} (hx : V k X a) (hy : V k Y b) (hc : rndQ k.format.fractionBits (a * b).natAbs (2 ^ pF k) < capF k.format) : V k (fop .mul k X Y) (rndZ k.format.fractionBits (a * b) (2 ^ pF k)) := by
  obtain ⟨s, m, i, e1, hi, ea⟩ := hx.out
  obtain ⟨t, n, j, e2, hj, eb⟩ := hy.out
  have hlp := lp_neg k
  have hab : a * b = sgnI (Bool.xor s t) (m * n * 2 ^ ((i - k.format.leastPlace).toNat + (j - k.format.leastPlace).toNat)) := by
    rw [ea, eb, sgnI_mul, Nat.pow_add, Nat.mul_mul_mul_comm]
  show V k ((((k.format.read X).product (k.format.read Y)).map k.format.write).getD (nanOf k)) _
  rw [e1, e2]
  show V k (k.format.nearest (Bool.xor s t) (m * n) (i + j)) _
  rw [hab, sgnI_abs] at hc
  rw [hab, rndZ_sgn]
  refine V.of_nearest ?_ hc
  rw [show (2 : Nat) ^ pF k = 1 * 2 ^ pF k by rw [Nat.one_mul], show (2 : Nat) ^ (k.format.leastPlace - (i + j)).toNat = 1 * 2 ^ (k.format.leastPlace - (i + j)).toNat by rw [Nat.one_mul]]
  refine rndQ_scale2 ?_
  unfold pF
  omega
/-- The core of a quotient with a digit for what is left over. -/
theorem cutQ_rest {D n T : Nat} (hn : 0 < n) (hT : 2 ≤ T) : cutQ (2 * (D / n) + (D % n != 0).toNat) (2 ^ T) = cutQ (2 * D) (n * 2 ^ T) := by
  obtain ⟨U, rfl⟩ : ∃ U, T = U + 2 := ⟨T - 2, by omega⟩
  generalize hs : (D % n != 0).toNat = s
  have hs1 : s = 0 ∧ D % n = 0 ∨ s = 1 ∧ 0 < D % n := by
    rw [← hs]
    by_cases h : D % n = 0
    · left; rw [h]; exact ⟨rfl, rfl⟩
    · right
      refine ⟨?_, by omega⟩
      have : (D % n != 0) = true := by rw [bne_iff_ne]; exact h
      rw [this]; rfl
  have hD := Nat.div_add_mod D n
  have hr := Nat.mod_lt D hn
  generalize D / n = q at *
  generalize D % n = ρ at *
  have hW : 0 < 2 ^ U := Nat.pow_pos (by omega)
  have e4 : 2 ^ (U + 2) = 2 * (2 * 2 ^ U) := by rw [Nat.pow_succ, Nat.pow_succ]; omega
  rw [e4]
  generalize 2 ^ U = W at *
  -- q = v * 2W + u
  have hq := Nat.div_add_mod q (2 * W)
  have hu := Nat.mod_lt q (show 0 < 2 * W by omega)
  generalize q / (2 * W) = v at *
  generalize q % (2 * W) = u at *
  have d1 : (2 * q + s) / (2 * (2 * W)) = v := by
    rw [Nat.div_eq_iff (by omega)]
    have : v * (2 * (2 * W)) = 2 * (2 * W * v) := by rw [Nat.mul_comm v, Nat.mul_assoc]
    rw [this]
    omega
  have m1 : (2 * q + s) % (2 * (2 * W)) = 2 * u + s := by
    have h := Nat.div_add_mod (2 * q + s) (2 * (2 * W))
    rw [d1, Nat.mul_assoc] at h
    omega
  have hnv : D = n * (2 * W) * v + (n * u + ρ) := by
    rw [← hD, ← hq, Nat.mul_add, Nat.add_assoc, Nat.mul_assoc n (2 * W) v]
  have hnu : n * u + ρ < n * (2 * W) := by
    have : n * (u + 1) ≤ n * (2 * W) := Nat.mul_le_mul_left _ hu
    rw [Nat.mul_add, Nat.mul_one] at this
    omega
  have en : n * (2 * (2 * W)) = 2 * (n * (2 * W)) := Nat.mul_left_comm _ _ _
  rw [en]
  have d2 : 2 * D / (2 * (n * (2 * W))) = v := by
    rw [Nat.mul_div_mul_left _ _ (by omega), hnv, Nat.mul_add_div (Nat.mul_pos hn (by omega)), Nat.div_eq_of_lt hnu, Nat.add_zero]
  have m2 : 2 * D % (2 * (n * (2 * W))) = 2 * (n * u + ρ) := by
    rw [Nat.mul_mod_mul_left, hnv, Nat.mul_add_mod, Nat.mod_eq_of_lt hnu]
  unfold cutQ
  rw [d1, m1, d2, m2]
  have en2 : n * (2 * W) = 2 * (n * W) := Nat.mul_left_comm _ _ _
  rw [en2]
  have c1 : (2 * (2 * W) < 2 * (2 * u + s)) ↔ (2 * (2 * (n * W)) < 2 * (2 * (n * u + ρ))) := by
    rcases Nat.lt_trichotomy W u with h | h | h
    · have : n * (W + 1) ≤ n * u := Nat.mul_le_mul_left _ h
      rw [Nat.mul_add, Nat.mul_one] at this
      omega
    · subst h; omega
    · have : n * (u + 1) ≤ n * W := Nat.mul_le_mul_left _ h
      rw [Nat.mul_add, Nat.mul_one] at this
      omega
  have c2 : (2 * (2 * W) = 2 * (2 * u + s)) ↔ (2 * (2 * (n * W)) = 2 * (2 * (n * u + ρ))) := by
    rcases Nat.lt_trichotomy W u with h | h | h
    · have : n * (W + 1) ≤ n * u := Nat.mul_le_mul_left _ h
      rw [Nat.mul_add, Nat.mul_one] at this
      omega
    · subst h; omega
    · have : n * (u + 1) ≤ n * W := Nat.mul_le_mul_left _ h
      rw [Nat.mul_add, Nat.mul_one] at this
      omega
  rw [decide_eq_decide.2 c1, decide_eq_decide.2 c2]
theorem log2_twice {q s : Nat} (hq : 0 < q) (hs : s ≤ 1) : (2 * q + s).log2 = q.log2 + 1 := by
  have h1 := Nat.log2_self_le (show q ≠ 0 by omega)
  have h2 : q < 2 ^ (q.log2 + 1) := Nat.lt_log2_self
  refine log2_is ?_ ?_
  · rw [Nat.pow_succ]; omega
  · rw [Nat.pow_succ]; omega
theorem rndQ_rest {fb D n α τ : Nat} (hn : 0 < n) (hq : 2 ^ (fb + 1) ≤ D / n) (h0 : α = 0 ∨ τ = 0) : rndQ fb ((2 * (D / n) + (D % n != 0).toNat) * 2 ^ α) (2 ^ τ) = rndQ fb (2 * D * 2 ^ α) (n * 2 ^ τ) := by
  have hs1 : (D % n != 0).toNat ≤ 1 := by cases (D % n != 0) <;> decide
  have hq0 : 0 < D / n := Nat.lt_of_lt_of_le (Nat.pow_pos (by omega)) hq
  have hlq : fb + 1 ≤ (D / n).log2 := (Nat.le_log2 (by omega)).2 hq
  have core := fun T (hT : 2 ≤ T) => cutQ_rest (D := D) (n := n) (T := T) hn hT
  have hlo := Nat.log2_self_le (show D / n ≠ 0 by omega)
  have hhi : D / n < 2 ^ ((D / n).log2 + 1) := Nat.lt_log2_self
  have hDn1 : n * (D / n) ≤ D := Nat.mul_div_le D n
  have hDn2 : D < n * (D / n + 1) := by
    have h1 := Nat.div_add_mod D n
    have h2 := Nat.mod_lt D hn
    rw [Nat.mul_add, Nat.mul_one]
    omega
  unfold rndQ
  rcases Nat.eq_zero_or_pos τ with ht | ht
  · subst ht
    rw [Nat.pow_zero, Nat.mul_one, Nat.one_mul, Nat.div_one, log2_mul _ _ (by omega), log2_twice hq0 hs1]
    have hl : (2 * D * 2 ^ α / n).log2 = (D / n).log2 + 1 + α := by
      have hp : 0 < 2 ^ α := Nat.pow_pos (by omega)
      refine log2_is ((Nat.le_div_iff_mul_le hn).2 ?_) ((Nat.div_lt_iff_lt_mul hn).2 ?_)
      · rw [Nat.pow_add, Nat.pow_succ, Nat.mul_right_comm]
        refine Nat.mul_le_mul_right _ ?_
        have := Nat.mul_le_mul_left n hlo
        rw [Nat.mul_right_comm, Nat.mul_comm _ n]
        omega
      · rw [Nat.add_right_comm, Nat.pow_add, Nat.mul_right_comm _ (2 ^ α)]
        refine Nat.mul_lt_mul_of_pos_right ?_ hp
        have := Nat.mul_le_mul_left n (show D / n + 1 ≤ 2 ^ ((D / n).log2 + 1) from hhi)
        rw [Nat.pow_succ 2 ((D / n).log2 + 1), Nat.mul_right_comm, Nat.mul_comm _ n]
        omega
    rw [hl]
    obtain ⟨T, hT⟩ : ∃ T, (D / n).log2 + 1 + α - fb = T + α := ⟨(D / n).log2 + 1 - fb, by omega⟩
    rw [hT, Nat.pow_add, cutQ_scale, ← Nat.mul_assoc n, cutQ_scale, core T (by omega)]
  · obtain rfl : α = 0 := by omega
    rw [Nat.pow_zero, Nat.mul_one, Nat.mul_one]
    have hZ : (2 * (D / n) + (D % n != 0).toNat) / 2 ^ τ = 2 * D / (n * 2 ^ τ) := by
      obtain ⟨x, rfl⟩ : ∃ x, τ = x + 1 := ⟨τ - 1, by omega⟩
      have e1 : (2 : Nat) ^ (x + 1) = 2 * 2 ^ x := by rw [Nat.pow_succ, Nat.mul_comm]
      rw [e1, ← Nat.div_div_eq_div_mul, show n * (2 * 2 ^ x) = 2 * (n * 2 ^ x) from Nat.mul_left_comm _ _ _, Nat.mul_div_mul_left _ _ (by omega), ← Nat.div_div_eq_div_mul]
      congr 1
      omega
    rw [← hZ, log2_div, log2_twice hq0 hs1]
    generalize hd : (D / n).log2 + 1 - τ - fb = d
    rw [← Nat.pow_add, Nat.mul_assoc n, ← Nat.pow_add, core (τ + d) (by omega)]
theorem V.quo {k : FloatKind} {X Y : Nat} {s t : Bool} {A B : Nat} (hx : V k X (sgnI s A)) (hy : V k Y (sgnI t B)) (hB : 0 < B) (hc : rndQ k.format.fractionBits (A * 2 ^ pF k) B < capF k.format) : V k (fop .quo k X Y) (sgnI (Bool.xor s t) (rndQ k.format.fractionBits (A * 2 ^ pF k) B)) := by
  obtain ⟨s', m, i, e1, hi, ea⟩ := hx.out
  obtain ⟨t', n, j, e2, hj, eb⟩ := hy.out
  have hlp := lp_neg k
  have eA : A = m * 2 ^ (i - k.format.leastPlace).toNat := by
    have := congrArg Int.natAbs ea
    rwa [sgnI_abs, sgnI_abs] at this
  have eB : B = n * 2 ^ (j - k.format.leastPlace).toNat := by
    have := congrArg Int.natAbs eb
    rwa [sgnI_abs, sgnI_abs] at this
  have hn0 : n ≠ 0 := fun h => by rw [h, Nat.zero_mul] at eB; omega
  have hn : 0 < n := by omega
  have ht : t = t' := by
    rw [← eB] at eb
    exact sgnI_sign eb (by omega)
  subst ht
  have hv : ∀ R, rndQ k.format.fractionBits (A * 2 ^ pF k) B = R → sgnI (Bool.xor s t) R = sgnI (Bool.xor s' t) R := fun R hR => by
    by_cases h0 : A = 0
    · rw [h0, Nat.zero_mul, rndQ_zero] at hR
      rw [← hR, sgnI_zero, sgnI_zero]
    · have : s = s' := by
        rw [← eA] at ea
        exact sgnI_sign ea h0
      rw [this]
  rw [hv _ rfl]
  show V k ((((k.format.read X).quotient (k.format.fractionBits + 2) (k.format.read Y)).map k.format.write).getD (nanOf k)) _
  rw [e1, e2]
  have hq : (Ieee.Datum.number s' m i).quotient (k.format.fractionBits + 2) (.number t n j) = some (.number (Bool.xor s' t) (2 * (m <<< (k.format.fractionBits + 2 + n.log2 - m.log2) / n) + (m <<< (k.format.fractionBits + 2 + n.log2 - m.log2) % n != 0).toNat) (i - j - ((k.format.fractionBits + 2 + n.log2 - m.log2 : Nat) : Int) - 1)) := by
    simp only [Ieee.Datum.quotient]
    rw [if_neg hn0]
  rw [hq]
  refine V.of_nearest ?_ hc
  subst eA
  subst eB
  clear hv hq ea eb hx hy
  unfold pF at *
  generalize k.format.leastPlace = lp at *
  generalize k.format.fractionBits = fb at *
  generalize hmo : fb + 2 + n.log2 - m.log2 = more
  rw [Nat.shiftLeft_eq]
  by_cases hm : m = 0
  · subst hm
    simp [rndQ_zero]
  have hlm := Nat.log2_self_le hm
  have hln : n < 2 ^ (n.log2 + 1) := Nat.lt_log2_self
  have hDq : 2 ^ (fb + 1) ≤ m * 2 ^ more / n := by
    refine (Nat.le_div_iff_mul_le hn).2 ?_
    refine Nat.le_trans (Nat.mul_le_mul_left _ (Nat.le_of_lt hln)) ?_
    refine Nat.le_trans ?_ (Nat.mul_le_mul_right _ hlm)
    rw [← Nat.pow_add, ← Nat.pow_add]
    exact Nat.pow_le_pow_right (by omega) (by omega)
  rw [rndQ_rest hn hDq (by omega)]
  rw [show 2 * (m * 2 ^ more) * 2 ^ (i - j - (more : Int) - 1 - lp).toNat = m * 2 ^ (more + 1 + (i - j - (more : Int) - 1 - lp).toNat) by rw [Nat.pow_add, Nat.pow_succ, Nat.mul_comm 2 (m * 2 ^ more)]; simp only [Nat.mul_assoc]]
  rw [Nat.mul_assoc m, ← Nat.pow_add]
  refine rndQ_scale2 ?_
  omega
theorem V.cvt_up {X : Nat} {z : Int} (h : V .f32 X z) : V .f64 (fcvt .f32 .f64 X) (z * (2 ^ 925 : Nat)) := by
  obtain ⟨s, m, i, e, hi, rfl⟩ := h.out
  obtain ⟨n, j, h1, h2, h3⟩ := cvt_exact e
  refine ⟨⟨s, n, j, h1, h2, ?_⟩⟩
  have l64 : FloatKind.f64.format.leastPlace = -1074 := by decide
  have l32 : FloatKind.f32.format.leastPlace = -149 := by decide
  rw [l32] at hi ⊢
  rw [l64, h3]
  obtain ⟨M, hM⟩ : ∃ M : Nat, M = 925 := ⟨_, rfl⟩
  rw [← hM, show (i - -1074).toNat = (i - -149).toNat + M by omega, Nat.pow_add, ← Nat.mul_assoc]
  unfold sgnI
  cases s
  · simp
  · simp [Int.neg_mul]
theorem V.cvt_down {X : Nat} {z : Int} (h : V .f64 X z) (hc : rndQ 23 z.natAbs (2 ^ 925) < capF FloatKind.f32.format) : V .f32 (fcvt .f64 .f32 X) (rndZ 23 z (2 ^ 925)) ∧ fits .f64 .f32 X := by
  obtain ⟨s, m, i, e, hi, rfl⟩ := h.out
  have l64 : FloatKind.f64.format.leastPlace = -1074 := by decide
  have l32 : FloatKind.f32.format.leastPlace = -149 := by decide
  rw [l64] at hi
  rw [l64, sgnI_abs] at hc
  rw [l64, rndZ_sgn]
  have hv : V .f32 (FloatKind.f32.format.nearest s m i) (sgnI s (rndQ 23 (m * 2 ^ (i - -1074).toNat) (2 ^ 925))) := by
    refine V.of_nearest ?_ hc
    rw [l32]
    obtain ⟨M, hM⟩ : ∃ M : Nat, M = 925 := ⟨_, rfl⟩
    rw [← hM, show (2 : Nat) ^ M = 1 * 2 ^ M by rw [Nat.one_mul], show (2 : Nat) ^ (-149 - i).toNat = 1 * 2 ^ (-149 - i).toNat by rw [Nat.one_mul]]
    show rndQ 23 _ _ = _
    refine rndQ_scale2 ?_
    omega
  have e1 : FloatKind.f64.decode X = .number s m i := e
  obtain ⟨s2, m2, i2, e2, _⟩ := hv.out
  have e3 : FloatKind.f32.decode (FloatKind.f32.encode (.number s m i)) = .number s2 m2 i2 := e2
  have hb : floatToFloatBits .f64 X .f32 = some (FloatKind.f32.format.nearest s m i) := by
    unfold floatToFloatBits
    rw [if_neg (by decide), e1]
    simp only [e3]
    rfl
  refine ⟨?_, fun _ => by rw [hb]; rfl⟩
  unfold fcvt
  rw [hb]
  exact hv
theorem V.ofInt {k : FloatKind} {n : Int} (hc : rndQ k.format.fractionBits (n.natAbs * 2 ^ pF k) 1 < capF k.format) : V k (floatOfInt k n) (sgnI (decide (n < 0)) (rndQ k.format.fractionBits (n.natAbs * 2 ^ pF k) 1)) := by
  have hlp := lp_neg k
  refine V.of_nearest (k := k) (neg := decide (n < 0)) (mag := n.natAbs) (place := 0) ?_ hc
  unfold pF
  rw [show (k.format.leastPlace - 0).toNat = 0 by omega, show (0 - k.format.leastPlace) = -k.format.leastPlace by omega]
end Go.Proofs.Ytejpamlaacffaaa

/-
  Square roots of finite numbers; a swift evaluation of what finite numbers are worth. Conditions: none.
-/
namespace Go.Proofs.Ytejpamlaacffaaa
open Go Go.RowKit

theorem rootFrom_is (n : Nat) : ∀ todo root, root * root ≤ n → n < (root + 2 ^ todo) * (root + 2 ^ todo) → Ieee.Datum.rootFrom n todo root * Ieee.Datum.rootFrom n todo root ≤ n ∧ n < (Ieee.Datum.rootFrom n todo root + 1) * (Ieee.Datum.rootFrom n todo root + 1)
  | 0, root, h1, h2 => by
    unfold Ieee.Datum.rootFrom
    exact ⟨h1, h2⟩
  | todo + 1, root, h1, h2 => by
    unfold Ieee.Datum.rootFrom
    simp only [Nat.shiftLeft_eq, Nat.one_mul]
    have e : 2 ^ (todo + 1) = 2 ^ todo + 2 ^ todo := by rw [Nat.pow_succ]; omega
    rw [e, ← Nat.add_assoc] at h2
    split
    · rename_i h
      exact rootFrom_is n todo _ h h2
    · rename_i h
      exact rootFrom_is n todo _ h1 (by omega)
theorem pow_two2 (d : Nat) : 2 ^ d * 2 ^ d = 2 ^ (2 * d) := by rw [← Nat.pow_add]; congr 1; omega
theorem sq_lt {a b : Nat} (h : a * a < b * b) : a < b := by
  rcases Nat.lt_or_ge a b with h1 | h1
  · exact h1
  · have := Nat.mul_le_mul h1 h1
    omega
theorem sq_le {a b : Nat} (h : a * a ≤ b * b) : a ≤ b := by
  rcases Nat.lt_or_ge b a with h1 | h1
  · have := Nat.mul_lt_mul'' h1 h1
    omega
  · exact h1
def upS (N w d : Nat) : Nat := (decide ((2 * w + 1) * (2 * w + 1) * 2 ^ (2 * d) < 4 * N) || (decide ((2 * w + 1) * (2 * w + 1) * 2 ^ (2 * d) = 4 * N) && decide (w % 2 = 1))).toNat
/-- The core: a root with a digit for what is left over. -/
theorem cutQ_root {n w0 w U : Nat} (h1 : w0 * w0 ≤ n) (h2 : n < (w0 + 1) * (w0 + 1)) (h3 : w * w * 2 ^ (2 * (U + 1)) ≤ n) (h4 : n < (w + 1) * (w + 1) * 2 ^ (2 * (U + 1))) : cutQ (2 * w0 + (w0 * w0 != n).toNat) (2 ^ (U + 2)) = w + upS n w (U + 1) := by
  generalize hs : (w0 * w0 != n).toNat = s
  have hs1 : s = 0 ∧ w0 * w0 = n ∨ s = 1 ∧ w0 * w0 < n := by
    rw [← hs]
    by_cases h : w0 * w0 = n
    · left
      refine ⟨?_, h⟩
      rw [h]; simp
    · right
      refine ⟨?_, by omega⟩
      have : (w0 * w0 != n) = true := by rw [bne_iff_ne]; exact h
      rw [this]; rfl
  have eU : 2 ^ (2 * (U + 1)) = (2 * 2 ^ U) * (2 * 2 ^ U) := by rw [← pow_two2, Nat.pow_succ, Nat.mul_comm (2 ^ U) 2]
  have eW : 2 ^ (U + 2) = 2 * (2 * 2 ^ U) := by rw [Nat.pow_succ, Nat.pow_succ]; omega
  unfold upS
  rw [eU] at h3 h4 ⊢
  rw [eW]
  have hW : 0 < 2 ^ U := Nat.pow_pos (by omega)
  generalize 2 ^ U = W at *
  have a1 : w * (2 * W) ≤ w0 := by
    have : w * (2 * W) < w0 + 1 := sq_lt (by rw [Nat.mul_mul_mul_comm]; omega)
    omega
  have a2 : w0 < (w + 1) * (2 * W) := sq_lt (by rw [Nat.mul_mul_mul_comm]; omega)
  rw [Nat.add_mul, Nat.one_mul] at a2
  have d1 : (2 * w0 + s) / (2 * (2 * W)) = w := by
    rw [Nat.div_eq_iff (by omega)]
    have : w * (2 * (2 * W)) = 2 * (w * (2 * W)) := Nat.mul_left_comm _ _ _
    omega
  have m1 : (2 * w0 + s) % (2 * (2 * W)) = 2 * (w0 - w * (2 * W)) + s := by
    have h := Nat.div_add_mod (2 * w0 + s) (2 * (2 * W))
    have : 2 * (2 * W) * w = 2 * (w * (2 * W)) := by rw [Nat.mul_assoc, Nat.mul_comm (2 * W)]
    rw [d1, this] at h
    omega
  unfold cutQ
  rw [d1, m1]
  -- the middle
  have eh : (2 * w + 1) * (2 * w + 1) * (2 * W * (2 * W)) = 4 * ((w * (2 * W) + W) * (w * (2 * W) + W)) := by
    have : (2 * w + 1) * (2 * W) = 2 * (w * (2 * W) + W) := by
      rw [Nat.add_mul, Nat.one_mul, Nat.mul_add, Nat.mul_assoc 2 w]
    rw [Nat.mul_mul_mul_comm, this, Nat.mul_mul_mul_comm]
  rw [eh]
  generalize hh : w * (2 * W) + W = h at *
  have b1 : h * h < n ↔ (h < w0 ∨ (h = w0 ∧ w0 * w0 < n)) := by
    constructor
    · intro q
      have : h < w0 + 1 := sq_lt (by omega)
      by_cases e : h = w0
      · subst e; exact .inr ⟨rfl, q⟩
      · left; omega
    · rintro (q | ⟨rfl, q⟩)
      · have := Nat.mul_lt_mul'' q q
        omega
      · exact q
  have b2 : h * h = n ↔ (h = w0 ∧ w0 * w0 = n) := by
    constructor
    · intro q
      have q1 : h < w0 + 1 := sq_lt (by omega)
      have q2 : w0 ≤ h := sq_le (by omega)
      obtain rfl : h = w0 := by omega
      exact ⟨rfl, q⟩
    · rintro ⟨rfl, q⟩
      exact q
  have c1 : (2 * (2 * W) < 2 * (2 * (w0 - w * (2 * W)) + s)) ↔ 4 * (h * h) < 4 * n := by
    rw [show (4 * (h * h) < 4 * n) ↔ h * h < n by omega, b1]
    omega
  have c2 : (2 * (2 * W) = 2 * (2 * (w0 - w * (2 * W)) + s)) ↔ 4 * (h * h) = 4 * n := by
    rw [show (4 * (h * h) = 4 * n) ↔ h * h = n by omega, b2]
    omega
  rw [decide_eq_decide.2 c1, decide_eq_decide.2 c2]
theorem upS_scale {n w d g : Nat} (hg : g ≤ d) : upS (n * 2 ^ (2 * g)) w d = upS n w (d - g) := by
  have e : 2 ^ (2 * d) = 2 ^ (2 * (d - g)) * 2 ^ (2 * g) := by rw [← Nat.pow_add]; congr 1; omega
  have hp : 0 < 2 ^ (2 * g) := Nat.pow_pos (by omega)
  unfold upS
  rw [e, ← Nat.mul_assoc, ← Nat.mul_assoc]
  have e1 : decide ((2 * w + 1) * (2 * w + 1) * 2 ^ (2 * (d - g)) * 2 ^ (2 * g) < 4 * n * 2 ^ (2 * g)) = decide ((2 * w + 1) * (2 * w + 1) * 2 ^ (2 * (d - g)) < 4 * n) := by
    rw [decide_eq_decide]
    exact Nat.mul_lt_mul_right hp
  have e2 : decide ((2 * w + 1) * (2 * w + 1) * 2 ^ (2 * (d - g)) * 2 ^ (2 * g) = 4 * n * 2 ^ (2 * g)) = decide ((2 * w + 1) * (2 * w + 1) * 2 ^ (2 * (d - g)) = 4 * n) := by
    rw [decide_eq_decide]
    exact Nat.mul_left_inj (by omega)
  rw [e1, e2]
theorem V.sqrt {X a w d : Nat} (hx : V .f64 X (sgnI false a)) (ha : 0 < a) (h1 : w * w * 2 ^ (2 * d) ≤ a * 2 ^ pF .f64) (h2 : a * 2 ^ pF .f64 < (w + 1) * (w + 1) * 2 ^ (2 * d)) (h3 : 2 ^ 52 ≤ w) (h4 : w < 2 ^ 53) (hc : (w + upS (a * 2 ^ pF .f64) w d) * 2 ^ d < capF FloatKind.f64.format) : V .f64 (fsqrt X) (sgnI false ((w + upS (a * 2 ^ pF .f64) w d) * 2 ^ d)) := by
  have hQ : pF .f64 = 1074 := by decide
  generalize pF .f64 = Q at *
  obtain ⟨s, m, i, e1, hi, ea⟩ := hx.out
  have hrf := read_form FloatKind.f64.format X e1
  have hm53 : m < 2 ^ 53 := hrf.2.1
  have l64 : FloatKind.f64.format.leastPlace = -1074 := by decide
  rw [l64] at hi ea
  have eA : a = m * 2 ^ (i - -1074).toNat := by
    have := congrArg Int.natAbs ea
    rwa [sgnI_abs, sgnI_abs] at this
  have hs : false = s := by
    rw [← eA] at ea
    exact sgnI_sign ea (by omega)
  subst hs
  have hm : m ≠ 0 := fun h => by rw [h, Nat.zero_mul] at eA; omega
  unfold fsqrt Ieee.Format.sqrt
  rw [e1]
  unfold Ieee.Datum.root
  simp only [hm, Bool.false_eq_true, if_false, Option.map_some, Option.getD_some]
  rw [show FloatKind.f64.format.fractionBits + 2 = 54 from rfl]
  generalize hmo : 2 * 54 - m.log2 + ((i - ((2 * 54 - m.log2 : Nat) : Int)) % 2).toNat = more
  have hlm : m.log2 < 53 := by rw [Nat.log2_lt hm]; exact hm53
  have hmore : 108 - m.log2 ≤ more ∧ more ≤ 109 - m.log2 := by omega
  have hpar : (i - (more : Int)) % 2 = 0 := by omega
  rw [Nat.shiftLeft_eq]
  generalize hn : m * 2 ^ more = n
  have hn1 : 2 ^ 108 ≤ n := by
    rw [← hn]
    refine Nat.le_trans ?_ (Nat.mul_le_mul_right _ (Nat.log2_self_le hm))
    rw [← Nat.pow_add]
    exact Nat.pow_le_pow_right (by omega) (by omega)
  have hn0 : n ≠ 0 := by omega
  have hr := rootFrom_is n (n.log2 / 2 + 1) 0 (Nat.zero_le _) (by
    have h := @Nat.lt_log2_self n
    rw [Nat.zero_add, pow_two2]
    exact Nat.lt_of_lt_of_le h (Nat.pow_le_pow_right (by omega) (by omega)))
  generalize Ieee.Datum.rootFrom n (n.log2 / 2 + 1) 0 = w0 at *
  obtain ⟨hr1, hr2⟩ := hr
  -- a * 2 ^ pF .f64 = n * 4 ^ g
  obtain ⟨g, hg⟩ : ∃ g : Nat, i + 2 * (Q : Int) - (more : Int) = 2 * (g : Int) := ⟨((i + 2 * (Q : Int) - (more : Int)) / 2).toNat, by omega⟩
  have hg1 : 1 ≤ g := by omega
  have hN : a * 2 ^ Q = n * 2 ^ (2 * g) := by
    rw [eA, ← hn, Nat.mul_assoc, Nat.mul_assoc, ← Nat.pow_add, ← Nat.pow_add]
    congr 2
    omega
  rw [hN] at h1 h2 hc ⊢
  have hdg : g + 2 ≤ d := by
    have b1 : 2 ^ (108 + 2 * g) < 2 ^ (2 * 53 + 2 * d) := by
      rw [Nat.pow_add, Nat.pow_add 2 (2 * 53), ← pow_two2 53]
      refine Nat.lt_of_le_of_lt (Nat.mul_le_mul_right _ hn1) (Nat.lt_of_lt_of_le h2 (Nat.mul_le_mul_right _ (Nat.mul_le_mul h4 h4)))
    have := (Nat.pow_lt_pow_iff_right (by omega : 1 < 2)).1 b1
    omega
  obtain ⟨U, rfl⟩ : ∃ U, d = g + (U + 1) := ⟨d - g - 1, by omega⟩
  have hp : 0 < 2 ^ (2 * g) := Nat.pow_pos (by omega)
  have e3 : 2 ^ (2 * (g + (U + 1))) = 2 ^ (2 * (U + 1)) * 2 ^ (2 * g) := by rw [← Nat.pow_add]; congr 1; omega
  rw [e3, ← Nat.mul_assoc] at h1 h2
  have h1' := Nat.le_of_mul_le_mul_right h1 hp
  have h2' := Nat.lt_of_mul_lt_mul_right h2
  have core := cutQ_root hr1 hr2 h1' h2'
  rw [upS_scale (by omega), show g + (U + 1) - g = U + 1 by omega] at hc ⊢
  refine V.of_nearest ?_ hc
  rw [l64]
  have e4 : ((i - (more : Int)) / 2 - 1 - -1074).toNat = g - 1 := by omega
  have e5 : (-1074 - ((i - (more : Int)) / 2 - 1)).toNat = 0 := by omega
  rw [e4, e5, Nat.pow_zero]
  show rndQ 52 _ 1 = _
  unfold rndQ
  rw [Nat.div_one, Nat.one_mul]
  have hs1 : (w0 * w0 != n).toNat ≤ 1 := by cases (w0 * w0 != n) <;> decide
  have hw0 : w * 2 ^ (U + 1) ≤ w0 := by
    have : w * 2 ^ (U + 1) < w0 + 1 := sq_lt (by rw [Nat.mul_mul_mul_comm, pow_two2]; omega)
    omega
  have hw1 : w0 < (w + 1) * 2 ^ (U + 1) := sq_lt (by rw [Nat.mul_mul_mul_comm, pow_two2]; omega)
  have hlow : 2 ^ (52 + (U + 1)) ≤ w0 := by
    rw [Nat.pow_add]
    exact Nat.le_trans (Nat.mul_le_mul_right _ h3) hw0
  have hhigh : w0 < 2 ^ (53 + (U + 1)) := by
    rw [Nat.pow_add]
    exact Nat.lt_of_lt_of_le hw1 (Nat.mul_le_mul_right _ h4)
  have hw00 : 0 < w0 := Nat.lt_of_lt_of_le (Nat.pow_pos (by omega)) hlow
  have hlw : w0.log2 = 52 + (U + 1) := log2_is hlow (by rw [show 52 + (U + 1) + 1 = 53 + (U + 1) by omega]; exact hhigh)
  rw [log2_mul _ _ (by omega), log2_twice hw00 hs1, hlw, show 52 + (U + 1) + 1 + (g - 1) - 52 = U + 2 + (g - 1) by omega, Nat.pow_add 2 (U + 2), cutQ_scale, core, ← Nat.pow_add, show U + 2 + (g - 1) = g + (U + 1) by omega]
end Go.Proofs.Ytejpamlaacffaaa

/-
  A swift evaluation of what finite numbers are worth: programs that hand on sign, worth and a guess of its size. Conditions: none.
-/
namespace Go.Proofs.Ytejpamlaacffaaa
open Go Go.RowKit

def bc (b x y : Bool) : Bool := Bool.casesOn (motive := fun _ => Bool) b y x
theorem bc_true (x y : Bool) : bc true x y = x := rfl
theorem bc_false (x y : Bool) : bc false x y = y := rfl
/-- A choice between numbers. -/
def nc (b : Bool) (x y : Nat) : Nat := Bool.casesOn (motive := fun _ => Nat) b y x
theorem nc_true (x y : Nat) : nc true x y = x := rfl
theorem nc_false (x y : Nat) : nc false x y = y := rfl
def force (n : Nat) (k : Nat → Bool) : Bool := Nat.rec (motive := fun _ => Bool) (k 0) (fun m _ => k (Nat.succ m)) n
theorem force_eq (n : Nat) (k : Nat → Bool) : force n k = k n := by cases n <;> rfl
/-- N / 2 ^ T, to the nearest, to the even. -/
def rne (N T : Nat) : Nat := Nat.shiftRight (Nat.add N (Nat.shiftRight (Nat.add (Nat.sub (Nat.shiftLeft 1 T) 1) (Nat.land (Nat.shiftRight N T) 1)) 1)) T
theorem rne_eq (N T : Nat) : rne N T = cutQ N (2 ^ T) := by
  have e : rne N T = (N + (1 <<< T - 1 + ((N >>> T) &&& 1)) >>> 1) >>> T := rfl
  rw [e, Nat.and_one_is_mod, Nat.shiftRight_eq_div_pow, Nat.shiftRight_eq_div_pow, Nat.shiftRight_eq_div_pow, Nat.shiftLeft_eq, Nat.one_mul, Nat.pow_one]
  unfold cutQ
  have hT : 2 ^ T = 1 ∨ ∃ W, 0 < W ∧ 2 ^ T = 2 * W := by
    cases T with
    | zero => exact .inl rfl
    | succ U => exact .inr ⟨2 ^ U, Nat.pow_pos (by omega), by rw [Nat.pow_succ, Nat.mul_comm]⟩
  generalize 2 ^ T = B at *
  have h1 := Nat.div_add_mod N B
  have hB : 0 < B := by omega
  have h2 := Nat.mod_lt N hB
  generalize N / B = q at *
  generalize N % B = r at *
  rw [← h1, Nat.add_assoc, Nat.mul_add_div hB]
  rcases hT with rfl | ⟨W, hW, rfl⟩
  · obtain rfl : r = 0 := by omega
    have : (1 - 1 + q % 2) / 2 = 0 := by omega
    rw [this]
    simp
  · congr 1
    have hs : (2 * W - 1 + q % 2) / 2 = W - 1 + q % 2 := by omega
    rw [hs]
    by_cases c1 : 2 * W < 2 * r
    · rw [decide_eq_true c1, Bool.true_or]
      show _ = 1
      rw [Nat.div_eq_iff (by omega)]
      omega
    · rw [decide_eq_false c1, Bool.false_or]
      by_cases c2 : 2 * W = 2 * r ∧ q % 2 = 1
      · rw [decide_eq_true c2.1, decide_eq_true c2.2]
        show _ = 1
        rw [Nat.div_eq_iff (by omega)]
        omega
      · have : (decide (2 * W = 2 * r) && decide (q % 2 = 1)) = false := by
          rw [Bool.and_eq_false_iff, decide_eq_false_iff_not, decide_eq_false_iff_not]
          omega
        rw [this]
        show _ = 0
        rw [Nat.div_eq_zero_iff]
        right
        omega
/-- The digits ahead of place c. -/
def seek (A c : Nat) (k : Nat → Bool) (f d : Nat) : Bool := Nat.rec (motive := fun _ => Nat → Bool) (fun _ => false) (fun _ ih d => force (Nat.shiftRight A (Nat.add d c)) fun g => bc (Nat.beq g 0) (bc (Nat.beq d 0) (k 0) (ih (Nat.sub d 1))) (bc (Nat.beq g 1) (k d) (ih (Nat.succ d)))) f d
theorem seek_succ (A c : Nat) (k : Nat → Bool) (f d : Nat) : seek A c k (f + 1) d = force (Nat.shiftRight A (Nat.add d c)) fun g => bc (Nat.beq g 0) (bc (Nat.beq d 0) (k 0) (seek A c k f (Nat.sub d 1))) (bc (Nat.beq g 1) (k d) (seek A c k f (Nat.succ d))) := rfl
theorem seek_spec {A c : Nat} {k : Nat → Bool} : ∀ f d, seek A c k f d = true → k (A.log2 - c) = true
  | 0, _, h => by cases h
  | f + 1, d, h => by
    have hg : Nat.shiftRight A (Nat.add d c) = A / 2 ^ (d + c) := Nat.shiftRight_eq_div_pow A (d + c)
    have hp : 0 < 2 ^ (d + c) := Nat.pow_pos (by omega)
    rw [seek_succ, force_eq, hg] at h
    cases h0 : Nat.beq (A / 2 ^ (d + c)) 0 <;> rw [h0] at h
    · simp only [bc_false] at h
      cases h1 : Nat.beq (A / 2 ^ (d + c)) 1 <;> rw [h1] at h
      · exact seek_spec f _ h
      · have h1 := (Nat.div_eq_iff hp).1 (Nat.eq_of_beq_eq_true h1)
        have h2 : A.log2 = d + c := log2_is (by omega) (by rw [Nat.pow_succ]; omega)
        rw [h2, Nat.add_sub_cancel]
        exact h
    · simp only [bc_true] at h
      have h0 := Nat.eq_of_beq_eq_true h0
      cases hd : Nat.beq d 0 <;> rw [hd] at h
      · exact seek_spec f _ h
      · obtain rfl : d = 0 := Nat.eq_of_beq_eq_true hd
        have h1 : A < 2 ^ (0 + c) := by
          rcases Nat.div_eq_zero_iff.1 h0 with h | h
          · omega
          · exact h
        have h2 : A.log2 - c = 0 := by
          by_cases hA : A = 0
          · subst hA; simp
          · have := (Nat.log2_lt hA).2 h1
            omega
        rw [h2]
        exact h
abbrev KK : Type := Bool → Nat → Nat → Bool
/-- Shifts a number of few digits up. -/
def norm (A fb : Nat) (k : Nat → Bool) (f j : Nat) : Bool := Nat.rec (motive := fun _ => Nat → Bool) (fun _ => false) (fun _ ih j => bc (Nat.beq (Nat.shiftRight A (Nat.sub fb j)) 1) (k j) (ih (Nat.succ j))) f j
theorem norm_succ (A fb : Nat) (k : Nat → Bool) (f j : Nat) : norm A fb k (f + 1) j = bc (Nat.beq (Nat.shiftRight A (Nat.sub fb j)) 1) (k j) (norm A fb k f (Nat.succ j)) := rfl
theorem norm_some {A fb : Nat} {k : Nat → Bool} : ∀ f j, norm A fb k f j = true → ∃ x, k x = true
  | 0, _, h => by cases h
  | f + 1, j, h => by
    rw [norm_succ] at h
    cases hb : Nat.beq (Nat.shiftRight A (Nat.sub fb j)) 1 <;> rw [hb] at h
    · exact norm_some f _ h
    · exact ⟨_, h⟩
/-- A * 2 ^ x, rounded. -/
def rnM (fb Y : Nat) (s : Bool) (A x g : Nat) (K : KK) : Bool :=
  force A fun A => bc (Nat.beq A 0) (K s 0 0) (bc (Nat.beq (Nat.shiftRight A fb) 0)
    (norm A fb (fun k => bc (Nat.ble k x) (force (Nat.shiftLeft A k) fun m => force (Nat.sub x k) fun y => bc (Nat.ble x Y) (K s m y) false) false) 60 1)
    (seek A fb (fun T => force T fun T => force (rne A T) fun m => force (Nat.add x T) fun y => bc (Nat.ble y Y) (K s m y) false) 60 g))
theorem rndQ_big {fb A x : Nat} (h : 2 ^ fb ≤ A) : rndQ fb (A * 2 ^ x) 1 = cutQ A (2 ^ (A.log2 - fb)) * 2 ^ (x + (A.log2 - fb)) := by
  have h0 : A ≠ 0 := by
    have := Nat.pow_pos (n := fb) (show 0 < 2 by omega)
    omega
  have hl : fb ≤ A.log2 := (Nat.le_log2 h0).2 h
  unfold rndQ
  rw [Nat.div_one, log2_mul _ _ h0, Nat.one_mul, show A.log2 + x - fb = A.log2 - fb + x by omega, Nat.pow_add 2 (A.log2 - fb) x, cutQ_scale, Nat.add_comm x, Nat.pow_add]
theorem rndQ_exact {fb m s : Nat} (hm : m < 2 ^ (fb + 1)) : rndQ fb (m * 2 ^ s) 1 = m * 2 ^ s := by
  by_cases h0 : m = 0
  · subst h0; rw [Nat.zero_mul, rndQ_zero]
  unfold rndQ
  rw [Nat.div_one, log2_mul _ _ h0, Nat.one_mul]
  have hl : m.log2 < fb + 1 := by rw [Nat.log2_lt h0]; exact hm
  obtain ⟨d, hd⟩ : ∃ d, m.log2 + s - fb = d := ⟨_, rfl⟩
  rw [hd]
  obtain ⟨w, rfl⟩ : ∃ w, s = w + d := ⟨s - d, by omega⟩
  rw [Nat.pow_add, ← Nat.mul_assoc]
  congr 1
  have := cutQ_scale (m * 2 ^ w) 1 d
  rw [Nat.one_mul] at this
  rw [this]
  unfold cutQ
  simp [Nat.mod_one]
theorem ble_or {a b : Nat} {x : Bool} (h : bc (Nat.ble a b) x false = true) : a ≤ b ∧ x = true := by
  cases hb : Nat.ble a b <;> rw [hb] at h
  · cases h
  · exact ⟨Nat.le_of_ble_eq_true hb, h⟩
theorem rnM_spec {fb Y C : Nat} {s : Bool} {A x g : Nat} {K : KK} (hC : 2 ^ (fb + 1 + Y) < C) (hh : rnM fb Y s A x g K = true) : ∃ m y, rndQ fb (A * 2 ^ x) 1 = m * 2 ^ y ∧ m * 2 ^ y < C ∧ K s m y = true := by
  unfold rnM at hh
  rw [force_eq] at hh
  cases h0 : Nat.beq A 0 <;> rw [h0] at hh
  · rw [bc_false] at hh
    have hsr : Nat.shiftRight A fb = A / 2 ^ fb := Nat.shiftRight_eq_div_pow _ _
    cases h1 : Nat.beq (Nat.shiftRight A fb) 0 <;> rw [h1] at hh
    · rw [bc_false] at hh
      have hA : 2 ^ fb ≤ A := by
        rcases Nat.lt_or_ge A (2 ^ fb) with q | q
        · rw [hsr, Nat.div_eq_of_lt q] at h1; cases h1
        · exact q
      have hA0 : A ≠ 0 := by
        have := Nat.pow_pos (n := fb) (show 0 < 2 by omega)
        omega
      have h2 := seek_spec _ _ hh
      rw [force_eq, force_eq, force_eq, rne_eq] at h2
      obtain ⟨h3, h4⟩ := ble_or h2
      refine ⟨_, _, rndQ_big hA, Nat.lt_of_le_of_lt ?_ hC, h4⟩
      rw [Nat.pow_add 2 (fb + 1) Y]
      refine Nat.mul_le_mul ?_ (Nat.pow_le_pow_right (n := 2) (Nat.succ_pos 1) h3)
      rw [← cut_cutQ false]
      refine cut_even_le ?_
      rw [← Nat.pow_add]
      have h5 : A < 2 ^ (A.log2 + 1) := Nat.lt_log2_self
      have h6 : fb ≤ A.log2 := (Nat.le_log2 hA0).2 hA
      rw [show fb + 1 + (A.log2 - fb) = A.log2 + 1 by omega]
      exact Nat.le_of_lt h5
    · rw [bc_true] at hh
      have hA : A < 2 ^ fb := by
        have := Nat.eq_of_beq_eq_true h1
        rw [hsr] at this
        rcases Nat.div_eq_zero_iff.1 this with q | q
        · have := Nat.pow_pos (n := fb) (show 0 < 2 by omega)
          omega
        · exact q
      obtain ⟨k, h2⟩ := norm_some _ _ hh
      obtain ⟨h3, h4⟩ := ble_or h2
      rw [force_eq, force_eq] at h4
      obtain ⟨h5, h6⟩ := ble_or h4
      have e : A * 2 ^ x = Nat.shiftLeft A k * 2 ^ (Nat.sub x k) := by
        show _ = A <<< k * 2 ^ (x - k)
        rw [Nat.shiftLeft_eq, Nat.mul_assoc, ← Nat.pow_add, show k + (x - k) = x by omega]
      have hlt : A * 2 ^ x < C := by
        refine Nat.lt_of_le_of_lt ?_ hC
        rw [Nat.pow_add 2 (fb + 1) Y, Nat.pow_succ]
        refine Nat.mul_le_mul (by omega) (Nat.pow_le_pow_right (n := 2) (Nat.succ_pos 1) h5)
      refine ⟨_, _, (rndQ_exact (by rw [Nat.pow_succ]; omega)).trans e, ?_, h6⟩
      rw [← e]
      exact hlt
  · have : A = 0 := Nat.eq_of_beq_eq_true h0
    subst this
    refine ⟨0, 0, by rw [Nat.zero_mul, Nat.zero_mul, rndQ_zero], ?_, hh⟩
    rw [Nat.zero_mul]
    exact Nat.lt_of_le_of_lt (Nat.zero_le _) hC
def bx (s t : Bool) : Bool := bc s (bc t false true) t
theorem bx_eq (s t : Bool) : bx s t = Bool.xor s t := by cases s <;> cases t <;> rfl
/-- A sign, made sure of. -/
def sgK (s : Bool) (k : Bool → Bool) : Bool := Bool.casesOn (motive := fun _ => Bool) s (k false) (k true)
theorem sgK_eq (s : Bool) (k : Bool → Bool) : sgK s k = k s := by cases s <;> rfl
/-- The sum of numbers of one place. -/
def adM (fb Y : Nat) (s1 : Bool) (a : Nat) (s2 : Bool) (b x g : Nat) (K : KK) : Bool :=
  bc (bx s1 s2) (bc (Nat.ble b a) (rnM fb Y s1 (Nat.sub a b) x g K) (rnM fb Y s2 (Nat.sub b a) x g K)) (rnM fb Y s1 (Nat.add a b) x g K)
def addK (fb Y : Nat) (s1 : Bool) (m1 x1 : Nat) (s2 : Bool) (m2 x2 : Nat) (K : KK) : Bool :=
  bc (Nat.beq m1 0) (adM fb Y s2 m2 s2 0 x2 0 K) (bc (Nat.beq m2 0) (adM fb Y s1 m1 s1 0 x1 0 K)
    (bc (Nat.ble x2 x1) (force (Nat.sub x1 x2) fun g => force (Nat.shiftLeft m1 g) fun a => adM fb Y s1 a s2 m2 x2 g K) (force (Nat.sub x2 x1) fun g => force (Nat.shiftLeft m2 g) fun b => adM fb Y s1 m1 s2 b x1 g K)))
def mulK (fb P Y : Nat) (s1 : Bool) (m1 x1 : Nat) (s2 : Bool) (m2 x2 : Nat) (K : KK) : Bool :=
  sgK (bx s1 s2) fun s => bc (Nat.beq (Nat.mul m1 m2) 0) (K s 0 0) (force (Nat.add x1 x2) fun x => bc (Nat.ble P x) (rnM fb Y s (Nat.mul m1 m2) (Nat.sub x P) fb K) false)
def cutK (A D : Nat) (k : Nat → Bool) : Bool := force (Nat.div A D) fun z => force (Nat.mul 2 (Nat.sub A (Nat.mul D z))) fun r => force (nc (Nat.ble r D) (nc (Nat.beq r D) (Nat.add z (Nat.land z 1)) z) (Nat.succ z)) k
theorem cutK_eq (A D : Nat) (k : Nat → Bool) : cutK A D k = k (cutQ A D) := by
  unfold cutK
  rw [force_eq, force_eq, force_eq]
  congr 1
  have h := Nat.div_add_mod A D
  have e : Nat.mul 2 (Nat.sub A (Nat.mul D (Nat.div A D))) = 2 * (A % D) := by
    show 2 * (A - D * (A / D)) = _
    omega
  rw [e]
  unfold cutQ
  show nc (Nat.ble (2 * (A % D)) D) (nc (Nat.beq (2 * (A % D)) D) (A / D + ((A / D) &&& 1)) (A / D)) (A / D + 1) = _
  rw [Nat.and_one_is_mod]
  generalize 2 * (A % D) = r
  generalize A / D = z
  by_cases c1 : D < r
  · have : Nat.ble r D = false := by
      cases h : Nat.ble r D
      · rfl
      · have := Nat.le_of_ble_eq_true h; omega
    rw [this, decide_eq_true c1]
    rfl
  · rw [Nat.ble_eq_true_of_le (by omega), decide_eq_false c1, Bool.false_or]
    by_cases c2 : D = r
    · subst c2
      rw [show Nat.beq D D = true from by rw [Nat.beq_eq]]
      simp only [nc_true, decide_true, Bool.true_and]
      congr 1
      rcases Nat.mod_two_eq_zero_or_one z with h | h <;> rw [h] <;> rfl
    · have : Nat.beq r D = false := by
        cases h : Nat.beq r D
        · rfl
        · have := Nat.eq_of_beq_eq_true h; omega
      rw [this, decide_eq_false c2]
      simp [nc_true, nc_false]
def quoK (fb P Y : Nat) (s1 : Bool) (m1 x1 : Nat) (s2 : Bool) (m2 x2 : Nat) (K : KK) : Bool :=
  bc (Nat.beq m2 0) false (sgK (bx s1 s2) fun s => bc (Nat.beq m1 0) (K s 0 0) (force (Nat.shiftLeft m1 (Nat.add fb 2)) fun D => force (Nat.div D m2) fun q => bc (Nat.ble (Nat.add (Nat.add fb 2) x2) (Nat.add x1 P)) (bc (Nat.beq (Nat.shiftRight q fb) 0) false
    (seek q fb (fun T => force T fun T => cutK D (Nat.shiftLeft m2 T) fun m => force (Nat.add (Nat.sub (Nat.add x1 P) (Nat.add (Nat.add fb 2) x2)) T) fun y => bc (Nat.ble y Y) (K s m y) false) 60 2)) false))
/-- One step towards the root. -/
def newt (M : Nat) (k : Nat → Bool) (f w : Nat) : Bool := Nat.rec (motive := fun _ => Nat → Bool) k (fun _ ih w => force (Nat.shiftRight (Nat.add w (Nat.div M w)) 1) fun x => bc (Nat.ble w x) (k w) (ih x)) f w
theorem newt_succ (M : Nat) (k : Nat → Bool) (f w : Nat) : newt M k (f + 1) w = force (Nat.shiftRight (Nat.add w (Nat.div M w)) 1) fun x => bc (Nat.ble w x) (k w) (newt M k f x) := rfl
theorem newt_some {M : Nat} {k : Nat → Bool} : ∀ f w, newt M k f w = true → ∃ x, k x = true
  | 0, w, h => ⟨w, h⟩
  | f + 1, w, h => by
    rw [newt_succ, force_eq] at h
    cases hb : Nat.ble w (Nat.shiftRight (Nat.add w (Nat.div M w)) 1) <;> rw [hb] at h
    · exact newt_some f _ h
    · exact ⟨_, h⟩
/-- The root of a number that is not negative. -/
def lo53 : Nat := 4503599627370496
def hi53 : Nat := 9007199254740992
def seek4 (m z : Nat) (k : Nat → Nat → Bool) (f d : Nat) : Bool := Nat.rec (motive := fun _ => Nat → Bool) (fun _ => false) (fun _ ih d => bc (Nat.ble (Nat.add d d) z) (force (Nat.shiftLeft m (Nat.sub z (Nat.add d d))) fun M => force (Nat.shiftRight M 104) fun g => bc (Nat.beq g 0) (ih (Nat.sub d 1)) (bc (Nat.ble g 3) (k d M) (ih (Nat.succ d)))) (ih (Nat.sub d 1))) f d
theorem seek4_succ (m z : Nat) (k : Nat → Nat → Bool) (f d : Nat) : seek4 m z k (f + 1) d = bc (Nat.ble (Nat.add d d) z) (force (Nat.shiftLeft m (Nat.sub z (Nat.add d d))) fun M => force (Nat.shiftRight M 104) fun g => bc (Nat.beq g 0) (seek4 m z k f (Nat.sub d 1)) (bc (Nat.ble g 3) (k d M) (seek4 m z k f (Nat.succ d)))) (seek4 m z k f (Nat.sub d 1)) := rfl
theorem seek4_some {m z : Nat} {k : Nat → Nat → Bool} : ∀ f d, seek4 m z k f d = true → ∃ x, 2 * x ≤ z ∧ k x (m * 2 ^ (z - 2 * x)) = true
  | 0, _, h => by cases h
  | f + 1, d, h => by
    rw [seek4_succ] at h
    cases hz : Nat.ble (Nat.add d d) z <;> rw [hz] at h
    · exact seek4_some f _ h
    rw [bc_true, force_eq, force_eq] at h
    have hle : d + d ≤ z := Nat.le_of_ble_eq_true hz
    have e : Nat.shiftLeft m (Nat.sub z (Nat.add d d)) = m * 2 ^ (z - 2 * d) := by
      show m <<< (z - (d + d)) = _
      rw [Nat.shiftLeft_eq, show d + d = 2 * d by omega]
    rw [e] at h
    cases hb : Nat.beq (Nat.shiftRight (m * 2 ^ (z - 2 * d)) 104) 0 <;> rw [hb] at h
    · rw [bc_false] at h
      cases hc : Nat.ble (Nat.shiftRight (m * 2 ^ (z - 2 * d)) 104) 3 <;> rw [hc] at h
      · exact seek4_some f _ h
      · exact ⟨d, by omega, h⟩
    · exact seek4_some f _ h
def sqrtK (P Y : Nat) (m x : Nat) (K : KK) : Bool :=
  bc (Nat.beq m 0) (K false 0 0) (force (Nat.add x P) fun z => seek4 m z (fun d M => force d fun d =>
    newt M (fun w => bc (Nat.ble lo53 w) (bc (Nat.ble hi53 w) false (bc (Nat.ble (Nat.mul w w) M) (bc (Nat.ble (Nat.mul (Nat.succ w) (Nat.succ w)) M) false
      (force (Nat.mul (Nat.succ (Nat.mul 2 w)) (Nat.succ (Nat.mul 2 w))) fun t => force (Nat.mul 4 M) fun N4 => force (nc (Nat.ble N4 t) (nc (Nat.beq t N4) (Nat.add w (Nat.land w 1)) w) (Nat.succ w)) fun R => bc (Nat.ble d Y) (K false R d) false)) false)) false) 12 hi53) 30 (Nat.sub (Nat.div z 2) 26))
section
variable {k : FloatKind} {X Y : Nat} {s1 s2 : Bool} {m1 m2 x1 x2 : Nat} {K : KK}
theorem cap_pos (k : FloatKind) : 0 < capF k.format := Nat.pow_pos (by omega)
theorem adM_spec {fb Z C a b x g : Nat} {u v : Int} (hC : 2 ^ (fb + 1 + Z) < C) (hu : u = sgnI s1 (a * 2 ^ x)) (hv : v = sgnI s2 (b * 2 ^ x)) (h : adM fb Z s1 a s2 b x g K = true) : ∃ s m y, rndQ fb (u + v).natAbs 1 < C ∧ rndZ fb (u + v) 1 = sgnI s (m * 2 ^ y) ∧ K s m y = true := by
  have go : ∀ (s : Bool) (A : Nat), u + v = sgnI s (A * 2 ^ x) → rnM fb Z s A x g K = true → ∃ s m y, rndQ fb (u + v).natAbs 1 < C ∧ rndZ fb (u + v) 1 = sgnI s (m * 2 ^ y) ∧ K s m y = true := fun s A he hr => by
    obtain ⟨m, y, q0, q1, q2⟩ := rnM_spec hC hr
    refine ⟨s, m, y, ?_, ?_, q2⟩
    · rw [he, sgnI_abs, q0]; exact q1
    · rw [he, rndZ_sgn, q0]
  subst hu hv
  unfold adM at h
  rw [bx_eq] at h
  generalize hT : 2 ^ x = T at *
  by_cases hs : s1 = s2
  · subst hs
    rw [Bool.xor_self, bc_false] at h
    refine go s1 (Nat.add a b) ?_ h
    show _ = sgnI s1 ((a + b) * T)
    rw [Nat.add_mul]
    unfold sgnI
    cases s1
    · simp
    · simp; omega
  · have : Bool.xor s1 s2 = true := by cases s1 <;> cases s2 <;> first | rfl | exact absurd rfl hs
    rw [this, bc_true] at h
    cases hb : Nat.ble b a <;> rw [hb] at h
    · rw [bc_false] at h
      have hlt : a < b := by
        rcases Nat.lt_or_ge a b with q | q
        · exact q
        · rw [Nat.ble_eq_true_of_le q] at hb; cases hb
      refine go s2 (Nat.sub b a) ?_ h
      show _ = sgnI s2 ((b - a) * T)
      rw [Nat.sub_mul]
      have := Nat.mul_le_mul_right T (Nat.le_of_lt hlt)
      unfold sgnI
      cases s1 <;> cases s2 <;> first | exact absurd rfl hs | (simp only [if_true, if_false, Bool.false_eq_true]; omega)
    · rw [bc_true] at h
      have hle := Nat.mul_le_mul_right T (Nat.le_of_ble_eq_true hb)
      refine go s1 (Nat.sub a b) ?_ h
      show _ = sgnI s1 ((a - b) * T)
      rw [Nat.sub_mul]
      unfold sgnI
      cases s1 <;> cases s2 <;> first | exact absurd rfl hs | (simp only [if_true, if_false, Bool.false_eq_true]; omega)
theorem shl_place {m x1 x2 : Nat} (h : x2 ≤ x1) : m * 2 ^ x1 = Nat.shiftLeft m (Nat.sub x1 x2) * 2 ^ x2 := by
  show _ = m <<< (x1 - x2) * 2 ^ x2
  rw [Nat.shiftLeft_eq, Nat.mul_assoc, ← Nat.pow_add, show x1 - x2 + x2 = x1 by omega]
theorem addK_core {fb Z C : Nat} {u v : Int} (hC : 2 ^ (fb + 1 + Z) < C) (hu : u = sgnI s1 (m1 * 2 ^ x1)) (hv : v = sgnI s2 (m2 * 2 ^ x2)) (h : addK fb Z s1 m1 x1 s2 m2 x2 K = true) : ∃ s m y, rndQ fb (u + v).natAbs 1 < C ∧ rndZ fb (u + v) 1 = sgnI s (m * 2 ^ y) ∧ K s m y = true := by
  unfold addK at h
  cases h1 : Nat.beq m1 0 <;> rw [h1] at h
  · rw [bc_false] at h
    cases h2 : Nat.beq m2 0 <;> rw [h2] at h
    · rw [bc_false] at h
      cases hb : Nat.ble x2 x1 <;> rw [hb] at h
      · rw [bc_false, force_eq, force_eq] at h
        have hle : x1 ≤ x2 := by
          rcases Nat.le_total x1 x2 with q | q
          · exact q
          · rw [Nat.ble_eq_true_of_le q] at hb; cases hb
        exact adM_spec hC hu (hv.trans (congrArg _ (shl_place hle))) h
      · rw [bc_true, force_eq, force_eq] at h
        exact adM_spec hC (hu.trans (congrArg _ (shl_place (Nat.le_of_ble_eq_true hb)))) hv h
    · rw [bc_true] at h
      obtain rfl : m2 = 0 := Nat.eq_of_beq_eq_true h2
      rw [Nat.zero_mul, sgnI_zero] at hv
      exact adM_spec (v := v) hC hu (by rw [hv, Nat.zero_mul, sgnI_zero]) h
  · rw [bc_true] at h
    obtain rfl : m1 = 0 := Nat.eq_of_beq_eq_true h1
    rw [Nat.zero_mul, sgnI_zero] at hu
    have := adM_spec (u := v) (v := u) hC hv (by rw [hu, Nat.zero_mul, sgnI_zero]) h
    rwa [Int.add_comm v u] at this
/-- What is asked of the constants. -/
structure Fit (k : FloatKind) (fb P Z : Nat) : Prop where
  f : k.format.fractionBits = fb
  p : pF k = P
  c : 2 ^ (fb + 1 + Z) < capF k.format
theorem addK_spec {fb P Z : Nat} (hk : Fit k fb P Z) (hx : V k X (sgnI s1 (m1 * 2 ^ x1))) (hy : V k Y (sgnI s2 (m2 * 2 ^ x2))) (h : addK fb Z s1 m1 x1 s2 m2 x2 K = true) : ∃ s m y, V k (fop .add k X Y) (sgnI s (m * 2 ^ y)) ∧ K s m y = true := by
  obtain ⟨s, m, y, q1, q2, q3⟩ := addK_core hk.c rfl rfl h
  have hf := hk.f
  subst hf
  exact ⟨s, m, y, q2 ▸ hx.add hy q1, q3⟩
theorem sgnI_neg (s : Bool) (n : Nat) : sgnI (!s) n = -sgnI s n := by
  unfold sgnI
  cases s <;> simp
theorem subK_spec {fb P Z : Nat} (hk : Fit k fb P Z) (hx : V k X (sgnI s1 (m1 * 2 ^ x1))) (hy : V k Y (sgnI s2 (m2 * 2 ^ x2))) (h : addK fb Z s1 m1 x1 (!s2) m2 x2 K = true) : ∃ s m y, V k (fop .sub k X Y) (sgnI s (m * 2 ^ y)) ∧ K s m y = true := by
  obtain ⟨s, m, y, q1, q2, q3⟩ := addK_core hk.c rfl rfl h
  rw [sgnI_neg, ← Int.sub_eq_add_neg] at q1 q2
  have hf := hk.f
  subst hf
  exact ⟨s, m, y, q2 ▸ hx.sub hy q1, q3⟩
theorem mulK_spec {fb P Z : Nat} (hk : Fit k fb P Z) (hx : V k X (sgnI s1 (m1 * 2 ^ x1))) (hy : V k Y (sgnI s2 (m2 * 2 ^ x2))) (h : mulK fb P Z s1 m1 x1 s2 m2 x2 K = true) : ∃ s m y, V k (fop .mul k X Y) (sgnI s (m * 2 ^ y)) ∧ K s m y = true := by
  obtain ⟨hf, hP, hC⟩ := hk
  subst hf hP
  unfold mulK at h
  rw [sgK_eq, bx_eq] at h
  have he : sgnI s1 (m1 * 2 ^ x1) * sgnI s2 (m2 * 2 ^ x2) = sgnI (Bool.xor s1 s2) (m1 * m2 * 2 ^ (x1 + x2)) := by rw [sgnI_mul, Nat.pow_add, Nat.mul_mul_mul_comm]
  cases h0 : Nat.beq (Nat.mul m1 m2) 0 <;> rw [h0] at h
  · rw [bc_false, force_eq] at h
    obtain ⟨h1, h2⟩ := ble_or h
    have h1 : pF k ≤ x1 + x2 := h1
    obtain ⟨m, y, q0, q1, q2⟩ := rnM_spec hC h2
    have e : rndQ k.format.fractionBits (m1 * m2 * 2 ^ (x1 + x2)) (2 ^ pF k) = m * 2 ^ y := by
      rw [← q0]
      rw [show (2 : Nat) ^ pF k = 1 * 2 ^ pF k by rw [Nat.one_mul], show rndQ k.format.fractionBits (Nat.mul m1 m2 * 2 ^ Nat.sub (Nat.add x1 x2) (pF k)) 1 = rndQ k.format.fractionBits (m1 * m2 * 2 ^ (x1 + x2 - pF k)) (1 * 2 ^ 0) from rfl]
      exact rndQ_scale2 (by omega)
    have := hx.mul hy (by rw [he, sgnI_abs, e]; exact q1)
    rw [he, rndZ_sgn, e] at this
    exact ⟨_, _, _, this, q2⟩
  · rw [bc_true] at h
    have hz : m1 * m2 = 0 := Nat.eq_of_beq_eq_true h0
    have := hx.mul hy (by rw [he, sgnI_abs, hz, Nat.zero_mul, rndQ_zero]; exact cap_pos k)
    rw [he, rndZ_sgn, hz, Nat.zero_mul, rndQ_zero] at this
    exact ⟨_, 0, 0, by rw [Nat.zero_mul]; exact this, h⟩
theorem quoK_spec {fb P Z : Nat} (hk : Fit k fb P Z) (hx : V k X (sgnI s1 (m1 * 2 ^ x1))) (hy : V k Y (sgnI s2 (m2 * 2 ^ x2))) (h : quoK fb P Z s1 m1 x1 s2 m2 x2 K = true) : ∃ s m y, V k (fop .quo k X Y) (sgnI s (m * 2 ^ y)) ∧ K s m y = true := by
  obtain ⟨hf, hP, hC⟩ := hk
  subst hf hP
  unfold quoK at h
  cases h0 : Nat.beq m2 0 <;> rw [h0] at h
  case true => cases h
  rw [bc_false, sgK_eq, bx_eq] at h
  have hm2 : 0 < m2 := by
    rcases Nat.eq_zero_or_pos m2 with q | q
    · subst q; cases h0
    · exact q
  have hB : 0 < m2 * 2 ^ x2 := Nat.mul_pos hm2 (Nat.pow_pos (by omega))
  cases h1 : Nat.beq m1 0 <;> rw [h1] at h
  · rw [bc_false, force_eq, force_eq] at h
    obtain ⟨h2, h⟩ := ble_or h
    have h2 : k.format.fractionBits + 2 + x2 ≤ x1 + pF k := h2
    have eD : Nat.shiftLeft m1 (Nat.add k.format.fractionBits 2) = m1 * 2 ^ (k.format.fractionBits + 2) := Nat.shiftLeft_eq _ _
    rw [eD] at h
    generalize hD : m1 * 2 ^ (k.format.fractionBits + 2) = D at h
    have hsr : Nat.shiftRight (Nat.div D m2) k.format.fractionBits = D / m2 / 2 ^ k.format.fractionBits := Nat.shiftRight_eq_div_pow _ _
    cases h3 : Nat.beq (Nat.shiftRight (Nat.div D m2) k.format.fractionBits) 0 <;> rw [h3] at h
    case true => cases h
    rw [bc_false] at h
    have hq : 2 ^ k.format.fractionBits ≤ D / m2 := by
      rcases Nat.lt_or_ge (D / m2) (2 ^ k.format.fractionBits) with q | q
      · rw [hsr, Nat.div_eq_of_lt q] at h3; cases h3
      · exact q
    have h4 := seek_spec _ _ h
    rw [force_eq, cutK_eq, force_eq] at h4
    obtain ⟨h5, h6⟩ := ble_or h4
    have hq0 : D / m2 ≠ 0 := by
      have := Nat.pow_pos (n := k.format.fractionBits) (show 0 < 2 by omega)
      omega
    have hlq : k.format.fractionBits ≤ (D / m2).log2 := (Nat.le_log2 hq0).2 hq
    have hlo := Nat.log2_self_le hq0
    have hhi : D / m2 < 2 ^ ((D / m2).log2 + 1) := Nat.lt_log2_self
    have hDn1 : m2 * (D / m2) ≤ D := Nat.mul_div_le D m2
    have hDn2 : D < m2 * (D / m2 + 1) := by
      have h1 := Nat.div_add_mod D m2
      have h2 := Nat.mod_lt D hm2
      rw [Nat.mul_add, Nat.mul_one]
      omega
    obtain ⟨x, hxx⟩ : ∃ x, x = x1 + pF k - (k.format.fractionBits + 2 + x2) := ⟨_, rfl⟩
    have hl : (D * 2 ^ x / m2).log2 = (D / m2).log2 + x := by
      have hp : 0 < 2 ^ x := Nat.pow_pos (by omega)
      refine log2_is ((Nat.le_div_iff_mul_le hm2).2 ?_) ((Nat.div_lt_iff_lt_mul hm2).2 ?_)
      · rw [Nat.pow_add, Nat.mul_right_comm]
        refine Nat.mul_le_mul_right _ ?_
        have := Nat.mul_le_mul_left m2 hlo
        rw [Nat.mul_comm _ m2]
        omega
      · rw [Nat.add_right_comm, Nat.pow_add, Nat.mul_right_comm _ (2 ^ x)]
        refine Nat.mul_lt_mul_of_pos_right ?_ hp
        have := Nat.mul_le_mul_left m2 (show D / m2 + 1 ≤ 2 ^ ((D / m2).log2 + 1) from hhi)
        rw [Nat.mul_comm _ m2]
        omega
    have e : rndQ k.format.fractionBits (m1 * 2 ^ x1 * 2 ^ pF k) (m2 * 2 ^ x2) = cutQ D (Nat.shiftLeft m2 ((Nat.div D m2).log2 - k.format.fractionBits)) * 2 ^ (Nat.add (Nat.sub (Nat.add x1 (pF k)) (Nat.add (Nat.add k.format.fractionBits 2) x2)) ((Nat.div D m2).log2 - k.format.fractionBits)) := by
      have e1 : rndQ k.format.fractionBits (m1 * 2 ^ x1 * 2 ^ pF k) (m2 * 2 ^ x2) = rndQ k.format.fractionBits (D * 2 ^ x) m2 := by
        rw [Nat.mul_assoc, ← Nat.pow_add, ← hD, Nat.mul_assoc m1, ← Nat.pow_add, show rndQ k.format.fractionBits (m1 * 2 ^ (k.format.fractionBits + 2 + x)) m2 = rndQ k.format.fractionBits (m1 * 2 ^ (k.format.fractionBits + 2 + x)) (m2 * 2 ^ 0) by rw [Nat.pow_zero, Nat.mul_one]]
        exact rndQ_scale2 (by omega)
      rw [e1]
      unfold rndQ
      rw [hl, show (D / m2).log2 + x - k.format.fractionBits = (D / m2).log2 - k.format.fractionBits + x by omega, Nat.pow_add, ← Nat.mul_assoc m2, cutQ_scale, ← Nat.pow_add, Nat.add_comm _ x, hxx]
      show cutQ D (m2 * 2 ^ ((D / m2).log2 - _)) * _ = cutQ D (m2 <<< ((D / m2).log2 - _)) * _
      rw [Nat.shiftLeft_eq]
      rfl
    have hlt : rndQ k.format.fractionBits (m1 * 2 ^ x1 * 2 ^ pF k) (m2 * 2 ^ x2) < capF k.format := by
      rw [e]
      refine Nat.lt_of_le_of_lt ?_ hC
      rw [Nat.pow_add 2 (k.format.fractionBits + 1) Z]
      refine Nat.mul_le_mul ?_ (Nat.pow_le_pow_right (n := 2) (Nat.succ_pos 1) h5)
      have hT : D ≤ 2 ^ (k.format.fractionBits + 1) * (m2 * 2 ^ ((D / m2).log2 - k.format.fractionBits)) := by
        have := Nat.mul_le_mul_left m2 (show D / m2 + 1 ≤ 2 ^ ((D / m2).log2 + 1) from hhi)
        rw [Nat.mul_left_comm, ← Nat.pow_add, show k.format.fractionBits + 1 + ((D / m2).log2 - k.format.fractionBits) = (D / m2).log2 + 1 by omega]
        omega
      show cutQ D (m2 <<< ((D / m2).log2 - _)) ≤ _
      rw [Nat.shiftLeft_eq]
      generalize m2 * 2 ^ ((D / m2).log2 - k.format.fractionBits) = E at hT
      have hE : 0 < E ∨ E = 0 := by omega
      unfold cutQ
      rcases hE with hE | hE
      · rcases Nat.lt_or_eq_of_le hT with q | q
        · have : D / E < 2 ^ (k.format.fractionBits + 1) := (Nat.div_lt_iff_lt_mul hE).2 q
          have h3 : ∀ b : Bool, b.toNat ≤ 1 := fun b => by cases b <;> decide
          exact Nat.le_trans (Nat.add_le_add_left (h3 _) _) this
        · rw [q, Nat.mul_div_cancel _ hE, Nat.mul_mod_left]
          have e1 : decide (E < 2 * 0) = false := decide_eq_false (by omega)
          have e2 : decide (E = 2 * 0) = false := decide_eq_false (by omega)
          rw [e1, e2]
          exact Nat.le_refl _
      · subst hE
        rw [Nat.mul_zero] at hT
        obtain rfl : D = 0 := by omega
        simp
    have := hx.quo hy hB hlt
    rw [e] at this
    exact ⟨_, _, _, this, h6⟩
  · have hz : m1 = 0 := Nat.eq_of_beq_eq_true h1
    subst hz
    have := hx.quo hy hB (by rw [Nat.zero_mul, Nat.zero_mul, rndQ_zero]; exact cap_pos k)
    rw [Nat.zero_mul, Nat.zero_mul, rndQ_zero] at this
    exact ⟨_, 0, 0, by rw [Nat.zero_mul]; exact this, h⟩
theorem sqrtK_spec {P Z : Nat} (hk : Fit .f64 52 P Z) (hx : V .f64 X (sgnI false (m1 * 2 ^ x1))) (h : sqrtK P Z m1 x1 K = true) : ∃ s m y, V .f64 (fsqrt X) (sgnI s (m * 2 ^ y)) ∧ K s m y = true := by
  obtain ⟨_, hP, hC⟩ := hk
  unfold sqrtK at h
  cases h0 : Nat.beq m1 0 <;> rw [h0] at h
  · rw [bc_false, force_eq] at h
    have hn1 : 0 < m1 := by
      rcases Nat.eq_zero_or_pos m1 with q | q
      · subst q; cases h0
      · exact q
    have ha : 0 < m1 * 2 ^ x1 := Nat.mul_pos hn1 (Nat.pow_pos (by omega))
    have hVs := fun w d g1 g2 g3 g4 => @V.sqrt X (m1 * 2 ^ x1) w d hx ha g1 g2 g3 g4
    rw [hP] at hVs
    generalize capF FloatKind.f64.format = C at *
    obtain ⟨d, hd, h1⟩ := seek4_some _ _ h
    rw [force_eq] at h1
    obtain ⟨w, h2⟩ := newt_some _ _ h1
    clear h h1
    have hd : 2 * d ≤ x1 + P := hd
    have hN : m1 * 2 ^ x1 * 2 ^ P = m1 * 2 ^ (x1 + P - 2 * d) * 2 ^ (2 * d) := by
      rw [Nat.mul_assoc, ← Nat.pow_add, Nat.mul_assoc, ← Nat.pow_add, show x1 + P - 2 * d + 2 * d = x1 + P by omega]
    rw [hN] at hVs
    have h2 : bc (Nat.ble lo53 w) (bc (Nat.ble hi53 w) false (bc (Nat.ble (Nat.mul w w) (m1 * 2 ^ (x1 + P - 2 * d))) (bc (Nat.ble (Nat.mul (Nat.succ w) (Nat.succ w)) (m1 * 2 ^ (x1 + P - 2 * d))) false
      (force (Nat.mul (Nat.succ (Nat.mul 2 w)) (Nat.succ (Nat.mul 2 w))) fun t => force (Nat.mul 4 (m1 * 2 ^ (x1 + P - 2 * d))) fun N4 => force (nc (Nat.ble N4 t) (nc (Nat.beq t N4) (Nat.add w (Nat.land w 1)) w) (Nat.succ w)) fun R => bc (Nat.ble d Z) (K false R d) false)) false)) false = true := h2
    generalize m1 * 2 ^ (x1 + P - 2 * d) = M at *
    obtain ⟨c1, h2⟩ := ble_or h2
    cases c2 : Nat.ble hi53 w <;> rw [c2] at h2
    case true => cases h2
    rw [bc_false] at h2
    obtain ⟨c3, h2⟩ := ble_or h2
    cases c4 : Nat.ble (Nat.mul (Nat.succ w) (Nat.succ w)) M <;> rw [c4] at h2
    case true => cases h2
    rw [bc_false, force_eq, force_eq, force_eq] at h2
    obtain ⟨c5, h2⟩ := ble_or h2
    have hp : 0 < 2 ^ (2 * d) := Nat.pow_pos (by omega)
    have g1 : w * w * 2 ^ (2 * d) ≤ M * 2 ^ (2 * d) := Nat.mul_le_mul_right _ c3
    have g2 : M * 2 ^ (2 * d) < (w + 1) * (w + 1) * 2 ^ (2 * d) := by
      refine Nat.mul_lt_mul_of_pos_right ?_ hp
      rcases Nat.lt_or_ge M ((w + 1) * (w + 1)) with q | q
      · exact q
      · have : Nat.ble (Nat.mul (Nat.succ w) (Nat.succ w)) M = true := Nat.ble_eq_true_of_le q
        rw [this] at c4; cases c4
    have g3 : 2 ^ 52 ≤ w := c1
    have g4 : w < 2 ^ 53 := by
      rcases Nat.lt_or_ge w (2 ^ 53) with q | q
      · exact q
      · have : Nat.ble hi53 w = true := Nat.ble_eq_true_of_le q
        rw [this] at c2; cases c2
    have eU : upS (M * 2 ^ (2 * d)) w d = upS M w 0 := by rw [upS_scale (Nat.le_refl d), Nat.sub_self]
    have eR : nc (Nat.ble (Nat.mul 4 M) (Nat.mul (Nat.succ (Nat.mul 2 w)) (Nat.succ (Nat.mul 2 w)))) (nc (Nat.beq (Nat.mul (Nat.succ (Nat.mul 2 w)) (Nat.succ (Nat.mul 2 w))) (Nat.mul 4 M)) (Nat.add w (Nat.land w 1)) w) (Nat.succ w) = w + upS M w 0 := by
      show nc (Nat.ble (4 * M) ((2 * w + 1) * (2 * w + 1))) (nc (Nat.beq ((2 * w + 1) * (2 * w + 1)) (4 * M)) (w + (w &&& 1)) w) (w + 1) = _
      rw [Nat.and_one_is_mod]
      unfold upS
      rw [Nat.mul_zero, Nat.pow_zero, Nat.mul_one]
      generalize (2 * w + 1) * (2 * w + 1) = t
      generalize 4 * M = F
      by_cases b1 : t < F
      · have : Nat.ble F t = false := by
          cases q : Nat.ble F t
          · rfl
          · have := Nat.le_of_ble_eq_true q; omega
        rw [this, decide_eq_true b1]
        rfl
      · rw [Nat.ble_eq_true_of_le (by omega), decide_eq_false b1, Bool.false_or]
        by_cases b2 : t = F
        · subst b2
          rw [show Nat.beq t t = true from by rw [Nat.beq_eq]]
          simp only [nc_true, decide_true, Bool.true_and]
          congr 1
          rcases Nat.mod_two_eq_zero_or_one w with q | q <;> rw [q] <;> rfl
        · have : Nat.beq t F = false := by
            cases q : Nat.beq t F
            · rfl
            · have := Nat.eq_of_beq_eq_true q; omega
          rw [this, decide_eq_false b2]
          simp [nc_true, nc_false]
    rw [eR] at h2
    have hlt : (w + upS (M * 2 ^ (2 * d)) w d) * 2 ^ d < C := by
      refine Nat.lt_of_le_of_lt ?_ hC
      rw [Nat.pow_add 2 (52 + 1) Z]
      refine Nat.mul_le_mul ?_ (Nat.pow_le_pow_right (n := 2) (Nat.succ_pos 1) c5)
      have h3 : ∀ b : Bool, b.toNat ≤ 1 := fun b => by cases b <;> decide
      have : upS (M * 2 ^ (2 * d)) w d ≤ 1 := h3 _
      have : (2 : Nat) ^ (52 + 1) = 2 ^ 53 := rfl
      omega
    have := hVs w d g1 g2 g3 g4 hlt
    rw [eU] at this
    exact ⟨_, _, _, this, h2⟩
  · have : m1 = 0 := Nat.eq_of_beq_eq_true h0
    subst this
    rw [Nat.zero_mul] at hx
    refine ⟨false, 0, 0, ?_, h⟩
    obtain ⟨s, m, i, e1, hi, ea⟩ := hx.out
    have hm : m = 0 := by
      have := congrArg Int.natAbs ea
      rw [sgnI_abs, sgnI_abs] at this
      rcases Nat.eq_zero_or_pos m with q | q
      · exact q
      · have := Nat.mul_pos q (Nat.pow_pos (n := (i - FloatKind.f64.format.leastPlace).toNat) (show 0 < 2 by omega))
        omega
    subst hm
    unfold fsqrt Ieee.Format.sqrt
    rw [e1]
    show V .f64 (FloatKind.f64.format.nearest s 0 i) _
    have := V.of_nearest (k := .f64) (neg := s) (mag := 0) (place := i) (R := 0) (by rw [Nat.zero_mul, rndQ_zero]) (cap_pos _)
    rw [sgnI_zero] at this
    rw [Nat.zero_mul, sgnI_zero]
    exact this
/-- Widened: 29 digits more, and 896 places. -/
theorem upK_spec (hx : V .f32 X (sgnI s1 (m1 * 2 ^ x1))) : V .f64 (fcvt .f32 .f64 X) (sgnI s1 (Nat.shiftLeft m1 29 * 2 ^ (Nat.add x1 896))) := by
  have := hx.cvt_up
  have e : sgnI s1 (m1 * 2 ^ x1) * ((2 ^ 925 : Nat) : Int) = sgnI s1 (Nat.shiftLeft m1 29 * 2 ^ (Nat.add x1 896)) := by
    show _ = sgnI s1 (m1 <<< 29 * 2 ^ (x1 + 896))
    obtain ⟨Q, hQ⟩ : ∃ Q : Nat, Q = 896 := ⟨_, rfl⟩
    obtain ⟨R, hR⟩ : ∃ R : Nat, R = 29 := ⟨_, rfl⟩
    rw [← hQ, ← hR, show 925 = R + Q by omega, Nat.shiftLeft_eq]
    have : m1 * 2 ^ R * 2 ^ (x1 + Q) = m1 * 2 ^ x1 * 2 ^ (R + Q) := by
      rw [Nat.mul_assoc, ← Nat.pow_add, Nat.mul_assoc, ← Nat.pow_add]
      congr 2
      omega
    rw [this]
    generalize m1 * 2 ^ x1 = A
    generalize (2 : Nat) ^ (R + Q) = T
    unfold sgnI
    cases s1 <;> simp [Int.neg_mul]
  rw [e] at this
  exact this
/-- Narrowed. -/
def downK (Y : Nat) (s : Bool) (m x : Nat) (K : KK) : Bool := bc (Nat.beq m 0) (K s 0 0) (bc (Nat.ble 925 x) (rnM 23 Y s m (Nat.sub x 925) 29 K) false)
theorem downK_spec {Z : Nat} (hC : 2 ^ (23 + 1 + Z) < capF FloatKind.f32.format) (hx : V .f64 X (sgnI s1 (m1 * 2 ^ x1))) (h : downK Z s1 m1 x1 K = true) : ∃ s m y, (V .f32 (fcvt .f64 .f32 X) (sgnI s (m * 2 ^ y)) ∧ fits .f64 .f32 X) ∧ K s m y = true := by
  unfold downK at h
  cases h0 : Nat.beq m1 0 <;> rw [h0] at h
  · rw [bc_false] at h
    obtain ⟨h1, h⟩ := ble_or h
    obtain ⟨m, y, q0, q1, q2⟩ := rnM_spec hC h
    have e : rndQ 23 (m1 * 2 ^ x1) (2 ^ 925) = m * 2 ^ y := by
      rw [← q0]
      obtain ⟨Q, hQ⟩ : ∃ Q : Nat, Q = 925 := ⟨_, rfl⟩
      rw [← hQ] at h1 ⊢
      rw [show (2 : Nat) ^ Q = 1 * 2 ^ Q by rw [Nat.one_mul], show rndQ 23 (m1 * 2 ^ Nat.sub x1 Q) 1 = rndQ 23 (m1 * 2 ^ (x1 - Q)) (1 * 2 ^ 0) from rfl]
      exact rndQ_scale2 (by omega)
    have := hx.cvt_down (by rw [sgnI_abs, e]; exact q1)
    rw [rndZ_sgn, e] at this
    exact ⟨_, _, _, this, q2⟩
  · rw [bc_true] at h
    obtain rfl : m1 = 0 := Nat.eq_of_beq_eq_true h0
    have := hx.cvt_down (by rw [sgnI_abs, Nat.zero_mul, rndQ_zero]; exact cap_pos _)
    rw [rndZ_sgn, Nat.zero_mul, rndQ_zero] at this
    exact ⟨_, 0, 0, by rw [Nat.zero_mul]; exact this, h⟩
end
end Go.Proofs.Ytejpamlaacffaaa

/-
  Programs that compute what vectors are worth; multiples of a sixteenth, which are exact. Conditions: none.
-/
namespace Go.Proofs.Ytejpamlaacffaaa
open Go Go.RowKit

theorem fit32 : Fit .f32 23 149 250 := ⟨rfl, by decide, by decide +kernel⟩
theorem fit64 : Fit .f64 52 1074 2040 := ⟨rfl, by decide, by decide +kernel⟩
def mul32 := mulK 23 149 250
def add32 := addK 23 250
def quo32 := quoK 23 149 250
def mul64 := mulK 52 1074 2040
def add64 := addK 52 2040
def quo64 := quoK 52 1074 2040
section
variable {X Y : Nat} {s1 s2 : Bool} {m1 m2 x1 x2 : Nat} {K : KK}
theorem mul32_spec (hx : V .f32 X (sgnI s1 (m1 * 2 ^ x1))) (hy : V .f32 Y (sgnI s2 (m2 * 2 ^ x2))) (h : mul32 s1 m1 x1 s2 m2 x2 K = true) : ∃ s m x, V .f32 (fop .mul .f32 X Y) (sgnI s (m * 2 ^ x)) ∧ K s m x = true := mulK_spec fit32 hx hy h
theorem add32_spec (hx : V .f32 X (sgnI s1 (m1 * 2 ^ x1))) (hy : V .f32 Y (sgnI s2 (m2 * 2 ^ x2))) (h : add32 s1 m1 x1 s2 m2 x2 K = true) : ∃ s m x, V .f32 (fop .add .f32 X Y) (sgnI s (m * 2 ^ x)) ∧ K s m x = true := addK_spec fit32 hx hy h
theorem sub32_spec (hx : V .f32 X (sgnI s1 (m1 * 2 ^ x1))) (hy : V .f32 Y (sgnI s2 (m2 * 2 ^ x2))) (h : add32 s1 m1 x1 (!s2) m2 x2 K = true) : ∃ s m x, V .f32 (fop .sub .f32 X Y) (sgnI s (m * 2 ^ x)) ∧ K s m x = true := subK_spec fit32 hx hy h
theorem mul64_spec (hx : V .f64 X (sgnI s1 (m1 * 2 ^ x1))) (hy : V .f64 Y (sgnI s2 (m2 * 2 ^ x2))) (h : mul64 s1 m1 x1 s2 m2 x2 K = true) : ∃ s m x, V .f64 (fop .mul .f64 X Y) (sgnI s (m * 2 ^ x)) ∧ K s m x = true := mulK_spec fit64 hx hy h
theorem add64_spec (hx : V .f64 X (sgnI s1 (m1 * 2 ^ x1))) (hy : V .f64 Y (sgnI s2 (m2 * 2 ^ x2))) (h : add64 s1 m1 x1 s2 m2 x2 K = true) : ∃ s m x, V .f64 (fop .add .f64 X Y) (sgnI s (m * 2 ^ x)) ∧ K s m x = true := addK_spec fit64 hx hy h
theorem sub64_spec (hx : V .f64 X (sgnI s1 (m1 * 2 ^ x1))) (hy : V .f64 Y (sgnI s2 (m2 * 2 ^ x2))) (h : add64 s1 m1 x1 (!s2) m2 x2 K = true) : ∃ s m x, V .f64 (fop .sub .f64 X Y) (sgnI s (m * 2 ^ x)) ∧ K s m x = true := subK_spec fit64 hx hy h
theorem quo64_spec (hx : V .f64 X (sgnI s1 (m1 * 2 ^ x1))) (hy : V .f64 Y (sgnI s2 (m2 * 2 ^ x2))) (h : quo64 s1 m1 x1 s2 m2 x2 K = true) : ∃ s m x, V .f64 (fop .quo .f64 X Y) (sgnI s (m * 2 ^ x)) ∧ K s m x = true := quoK_spec fit64 hx hy h
/-- The root of a number that is not negative. -/
def rootK (s : Bool) (m x : Nat) (K : KK) : Bool := bc s (bc (Nat.beq m 0) (K false 0 0) false) (force (Nat.shiftLeft m 29) fun n => sqrtK 1074 2040 n (Nat.add x 896) fun s n y => downK 250 s n y K)
theorem rootK_spec (hx : V .f32 X (sgnI s1 (m1 * 2 ^ x1))) (h : rootK s1 m1 x1 K = true) : ∃ s m x, V .f32 (rootF X) (sgnI s (m * 2 ^ x)) ∧ K s m x = true := by
  unfold rootK at h
  cases s1
  · rw [bc_false, force_eq] at h
    obtain ⟨s, m, x, hv, h⟩ := sqrtK_spec fit64 (upK_spec hx) h
    obtain ⟨s, m, x, hv, h⟩ := downK_spec fit32.c hv h
    exact ⟨s, m, x, hv.1, h⟩
  · rw [bc_true] at h
    cases h0 : Nat.beq m1 0 <;> rw [h0] at h
    · cases h
    · rw [bc_true] at h
      obtain rfl : m1 = 0 := Nat.eq_of_beq_eq_true h0
      have hx' : V .f32 X (sgnI false (0 * 2 ^ x1)) := by
        rw [Nat.zero_mul, sgnI_zero] at hx ⊢
        exact hx
      have hu := upK_spec hx'
      have e0 : Nat.shiftLeft 0 29 = 0 := by show 0 <<< 29 = 0; rw [Nat.zero_shiftLeft]
      rw [e0] at hu
      obtain ⟨s, m, x, hv, hq⟩ := sqrtK_spec (K := fun s m _ => !s && Nat.beq m 0) fit64 hu (show sqrtK 1074 2040 0 _ (fun s m _ => !s && Nat.beq m 0) = true from rfl)
      simp only [Bool.and_eq_true, Bool.not_eq_true'] at hq
      obtain ⟨rfl, hn⟩ := hq
      obtain rfl := Nat.eq_of_beq_eq_true hn
      have hd := (hv.cvt_down (by rw [sgnI_abs, Nat.zero_mul, rndQ_zero]; exact cap_pos _)).1
      rw [rndZ_sgn, Nat.zero_mul, rndQ_zero] at hd
      exact ⟨false, 0, 0, by rw [Nat.zero_mul]; exact hd, h⟩
end
/-- A vector whose numbers are finite and worth these. -/
structure VW (A : V3) (sx : Bool) (mx ex : Nat) (sy : Bool) (my ey : Nat) (sz : Bool) (mz ez : Nat) : Prop where
  x : V .f32 A.x (sgnI sx (mx * 2 ^ ex))
  y : V .f32 A.y (sgnI sy (my * 2 ^ ey))
  z : V .f32 A.z (sgnI sz (mz * 2 ^ ez))
abbrev K9 : Type := Bool → Nat → Nat → Bool → Nat → Nat → Bool → Nat → Nat → Bool
def innK (a1 : Bool) (a2 a3 : Nat) (b1 : Bool) (b2 b3 : Nat) (c1 : Bool) (c2 c3 : Nat) (d1 : Bool) (d2 d3 : Nat) (f1 : Bool) (f2 f3 : Nat) (g1 : Bool) (g2 g3 : Nat) (K : KK) : Bool :=
  mul32 a1 a2 a3 d1 d2 d3 fun s1 n1 e1 => mul32 b1 b2 b3 f1 f2 f3 fun s2 n2 e2 => add32 s1 n1 e1 s2 n2 e2 fun s3 n3 e3 => mul32 c1 c2 c3 g1 g2 g3 fun s4 n4 e4 => add32 s3 n3 e3 s4 n4 e4 K
def longK (a1 : Bool) (a2 a3 : Nat) (b1 : Bool) (b2 b3 : Nat) (c1 : Bool) (c2 c3 : Nat) (K : KK) : Bool := innK a1 a2 a3 b1 b2 b3 c1 c2 c3 a1 a2 a3 b1 b2 b3 c1 c2 c3 fun s n e => rootK s n e K
def scaK (a1 : Bool) (a2 a3 : Nat) (b1 : Bool) (b2 b3 : Nat) (c1 : Bool) (c2 c3 : Nat) (s : Bool) (n e : Nat) (K : K9) : Bool :=
  mul32 a1 a2 a3 s n e fun s1 n1 e1 => mul32 b1 b2 b3 s n e fun s2 n2 e2 => mul32 c1 c2 c3 s n e fun s3 n3 e3 => K s1 n1 e1 s2 n2 e2 s3 n3 e3
def sumK (a1 : Bool) (a2 a3 : Nat) (b1 : Bool) (b2 b3 : Nat) (c1 : Bool) (c2 c3 : Nat) (d1 : Bool) (d2 d3 : Nat) (f1 : Bool) (f2 f3 : Nat) (g1 : Bool) (g2 g3 : Nat) (K : K9) : Bool :=
  add32 a1 a2 a3 d1 d2 d3 fun s1 n1 e1 => add32 b1 b2 b3 f1 f2 f3 fun s2 n2 e2 => add32 c1 c2 c3 g1 g2 g3 fun s3 n3 e3 => K s1 n1 e1 s2 n2 e2 s3 n3 e3
def cubK (s : Bool) (n e : Nat) (K : KK) : Bool := mul32 s n e s n e fun s1 n1 e1 => mul32 s1 n1 e1 s n e K
section
variable {A B : V3} {S : Nat} {a1 b1 c1 d1 f1 g1 s : Bool} {a2 a3 b2 b3 c2 c3 d2 d3 f2 f3 g2 g3 n e : Nat} {K : KK} {J : K9}
end
/-- Runs through 0 .. n - 1. -/
def alln (n : Nat) (f : Nat → Bool) : Bool := Nat.rec (motive := fun _ => Bool) true (fun m ih => bc (f m) ih false) n
theorem alln_succ (n : Nat) (f : Nat → Bool) : alln (n + 1) f = bc (f n) (alln n f) false := rfl
theorem alln_spec {f : Nat → Bool} : ∀ n, alln n f = true → ∀ i, i < n → f i = true
  | n + 1, h, i, hi => by
    rw [alln_succ] at h
    cases hf : f n <;> rw [hf] at h
    · cases h
    · rw [bc_true] at h
      by_cases e : i = n
      · subst e; exact hf
      · exact alln_spec n h i (by omega)
/-- X is worth a sixteenths. -/
def VU (X : Nat) (a : Int) : Prop := V .f32 X (sgnI (decide (a < 0)) (a.natAbs * 2 ^ 145))
theorem sgnI_mulU (a : Int) (U : Nat) : sgnI (decide (a < 0)) (a.natAbs * U) = a * (U : Int) := by
  unfold sgnI
  by_cases h : a < 0
  · rw [decide_eq_true h, if_pos rfl]
    have : (a.natAbs : Int) = -a := by omega
    rw [Int.natCast_mul, this, Int.neg_mul, Int.neg_neg]
  · rw [decide_eq_false h]
    have : (a.natAbs : Int) = a := by omega
    simp only [Bool.false_eq_true, if_false]
    rw [Int.natCast_mul, this]
theorem VU.core {X : Nat} {c : Int} (hc : c.natAbs < 2 ^ 24) (h : ∀ U : Nat, U = 2 ^ 145 → rndQ 23 (c.natAbs * U) 1 < capF FloatKind.f32.format → V .f32 X (rndZ 23 (c * (U : Int)) 1)) : VU X c := by
  have hr := rndQ_exact (fb := 23) (m := c.natAbs) (s := 145) hc
  obtain ⟨U, hU⟩ : ∃ U : Nat, U = 2 ^ 145 := ⟨_, rfl⟩
  have := h U hU (by
    rw [hU, hr]
    exact Nat.lt_of_lt_of_le (Nat.mul_lt_mul_of_pos_right hc (Nat.pow_pos (by omega))) (by decide +kernel))
  unfold VU
  rw [← hU] at hr ⊢
  rw [← sgnI_mulU c U, rndZ_sgn, hr] at this
  exact this
theorem VU.add {X Y : Nat} {a b : Int} (hx : VU X a) (hy : VU Y b) (hc : (a + b).natAbs < 2 ^ 24) : VU (fop .add .f32 X Y) (a + b) := by
  refine VU.core hc fun U hU hr => ?_
  unfold VU at hx hy
  rw [← hU, sgnI_mulU] at hx hy
  have e : a * (U : Int) + b * (U : Int) = (a + b) * (U : Int) := by rw [Int.add_mul]
  have := hx.add hy (by
    rw [e, Int.natAbs_mul, Int.natAbs_natCast]
    exact hr)
  rw [e] at this
  exact this
theorem VU.sub {X Y : Nat} {a b : Int} (hx : VU X a) (hy : VU Y b) (hc : (a - b).natAbs < 2 ^ 24) : VU (fop .sub .f32 X Y) (a - b) := by
  refine VU.core hc fun U hU hr => ?_
  unfold VU at hx hy
  rw [← hU, sgnI_mulU] at hx hy
  have e : a * (U : Int) - b * (U : Int) = (a - b) * (U : Int) := by rw [Int.sub_mul]
  have := hx.sub hy (by
    rw [e, Int.natAbs_mul, Int.natAbs_natCast]
    exact hr)
  rw [e] at this
  exact this
theorem VU.mul {X Y : Nat} {a b c : Int} (hx : VU X a) (hy : VU Y b) (he : a * b = 16 * c) (hc : c.natAbs < 2 ^ 24) : VU (fop .mul .f32 X Y) c := by
  refine VU.core hc fun U hU hr => ?_
  unfold VU at hx hy
  rw [← hU, sgnI_mulU] at hx hy
  have hq : ∀ w : Nat, rndQ 23 (w * 16 * U * U) (2 ^ pF .f32) = rndQ 23 (w * U) 1 := fun w => by
    obtain ⟨T, hT⟩ : ∃ T : Nat, T = 145 := ⟨_, rfl⟩
    have h1 : w * 16 * U * U = w * 2 ^ (4 + T + T) := by
      rw [hU, ← hT, Nat.pow_add, Nat.pow_add]
      simp only [Nat.mul_assoc]
    have h2 : w * U = w * 2 ^ T := by rw [hU, ← hT]
    have h3 : 2 ^ pF .f32 = 1 * 2 ^ (4 + T) := by
      have : pF .f32 = 4 + T := by rw [hT]; decide
      rw [this, Nat.one_mul]
    have h4 : (1 : Nat) = 1 * 2 ^ 0 := rfl
    rw [h1, h2, h3]
    rw [show rndQ 23 (w * 2 ^ T) 1 = rndQ 23 (w * 2 ^ T) (1 * 2 ^ 0) from rfl]
    exact rndQ_scale2 (by omega)
  have e : a * (U : Int) * (b * (U : Int)) = c * ((16 * U * U : Nat) : Int) := by
    rw [Int.mul_assoc, Int.mul_left_comm (U : Int) b, ← Int.mul_assoc a b, he, Int.natCast_mul, Int.natCast_mul, Int.mul_comm 16 c]
    simp only [Int.mul_assoc]
    rfl
  have e2 : (a * (U : Int) * (b * (U : Int))).natAbs = c.natAbs * 16 * U * U := by
    rw [e, Int.natAbs_mul, Int.natAbs_natCast]
    simp only [Nat.mul_assoc]
  have := hx.mul hy (by
    rw [e2]
    show rndQ 23 _ _ < _
    rw [hq]
    exact hr)
  have e3 : rndZ FloatKind.f32.format.fractionBits (a * (U : Int) * (b * (U : Int))) (2 ^ pF .f32) = rndZ 23 (c * (U : Int)) 1 := by
    show rndZ 23 _ _ = _
    rw [e, ← sgnI_mulU, rndZ_sgn, ← sgnI_mulU, rndZ_sgn]
    congr 1
    rw [← Nat.mul_assoc, ← Nat.mul_assoc]
    exact hq _
  rw [e3] at this
  exact this
theorem VU.ofInt {n : Int} (hn : n.natAbs < 2 ^ 19) : VU (floatOfInt .f32 n) (16 * n) := by
  have ha : (16 * n).natAbs = n.natAbs * 16 := by omega
  have hs : decide (16 * n < 0) = decide (n < 0) := decide_eq_decide.2 (by omega)
  have h24 : n.natAbs * 16 < 2 ^ 24 := by omega
  have hr := rndQ_exact (fb := 23) (m := n.natAbs) (s := 149) (by omega)
  have h := V.ofInt (k := .f32) (n := n) (by
    show rndQ 23 (n.natAbs * 2 ^ 149) 1 < _
    rw [hr]
    exact Nat.lt_of_lt_of_le (Nat.mul_lt_mul_of_pos_right hn (Nat.pow_pos (by omega))) (by decide +kernel))
  have e : rndQ FloatKind.f32.format.fractionBits (n.natAbs * 2 ^ pF .f32) 1 = n.natAbs * 2 ^ 149 := hr
  rw [e] at h
  unfold VU
  rw [ha, hs, Nat.mul_assoc]
  exact h
theorem VU.const {X : Nat} {a : Int} (h : (match FloatKind.f32.format.read X with | .number s m i => decide (FloatKind.f32.format.leastPlace ≤ i) && decide (sgnI (decide (a < 0)) (a.natAbs * 2 ^ 145) = sgnI s (m * 2 ^ (i - FloatKind.f32.format.leastPlace).toNat)) | _ => false) = true) : VU X a := by
  refine ⟨?_⟩
  cases hx : FloatKind.f32.format.read X with
  | number s m i =>
    rw [hx] at h
    simp only [Bool.and_eq_true, decide_eq_true_eq] at h
    exact ⟨s, m, i, rfl, h.1, h.2⟩
  | infinity s => rw [hx] at h; cases h
  | nan s t => rw [hx] at h; cases h
end Go.Proofs.Ytejpamlaacffaaa
