/-
  Bounds of floats by powers of two. Conditions: none.
-/
import Derived.Test.YtjkpnnbahhlopaaSn
import Derived.Test.YtjkpnnbahhlopaaRoot
namespace Go.Proofs.Ytjkpnnbahhlopaa
open Go Go.RowKit

theorem cut_even_le {neg : Bool} {n drop c : Nat} (h : n ≤ c * 2 ^ drop) : Ieee.Toward.even.cut neg n drop ≤ c := by
  unfold Ieee.Toward.cut
  simp only [Nat.shiftLeft_eq, Nat.one_mul]
  by_cases hd : drop ≤ n.log2 + 2
  · rw [Nat.min_eq_left hd]
    have hp : 0 < 2 ^ drop := Nat.pow_pos (by omega)
    rcases Nat.lt_or_eq_of_le h with h1 | h1
    · have h2 : n / 2 ^ drop < c := (Nat.div_lt_iff_lt_mul hp).2 h1
      have h3 : ∀ b : Bool, b.toNat ≤ 1 := fun b => by cases b <;> decide
      exact Nat.le_trans (Nat.add_le_add_left (h3 _) _) h2
    · subst h1
      rw [Nat.mul_mod_left, Nat.mul_div_cancel _ hp]
      have e1 : decide (2 ^ drop < 2 * 0) = false := decide_eq_false (by omega)
      have e2 : (2 ^ drop == 2 * 0) = false := by
        rw [beq_eq_false_iff_ne]
        omega
      rw [e1, e2]
      simp
  · rw [Nat.min_eq_right (by omega)]
    have hlt : n < 2 ^ (n.log2 + 1) := Nat.lt_log2_self
    have hlt2 : 2 * n < 2 ^ (n.log2 + 2) := by rw [Nat.pow_succ]; omega
    have e0 : n / 2 ^ (n.log2 + 2) = 0 := Nat.div_eq_of_lt (by omega)
    have e1 : n % 2 ^ (n.log2 + 2) = n := Nat.mod_eq_of_lt (by omega)
    rw [e0, e1]
    have e2 : decide (2 ^ (n.log2 + 2) < 2 * n) = false := decide_eq_false (by omega)
    have e3 : (2 ^ (n.log2 + 2) == 2 * n) = false := by
      rw [beq_eq_false_iff_ne]
      omega
    rw [e2, e3]
    simp
/-- A number rounds to none greater than a power of two that it does not exceed. The power counts from the format's least place. -/
theorem nearest_le (f : Ieee.Format) (neg : Bool) (mag : Nat) (place : Int) (E : Nat) (hE : f.fractionBits ≤ E) (h : mag * 2 ^ (place - f.leastPlace).toNat ≤ 2 ^ E * 2 ^ (f.leastPlace - place).toNat) : ∃ r, r ≤ (E - f.fractionBits + 1) * f.binade ∧ r ≤ f.infRung ∧ f.nearest neg mag place = f.word neg r := by
  unfold Ieee.Format.nearest
  by_cases h0 : mag = 0
  · rw [if_pos h0]
    exact ⟨0, Nat.zero_le _, Nat.zero_le _, rfl⟩
  rw [if_neg h0]
  simp only
  refine ⟨_, Nat.le_trans (Nat.min_le_left _ _) ?_, Nat.min_le_right _ _, rfl⟩
  generalize hL : mag.log2 = L
  have hb : f.binade = 2 ^ f.fractionBits := rfl
  have hl1 : 2 ^ L ≤ mag := by rw [← hL]; exact Nat.log2_self_le h0
  have hl2 : mag < 2 ^ (L + 1) := by rw [← hL]; exact Nat.lt_log2_self
  -- the top digit
  have htop : L + (place - f.leastPlace).toNat ≤ E + (f.leastPlace - place).toNat := by
    have : 2 ^ (L + (place - f.leastPlace).toNat) ≤ 2 ^ (E + (f.leastPlace - place).toNat) := by
      rw [Nat.pow_add, Nat.pow_add]
      exact Nat.le_trans (Nat.mul_le_mul_right _ hl1) h
    exact (Nat.pow_le_pow_iff_right (by omega)).1 this
  by_cases hlast : place + (L : Int) - (f.fractionBits : Int) ≤ f.leastPlace
  · rw [Int.max_eq_right hlast, Int.sub_self]
    rw [show (0 : Int).toNat = 0 from rfl, Nat.zero_mul, Nat.zero_add]
    refine cut_even_le ?_
    rw [Nat.shiftLeft_eq]
    by_cases hE2 : E = f.fractionBits
    · subst hE2
      rw [Nat.sub_self, Nat.zero_add, Nat.one_mul, hb]
      exact h
    · have h2 : 2 ^ (f.fractionBits + 1) ≤ (E - f.fractionBits + 1) * 2 ^ f.fractionBits := by
        rw [Nat.pow_succ, Nat.mul_comm]
        exact Nat.mul_le_mul_right _ (by omega)
      rw [hb]
      refine Nat.le_trans ?_ (Nat.mul_le_mul_right _ h2)
      rw [← Nat.pow_add]
      have h3 : mag * 2 ^ (place - f.leastPlace).toNat ≤ 2 ^ (L + 1 + (place - f.leastPlace).toNat) := by
        rw [Nat.pow_add]
        exact Nat.mul_le_mul_right _ (Nat.le_of_lt hl2)
      exact Nat.le_trans h3 (Nat.pow_le_pow_right (by omega) (by omega))
  · rw [Int.max_eq_left (by omega)]
    generalize hq : (place + (L : Int) - (f.fractionBits : Int) - f.leastPlace).toNat = q
    have hq2 : place + (L : Int) - (f.fractionBits : Int) - f.leastPlace = (q : Int) := by omega
    have e1 : (place - (place + (L : Int) - (f.fractionBits : Int))).toNat = f.fractionBits - L := by omega
    have e2 : (place + (L : Int) - (f.fractionBits : Int) - place).toNat = L - f.fractionBits := by omega
    rw [e1, e2]
    have hqE : q + f.fractionBits ≤ E := by omega
    by_cases hqe : q + f.fractionBits = E
    · -- the number is the power itself
      have hm : mag ≤ 2 ^ L := by
        have h3 : L + (place - f.leastPlace).toNat = E + (f.leastPlace - place).toNat := by omega
        have h4 : mag * 2 ^ (place - f.leastPlace).toNat ≤ 2 ^ L * 2 ^ (place - f.leastPlace).toNat := by
          rw [← Nat.pow_add 2 L, h3, Nat.pow_add]
          exact h
        exact Nat.le_of_mul_le_mul_right h4 (Nat.pow_pos (by omega))
      have hcut : Ieee.Toward.even.cut neg (mag <<< (f.fractionBits - L)) (L - f.fractionBits) ≤ f.binade := by
        refine cut_even_le ?_
        rw [Nat.shiftLeft_eq, hb, ← Nat.pow_add]
        refine Nat.le_trans (Nat.mul_le_mul_right _ hm) ?_
        rw [← Nat.pow_add]
        exact Nat.pow_le_pow_right (by omega) (by omega)
      have e3 : E - f.fractionBits + 1 = q + 1 := by omega
      rw [e3, Nat.add_mul, Nat.one_mul]
      exact Nat.add_le_add_left hcut _
    · have hcut : Ieee.Toward.even.cut neg (mag <<< (f.fractionBits - L)) (L - f.fractionBits) ≤ 2 * f.binade := by
        refine cut_even_le ?_
        rw [Nat.shiftLeft_eq, hb]
        have e3 : 2 * 2 ^ f.fractionBits = 2 ^ (f.fractionBits + 1) := by rw [Nat.pow_succ, Nat.mul_comm]
        rw [e3, ← Nat.pow_add]
        refine Nat.le_trans (Nat.mul_le_mul_right _ (Nat.le_of_lt hl2)) ?_
        rw [← Nat.pow_add]
        exact Nat.pow_le_pow_right (by omega) (by omega)
      refine Nat.le_trans (Nat.add_le_add_left hcut _) ?_
      rw [← Nat.add_mul]
      exact Nat.mul_le_mul_right _ (by omega)

/-- The power is one of the format's numbers. -/
def Small (f : Ieee.Format) (E : Nat) : Prop := f.fractionBits ≤ E ∧ (E - f.fractionBits + 1) * f.binade < f.infRung
/-- A number of at most 2 to the power of E, from the format's least place on. -/
def LeD (f : Ieee.Format) (d : Ieee.Datum) (E : Nat) : Prop := ∃ s m i, d = .number s m i ∧ f.leastPlace ≤ i ∧ m * 2 ^ (i - f.leastPlace).toNat ≤ 2 ^ E
def Le (k : FloatKind) (X E : Nat) : Prop := LeD k.format (k.format.read X) E
theorem signed_abs (s : Bool) (m a : Nat) : (Ieee.signed s m a).natAbs = m * 2 ^ a := by
  unfold Ieee.signed
  rw [Nat.shiftLeft_eq]
  cases s
  · simp only [Bool.false_eq_true, if_false, Int.natAbs_natCast]
  · simp only [if_true, Int.natAbs_neg, Int.natAbs_natCast]
theorem sgnI_abs (s : Bool) (n : Nat) : (sgnI s n).natAbs = n := by unfold sgnI; cases s <;> simp
theorem rvq_le {b fb E r : Nat} (hb : b = 2 ^ fb) (hE : fb ≤ E) (h : r ≤ (E - fb + 1) * b) : rvq b (r / b) (r % b) ≤ 2 ^ E := by
  have hb0 : 0 < b := by rw [hb]; exact Nat.pow_pos (by omega)
  have hq : r / b ≤ E - fb + 1 := (Nat.div_le_iff_le_mul hb0).2 (by omega)
  by_cases hq2 : r / b ≤ E - fb
  · refine Nat.le_trans (Nat.le_of_lt (rvq_hi (Nat.mod_lt r hb0))) ?_
    rw [hb, ← Nat.pow_add]
    exact Nat.pow_le_pow_right (by omega) (by rw [← hb]; omega)
  · have hq3 : r / b = E - fb + 1 := by omega
    have hm := Nat.div_add_mod r b
    rw [hq3, Nat.mul_comm] at hm
    have ht : r % b = 0 := by omega
    rw [hq3, ht]
    unfold rvq
    rw [if_neg (by omega), Nat.add_zero, Nat.add_sub_cancel, hb, ← Nat.pow_add]
    exact Nat.pow_le_pow_right (by omega) (by omega)
theorem exp_pos (k : FloatKind) : 0 < k.format.exponentBits := by cases k <;> decide
theorem le_nearest {k : FloatKind} {neg : Bool} {mag : Nat} {place : Int} {E : Nat} (hs : Small k.format E) (h : mag * 2 ^ (place - k.format.leastPlace).toNat ≤ 2 ^ E * 2 ^ (k.format.leastPlace - place).toNat) : Le k (k.format.nearest neg mag place) E := by
  obtain ⟨r, h1, h2, h3⟩ := nearest_le k.format neg mag place E hs.1 h
  rw [h3]
  have hw := word_mod k.format neg (rung_lt_sign k.format h2)
  have hlt : r < k.format.infRung := Nat.lt_of_le_of_lt h1 hs.2
  rcases read_parts k.format (k.format.word neg r) (exp_pos k) (read_word_num k.format neg h2) with ⟨_, g1, m, i, g2⟩ | ⟨g1, _⟩
  · have hf := read_form k.format _ g2
    refine ⟨_, m, i, g2, hf.1, ?_⟩
    rw [hw, g2] at g1
    have g3 : (Ieee.signed (negW k.format (k.format.word neg r)) m (i - k.format.leastPlace).toNat).natAbs = (sgnI (negW k.format (k.format.word neg r)) (rvq k.format.binade (r / k.format.binade) (r % k.format.binade))).natAbs := congrArg Int.natAbs g1
    rw [signed_abs, sgnI_abs] at g3
    rw [g3]
    exact rvq_le rfl hs.1 h1
  · rw [hw] at g1
    omega
theorem le_of_write {k : FloatKind} {neg : Bool} {mag : Nat} {place : Int} {E : Nat} {o : Option Ieee.Datum} (ho : o = some (.number neg mag place)) (hs : Small k.format E) (h : mag * 2 ^ (place - k.format.leastPlace).toNat ≤ 2 ^ E * 2 ^ (k.format.leastPlace - place).toNat) : Le k ((o.map k.format.write).getD (nanOf k)) E := by
  subst ho
  exact le_nearest hs h
theorem sum_le {k : FloatKind} {d1 d2 : Ieee.Datum} {E : Nat} (h1 : LeD k.format d1 E) (h2 : LeD k.format d2 E) (hs : Small k.format (E + 1)) : Le k (((d1.sum d2).map k.format.write).getD (nanOf k)) (E + 1) := by
  obtain ⟨s, m, i, rfl, hi, hm⟩ := h1
  obtain ⟨t, n, j, rfl, hj, hn⟩ := h2
  refine le_of_write rfl hs ?_
  have e0 : (k.format.leastPlace - min i j).toNat = 0 := by omega
  rw [e0, Nat.pow_zero, Nat.mul_one]
  have ha : (Ieee.signed s m (i - min i j).toNat + Ieee.signed t n (j - min i j).toNat).natAbs ≤ m * 2 ^ (i - min i j).toNat + n * 2 ^ (j - min i j).toNat := by
    refine Nat.le_trans (Int.natAbs_add_le _ _) ?_
    rw [signed_abs, signed_abs]
    exact Nat.le_refl _
  refine Nat.le_trans (Nat.mul_le_mul_right _ ha) ?_
  rw [Nat.add_mul, Nat.mul_assoc, Nat.mul_assoc, ← Nat.pow_add, ← Nat.pow_add, show (i - min i j).toNat + (min i j - k.format.leastPlace).toNat = (i - k.format.leastPlace).toNat by omega, show (j - min i j).toNat + (min i j - k.format.leastPlace).toNat = (j - k.format.leastPlace).toNat by omega, Nat.pow_succ]
  omega
theorem LeD.opposite {f : Ieee.Format} {d : Ieee.Datum} {E : Nat} (h : LeD f d E) : LeD f d.opposite E := by
  obtain ⟨s, m, i, rfl, hi, hm⟩ := h
  exact ⟨!s, m, i, rfl, hi, hm⟩
theorem LeD.mono {f : Ieee.Format} {d : Ieee.Datum} {E F : Nat} (h : LeD f d E) (hE : E ≤ F) : LeD f d F := by
  obtain ⟨s, m, i, e, hi, hm⟩ := h
  exact ⟨s, m, i, e, hi, Nat.le_trans hm (Nat.pow_le_pow_right (by omega) hE)⟩
theorem le_sub {k : FloatKind} {X Y E : Nat} (h1 : Le k X E) (h2 : Le k Y E) (hs : Small k.format (E + 1)) : Le k (fop .sub k X Y) (E + 1) := sum_le h1 (LeD.opposite h2) hs
theorem lp_neg (k : FloatKind) : k.format.leastPlace ≤ 0 := by cases k <;> decide
theorem le_mul {k : FloatKind} {X Y E F G : Nat} (h1 : Le k X E) (h2 : Le k Y F) (hG : G + (-k.format.leastPlace).toNat = E + F) (hs : Small k.format G) : Le k (fop .mul k X Y) G := by
  obtain ⟨s, m, i, e1, hi, hm⟩ := h1
  obtain ⟨t, n, j, e2, hj, hn⟩ := h2
  have hlp := lp_neg k
  show Le k ((((k.format.read X).product (k.format.read Y)).map k.format.write).getD (nanOf k)) G
  rw [e1, e2]
  refine le_of_write rfl hs ?_
  generalize k.format.leastPlace = lp at *
  have hp : m * n * 2 ^ ((i - lp).toNat + (j - lp).toNat) ≤ 2 ^ (G + (-lp).toNat) := by
    rw [hG, Nat.pow_add, Nat.pow_add, Nat.mul_mul_mul_comm]
    exact Nat.mul_le_mul hm hn
  by_cases hd : 0 ≤ i + j - lp
  · have e3 : (lp - (i + j)).toNat = 0 := by omega
    have e4 : (i - lp).toNat + (j - lp).toNat = (i + j - lp).toNat + (-lp).toNat := by omega
    rw [e3, Nat.pow_zero, Nat.mul_one]
    rw [e4, Nat.pow_add, ← Nat.mul_assoc, Nat.pow_add] at hp
    exact Nat.le_of_mul_le_mul_right hp (Nat.pow_pos (by omega))
  · have e3 : (i + j - lp).toNat = 0 := by omega
    have e4 : (i - lp).toNat + (j - lp).toNat + (lp - (i + j)).toNat = (-lp).toNat := by omega
    rw [e3, Nat.pow_zero, Nat.mul_one]
    have hp2 := Nat.mul_le_mul_right (2 ^ (lp - (i + j)).toNat) hp
    rw [Nat.mul_assoc, ← Nat.pow_add, e4, Nat.pow_add, Nat.mul_right_comm (2 ^ G)] at hp2
    exact Nat.le_of_mul_le_mul_right hp2 (Nat.pow_pos (by omega))
/-- A constant. -/
theorem le_const {k : FloatKind} {X E : Nat} (h : (match k.format.read X with | .number _ m i => Nat.ble (m * 2 ^ (i - k.format.leastPlace).toNat) (2 ^ E) && decide (k.format.leastPlace ≤ i) | _ => false) = true) : Le k X E := by
  unfold Le
  cases hx : k.format.read X with
  | number s m i =>
    rw [hx] at h
    simp only [Bool.and_eq_true, decide_eq_true_eq] at h
    exact ⟨s, m, i, rfl, h.2, Nat.le_of_ble_eq_true h.1⟩
  | infinity s => rw [hx] at h; cases h
  | nan s t => rw [hx] at h; cases h
/-- A number that is not too great can be narrowed. -/
theorem le_fits {X E : Nat} (h : Le .f64 X E) (hE : E ≤ 1175) : fits .f64 .f32 X := by
  intro _
  obtain ⟨s, m, i, e, hi, hm⟩ := h
  have e1 : FloatKind.f64.decode X = .number s m i := e
  unfold floatToFloatBits
  rw [if_neg (by decide), e1]
  have l64 : FloatKind.f64.format.leastPlace = -1074 := by decide
  have l32 : FloatKind.f32.format.leastPlace = -149 := by decide
  rw [l64] at hi hm
  have hle : Le .f32 (FloatKind.f32.format.nearest s m i) 250 := by
    refine le_nearest ⟨by decide, by decide⟩ ?_
    rw [l32]
    obtain ⟨M, hM⟩ : ∃ M : Nat, M = 925 := ⟨_, rfl⟩
    obtain ⟨N, hN⟩ : ∃ N : Nat, N = 250 + M := ⟨_, rfl⟩
    have hm2 : m * 2 ^ (i - -1074).toNat ≤ 2 ^ N := Nat.le_trans hm (Nat.pow_le_pow_right (by omega) (by omega))
    by_cases hd : -149 ≤ i
    · rw [show (-149 - i).toNat = 0 by omega, Nat.pow_zero, Nat.mul_one]
      rw [show (i - -1074).toNat = (i - -149).toNat + M by omega, Nat.pow_add, ← Nat.mul_assoc] at hm2
      refine Nat.le_of_mul_le_mul_right (Nat.le_trans hm2 ?_) (Nat.pow_pos (n := M) (by omega : 0 < 2))
      rw [← Nat.pow_add, hN]
      exact Nat.le_refl _
    · rw [show (i - -149).toNat = 0 by omega, Nat.pow_zero, Nat.mul_one]
      have h3 := Nat.mul_le_mul_right (2 ^ (-149 - i).toNat) hm2
      rw [Nat.mul_assoc, ← Nat.pow_add, show (i - -1074).toNat + (-149 - i).toNat = M by omega] at h3
      refine Nat.le_of_mul_le_mul_right (Nat.le_trans h3 ?_) (Nat.pow_pos (n := M) (by omega : 0 < 2))
      rw [Nat.mul_right_comm, ← Nat.pow_add 2 250 M, ← hN]
      exact Nat.le_refl _
  obtain ⟨s2, m2, i2, e2, _⟩ := hle
  have e3 : FloatKind.f32.decode (FloatKind.f32.encode (.number s m i)) = .number s2 m2 i2 := e2
  simp only [e3]
  rfl

theorem div_le_pow {D n T : Nat} (hn : 0 < n) (h : D ≤ n * 2 ^ T) : 2 * (D / n) + (D % n != 0).toNat ≤ 2 ^ (T + 1) := by
  rw [Nat.pow_succ]
  rcases Nat.lt_or_eq_of_le h with h1 | h1
  · have h2 : D / n < 2 ^ T := (Nat.div_lt_iff_lt_mul hn).2 (by rw [Nat.mul_comm]; exact h1)
    have h3 : ∀ b : Bool, b.toNat ≤ 1 := fun b => by cases b <;> decide
    have := h3 (D % n != 0)
    omega
  · subst h1
    rw [Nat.mul_div_cancel_left _ hn, Nat.mul_mod_right]
    simp
    omega
theorem quo_le {k : FloatKind} {s t : Bool} {m n F G : Nat} {i j : Int} (hi : k.format.leastPlace ≤ i) (hj : k.format.leastPlace ≤ j) (hn : n ≠ 0) (hxy : m * 2 ^ (i - k.format.leastPlace).toNat ≤ 2 ^ F * (n * 2 ^ (j - k.format.leastPlace).toNat)) (hG : G = F + (-k.format.leastPlace).toNat) (hs : Small k.format G) : Le k ((((Ieee.Datum.number s m i).quotient (k.format.fractionBits + 2) (.number t n j)).map k.format.write).getD (nanOf k)) G := by
  have hlp := lp_neg k
  refine le_of_write (neg := Bool.xor s t) (mag := 2 * (m <<< (k.format.fractionBits + 2 + n.log2 - m.log2) / n) + (m <<< (k.format.fractionBits + 2 + n.log2 - m.log2) % n != 0).toNat) (place := i - j - ((k.format.fractionBits + 2 + n.log2 - m.log2 : Nat) : Int) - 1) ?_ hs ?_
  · simp only [Ieee.Datum.quotient]
    rw [if_neg hn]
  generalize k.format.leastPlace = lp at *
  generalize hfb : k.format.fractionBits = fb at *
  generalize hmo : fb + 2 + n.log2 - m.log2 = more
  rw [Nat.shiftLeft_eq]
  have hn0 : 0 < n := by omega
  by_cases hm : m = 0
  · subst hm
    rw [Nat.zero_mul, Nat.zero_div, Nat.zero_mod]
    simp
  have hlm := Nat.log2_self_le hm
  have hln : n < 2 ^ (n.log2 + 1) := Nat.lt_log2_self
  have hDn : n < m * 2 ^ more := by
    refine Nat.lt_of_lt_of_le hln ?_
    refine Nat.le_trans (Nat.pow_le_pow_right (by omega) (show n.log2 + 1 ≤ m.log2 + more by omega)) ?_
    rw [Nat.pow_add]
    exact Nat.mul_le_mul_right _ hlm
  have hx : m * 2 ^ more * 2 ^ (i - lp).toNat ≤ n * 2 ^ (F + (j - lp).toNat + more) := by
    have := Nat.mul_le_mul_right (2 ^ more) hxy
    rw [Nat.mul_right_comm] at this
    refine Nat.le_trans this (Nat.le_of_eq ?_)
    rw [Nat.pow_add, Nat.pow_add, ← Nat.mul_assoc, ← Nat.mul_assoc, ← Nat.mul_assoc, Nat.mul_comm (2 ^ F) n]
  have hT : (i - lp).toNat ≤ F + (j - lp).toNat + more := by
    rcases Nat.lt_or_ge (F + (j - lp).toNat + more) (i - lp).toNat with h | h
    · exfalso
      have h2 : n * 2 ^ (F + (j - lp).toNat + more) ≤ n * 2 ^ (i - lp).toNat := Nat.mul_le_mul_left _ (Nat.pow_le_pow_right (by omega) (by omega))
      have h3 := Nat.le_trans hx h2
      have := Nat.le_of_mul_le_mul_right h3 (Nat.pow_pos (by omega))
      omega
    · exact h
  generalize hTT : F + (j - lp).toNat + more - (i - lp).toNat = T
  have hD : m * 2 ^ more ≤ n * 2 ^ T := by
    rw [show F + (j - lp).toNat + more = T + (i - lp).toNat by omega, Nat.pow_add, ← Nat.mul_assoc] at hx
    exact Nat.le_of_mul_le_mul_right hx (Nat.pow_pos (by omega))
  have hM := div_le_pow hn0 hD
  by_cases hd : lp ≤ i - j - (more : Int) - 1
  · rw [show (lp - (i - j - (more : Int) - 1)).toNat = 0 by omega, Nat.pow_zero, Nat.mul_one]
    refine Nat.le_trans (Nat.mul_le_mul_right _ hM) ?_
    rw [← Nat.pow_add]
    exact Nat.pow_le_pow_right (by omega) (by omega)
  · rw [show (i - j - (more : Int) - 1 - lp).toNat = 0 by omega, Nat.pow_zero, Nat.mul_one]
    refine Nat.le_trans hM ?_
    rw [← Nat.pow_add]
    exact Nat.pow_le_pow_right (by omega) (by omega)
/-- A number that is not less than one, apart from its sign. -/
def Ge1 (k : FloatKind) (X : Nat) : Prop := ∃ s m i, k.format.read X = .number s m i ∧ k.format.leastPlace ≤ i ∧ 2 ^ (-k.format.leastPlace).toNat ≤ m * 2 ^ (i - k.format.leastPlace).toNat
theorem ge1_const {k : FloatKind} {X : Nat} (h : (match k.format.read X with | .number _ m i => Nat.ble (2 ^ (-k.format.leastPlace).toNat) (m * 2 ^ (i - k.format.leastPlace).toNat) && decide (k.format.leastPlace ≤ i) | _ => false) = true) : Ge1 k X := by
  unfold Ge1
  cases hx : k.format.read X with
  | number s m i =>
    rw [hx] at h
    simp only [Bool.and_eq_true, decide_eq_true_eq] at h
    exact ⟨s, m, i, rfl, h.2, Nat.le_of_ble_eq_true h.1⟩
  | infinity s => rw [hx] at h; cases h
  | nan s t => rw [hx] at h; cases h
theorem le_quo {k : FloatKind} {X Y E : Nat} (h1 : Le k X E) (h2 : Ge1 k Y) (hE : (-k.format.leastPlace).toNat ≤ E) (hs : Small k.format E) : Le k (fop .quo k X Y) E := by
  obtain ⟨s, m, i, e1, hi, hm⟩ := h1
  obtain ⟨t, n, j, e2, hj, hn⟩ := h2
  show Le k ((((k.format.read X).quotient (k.format.fractionBits + 2) (k.format.read Y)).map k.format.write).getD (nanOf k)) E
  rw [e1, e2]
  have hn0 : n ≠ 0 := fun h => by
    rw [h, Nat.zero_mul] at hn
    have := Nat.pow_pos (n := (-k.format.leastPlace).toNat) (show 0 < 2 by omega)
    omega
  refine quo_le (F := E - (-k.format.leastPlace).toNat) hi hj hn0 (Nat.le_trans hm ?_) (by omega) hs
  refine Nat.le_trans ?_ (Nat.mul_le_mul_left _ hn)
  rw [← Nat.pow_add]
  exact Nat.pow_le_pow_right (by omega) (by omega)

theorem cut_even_ge {neg : Bool} {n drop c : Nat} (h : c * 2 ^ drop ≤ n) : c ≤ Ieee.Toward.even.cut neg n drop := by
  unfold Ieee.Toward.cut
  simp only [Nat.shiftLeft_eq, Nat.one_mul]
  refine Nat.le_trans ?_ (Nat.le_add_right _ _)
  by_cases hd : drop ≤ n.log2 + 2
  · rw [Nat.min_eq_left hd]
    exact (Nat.le_div_iff_mul_le (Nat.pow_pos (by omega))).2 h
  · have hlt : n < 2 ^ (n.log2 + 1) := Nat.lt_log2_self
    have h2 : n < 2 ^ drop := Nat.lt_of_lt_of_le hlt (Nat.pow_le_pow_right (by omega) (by omega))
    rcases Nat.eq_zero_or_pos c with h0 | h0
    · rw [h0]
      exact Nat.zero_le _
    · have : 1 * 2 ^ drop ≤ c * 2 ^ drop := Nat.mul_le_mul_right _ h0
      omega
/-- A number rounds to none less than a power of two that it reaches. -/
theorem nearest_ge (f : Ieee.Format) (neg : Bool) (mag : Nat) (place : Int) (E : Nat) (hE : f.fractionBits ≤ E) (hI : (E - f.fractionBits + 1) * f.binade ≤ f.infRung) (h : 2 ^ E * 2 ^ (f.leastPlace - place).toNat ≤ mag * 2 ^ (place - f.leastPlace).toNat) : ∃ r, (E - f.fractionBits + 1) * f.binade ≤ r ∧ r ≤ f.infRung ∧ f.nearest neg mag place = f.word neg r := by
  have h0 : mag ≠ 0 := fun e => by
    rw [e, Nat.zero_mul, ← Nat.pow_add] at h
    have := Nat.pow_pos (n := E + (f.leastPlace - place).toNat) (show 0 < 2 by omega)
    omega
  unfold Ieee.Format.nearest
  rw [if_neg h0]
  simp only
  refine ⟨_, ?_, Nat.min_le_right _ _, rfl⟩
  generalize hL : mag.log2 = L
  have hb : f.binade = 2 ^ f.fractionBits := rfl
  have hl1 : 2 ^ L ≤ mag := by rw [← hL]; exact Nat.log2_self_le h0
  have hl2 : mag < 2 ^ (L + 1) := by rw [← hL]; exact Nat.lt_log2_self
  have htop : E + (f.leastPlace - place).toNat < L + 1 + (place - f.leastPlace).toNat := by
    have : 2 ^ (E + (f.leastPlace - place).toNat) < 2 ^ (L + 1 + (place - f.leastPlace).toNat) := by
      rw [Nat.pow_add, Nat.pow_add 2 (L + 1)]
      exact Nat.lt_of_le_of_lt h (Nat.mul_lt_mul_of_pos_right hl2 (Nat.pow_pos (by omega)))
    exact (Nat.pow_lt_pow_iff_right (by omega)).1 this
  rw [Int.max_eq_left (by omega)]
  have e1 : (place - (place + (L : Int) - (f.fractionBits : Int))).toNat = f.fractionBits - L := by omega
  have e2 : (place + (L : Int) - (f.fractionBits : Int) - place).toNat = L - f.fractionBits := by omega
  rw [e1, e2]
  have hcut : f.binade ≤ Ieee.Toward.even.cut neg (mag <<< (f.fractionBits - L)) (L - f.fractionBits) := by
    refine cut_even_ge ?_
    rw [Nat.shiftLeft_eq, hb, ← Nat.pow_add]
    refine Nat.le_trans ?_ (Nat.mul_le_mul_right _ hl1)
    rw [← Nat.pow_add]
    exact Nat.pow_le_pow_right (by omega) (by omega)
  refine Nat.le_min.2 ⟨?_, hI⟩
  rw [Nat.add_mul, Nat.one_mul]
  exact Nat.add_le_add (Nat.mul_le_mul_right _ (by omega)) hcut
/-- No NaN, and not less than one; or an infinity; or a NaN. -/
inductive Den (k : FloatKind) (X : Nat) : Prop where
  | nan (h : isNan k X = true)
  | inf {s : Bool} (h : k.format.read X = .infinity s)
  | num (h : Ge1 k X)
def LeN (k : FloatKind) (X E : Nat) : Prop := isNan k X = true ∨ Le k X E
theorem den_of_nearest {k : FloatKind} {neg : Bool} {mag : Nat} {place : Int} (hP : k.format.fractionBits ≤ (-k.format.leastPlace).toNat) (hI : ((-k.format.leastPlace).toNat - k.format.fractionBits + 1) * k.format.binade ≤ k.format.infRung) (h : 2 ^ (-k.format.leastPlace).toNat * 2 ^ (k.format.leastPlace - place).toNat ≤ mag * 2 ^ (place - k.format.leastPlace).toNat) : Den k (k.format.nearest neg mag place) := by
  obtain ⟨r, h1, h2, h3⟩ := nearest_ge k.format neg mag place _ hP hI h
  rw [h3]
  have hw := word_mod k.format neg (rung_lt_sign k.format h2)
  rcases read_parts k.format (k.format.word neg r) (exp_pos k) (read_word_num k.format neg h2) with ⟨_, g1, m, i, g2⟩ | ⟨_, g2⟩
  · have hf := read_form k.format _ g2
    refine .num ⟨_, m, i, g2, hf.1, ?_⟩
    rw [hw, g2] at g1
    have g3 : (Ieee.signed (negW k.format (k.format.word neg r)) m (i - k.format.leastPlace).toNat).natAbs = (sgnI (negW k.format (k.format.word neg r)) (rvq k.format.binade (r / k.format.binade) (r % k.format.binade))).natAbs := congrArg Int.natAbs g1
    rw [signed_abs, sgnI_abs] at g3
    rw [g3]
    have hb0 : 0 < k.format.binade := Nat.pow_pos (by omega)
    have hq : (-k.format.leastPlace).toNat - k.format.fractionBits + 1 ≤ r / k.format.binade := (Nat.le_div_iff_mul_le hb0).2 h1
    refine Nat.le_trans ?_ (rvq_lo (by omega))
    show _ ≤ 2 ^ k.format.fractionBits * _
    rw [← Nat.pow_add]
    exact Nat.pow_le_pow_right (by omega) (by omega)
  · exact .inf g2
/-- The root's datum. -/
theorem root_sign {n : Nat} {d r : Ieee.Datum} (h : d.root n = some r) : (∃ m i, r = .number false m i) ∨ (∃ s i, r = .number s 0 i) ∨ r = .infinity false := by
  cases d <;> simp only [Ieee.Datum.root] at h
  case number s m i =>
    split at h
    · rename_i h0
      subst h0
      injection h with h
      exact .inr (.inl ⟨_, _, h.symm⟩)
    · split at h
      · cases h
      · injection h with h
        exact .inl ⟨_, _, h.symm⟩
  case infinity s =>
    split at h
    · cases h
    · rename_i hs
      have hs : s = false := by simpa using hs
      subst hs
      injection h with h
      exact .inr (.inr h.symm)
  case nan => cases h
theorem one64 : FloatKind.f64.format.read 4607182418800017408 = .number false 4503599627370496 (-52) := by decide +kernel
/-- One and a root. -/
theorem den_root (V : Nat) : Den .f64 (fop .add .f64 4607182418800017408 (fsqrt V)) := by
  have lp : FloatKind.f64.format.leastPlace = -1074 := by decide
  have hS : isNan .f64 (fsqrt V) = true ∨ (∃ s m i, FloatKind.f64.format.read (fsqrt V) = .number s m i ∧ (s = false ∨ m = 0)) ∨ FloatKind.f64.format.read (fsqrt V) = .infinity false := by
    unfold fsqrt Ieee.Format.sqrt
    cases h : (FloatKind.f64.format.read V).root (FloatKind.f64.format.fractionBits + 2) with
    | none => exact .inl (isNan_nanOf .f64)
    | some r =>
      right
      show (∃ s m i, FloatKind.f64.format.read (FloatKind.f64.format.write r) = .number s m i ∧ (s = false ∨ m = 0)) ∨ FloatKind.f64.format.read (FloatKind.f64.format.write r) = .infinity false
      rcases root_sign h with ⟨m, i, rfl⟩ | ⟨s, i, rfl⟩ | rfl
      · obtain ⟨q, h1, h2⟩ := nearest_form FloatKind.f64.format false m i
        have e : FloatKind.f64.format.write (.number false m i) = FloatKind.f64.format.word false q := h2
        rw [e]
        have hw := word_mod FloatKind.f64.format false (rung_lt_sign FloatKind.f64.format h1)
        rcases read_parts FloatKind.f64.format (FloatKind.f64.format.word false q) (exp_pos .f64) (read_word_num FloatKind.f64.format false h1) with ⟨_, _, m2, i2, g2⟩ | ⟨_, g2⟩
        · refine .inl ⟨_, m2, i2, g2, .inl ?_⟩
          unfold negW Ieee.Format.word
          have hq := rung_lt_sign FloatKind.f64.format h1
          simp [Nat.div_eq_of_lt hq]
        · right
          rw [g2]
          have : negW FloatKind.f64.format (FloatKind.f64.format.word false q) = false := by
            unfold negW Ieee.Format.word
            have hq := rung_lt_sign FloatKind.f64.format h1
            simp [Nat.div_eq_of_lt hq]
          rw [this]
      · left
        have e : FloatKind.f64.format.write (.number s 0 i) = FloatKind.f64.format.word s 0 := nearest_zero _ _ _
        rw [e]
        cases s
        · exact ⟨false, 0, -1074, by decide +kernel, .inl rfl⟩
        · exact ⟨true, 0, -1074, by decide +kernel, .inr rfl⟩
      · right
        decide +kernel
  rcases hS with h | ⟨s, m, i, h, hs⟩ | h
  · refine .nan ?_
    unfold fop
    rw [floatBits_nan_right h]
    exact isNan_nanOf .f64
  · have hf := read_form FloatKind.f64.format _ h
    show Den .f64 ((((FloatKind.f64.format.read 4607182418800017408).sum (FloatKind.f64.format.read (fsqrt V))).map FloatKind.f64.format.write).getD (nanOf .f64))
    rw [one64, h]
    have hi : (-1074 : Int) ≤ i := by rw [← lp]; exact hf.1
    refine den_of_nearest (by decide) (by decide) ?_
    rw [lp]
    rw [show (-1074 - min (-52) i).toNat = 0 by omega, Nat.pow_zero, Nat.mul_one]
    have ht : (Ieee.signed false 4503599627370496 (-52 - min (-52) i).toNat + Ieee.signed s m (i - min (-52) i).toNat).natAbs = 4503599627370496 * 2 ^ (-52 - min (-52) i).toNat + m * 2 ^ (i - min (-52) i).toNat := by
      rcases hs with rfl | rfl
      · unfold Ieee.signed
        rw [Nat.shiftLeft_eq, Nat.shiftLeft_eq]
        simp only [Bool.false_eq_true, if_false]
        rw [← Int.natCast_add, Int.natAbs_natCast]
      · have hz : Ieee.signed s 0 (i - min (-52) i).toNat = 0 := by
          unfold Ieee.signed
          rw [Nat.shiftLeft_eq, Nat.zero_mul]
          cases s <;> rfl
        rw [hz, Int.add_zero, signed_abs, Nat.zero_mul, Nat.add_zero]
    rw [ht]
    refine Nat.le_trans ?_ (Nat.mul_le_mul_right _ (Nat.le_add_right _ _))
    obtain ⟨N, hN⟩ : ∃ N : Nat, N = 1022 := ⟨_, rfl⟩
    rw [Nat.mul_assoc, ← Nat.pow_add, show (-52 - min (-52) i).toNat + (min (-52) i - -1074).toNat = N by omega, show (4503599627370496 : Nat) = 2 ^ 52 by decide, ← Nat.pow_add]
    exact Nat.pow_le_pow_right (by omega) (by omega)
  · refine .inf (s := false) ?_
    show FloatKind.f64.format.read ((((FloatKind.f64.format.read 4607182418800017408).sum (FloatKind.f64.format.read (fsqrt V))).map FloatKind.f64.format.write).getD (nanOf .f64)) = _
    rw [one64, h]
    decide +kernel
end Go.Proofs.Ytjkpnnbahhlopaa
