/-
  The base texts, joined. Conditions: none.
-/
import Derived.Test.YtejpamlaacffaaaSn
import Derived.Test.YtejpamlaacffaaaRoot
import Derived.Test.YtejpamlaacffaaaCon
import Derived.Test.YtejpamlaacffaaaBr
import Derived.Test.YtejpamlaacffaaaSu
import Derived.Test.YtejpamlaacffaaaSm
/-
  Bounds of floats by powers of two. Conditions: none.
-/
namespace Go.Proofs.Ytejpamlaacffaaa
open Go Go.RowKit

theorem cut_even_le {neg : Bool} {n drop c : Nat} (h : n ≤ c * 2 ^ drop) : Ieee.Toward.even.cut neg n drop ≤ c := by
  unfold Ieee.Toward.cut
  simp only [Nat.shiftLeft_eq, Nat.one_mul]
  by_cases hd : drop ≤ n.log2 + 2
  · rw [Nat.min_eq_left hd]
    have hp : 0 < 2 ^ drop := Nat.pow_pos (by omega)
    rcases Nat.lt_or_eq_of_le h with h1 | h1
    · have h2 : n / 2 ^ drop < c := (Nat.div_lt_iff_lt_mul hp).2 h1
      have h3 : ∀ b : Bool, b.toNat ≤ 1 := fun b => by cases b <;> decide
      exact Nat.le_trans (Nat.add_le_add_left (h3 _) _) h2
    · subst h1
      rw [Nat.mul_mod_left, Nat.mul_div_cancel _ hp]
      have e1 : decide (2 ^ drop < 2 * 0) = false := decide_eq_false (by omega)
      have e2 : (2 ^ drop == 2 * 0) = false := by
        rw [beq_eq_false_iff_ne]
        omega
      rw [e1, e2]
      simp
  · rw [Nat.min_eq_right (by omega)]
    have hlt : n < 2 ^ (n.log2 + 1) := Nat.lt_log2_self
    have hlt2 : 2 * n < 2 ^ (n.log2 + 2) := by rw [Nat.pow_succ]; omega
    have e0 : n / 2 ^ (n.log2 + 2) = 0 := Nat.div_eq_of_lt (by omega)
    have e1 : n % 2 ^ (n.log2 + 2) = n := Nat.mod_eq_of_lt (by omega)
    rw [e0, e1]
    have e2 : decide (2 ^ (n.log2 + 2) < 2 * n) = false := decide_eq_false (by omega)
    have e3 : (2 ^ (n.log2 + 2) == 2 * n) = false := by
      rw [beq_eq_false_iff_ne]
      omega
    rw [e2, e3]
    simp
/-- A number rounds to none greater than a power of two that it does not exceed. The power counts from the format's least place. -/
theorem nearest_le (f : Ieee.Format) (neg : Bool) (mag : Nat) (place : Int) (E : Nat) (hE : f.fractionBits ≤ E) (h : mag * 2 ^ (place - f.leastPlace).toNat ≤ 2 ^ E * 2 ^ (f.leastPlace - place).toNat) : ∃ r, r ≤ (E - f.fractionBits + 1) * f.binade ∧ r ≤ f.infRung ∧ f.nearest neg mag place = f.word neg r := by
  unfold Ieee.Format.nearest
  by_cases h0 : mag = 0
  · rw [if_pos h0]
    exact ⟨0, Nat.zero_le _, Nat.zero_le _, rfl⟩
  rw [if_neg h0]
  simp only
  refine ⟨_, Nat.le_trans (Nat.min_le_left _ _) ?_, Nat.min_le_right _ _, rfl⟩
  generalize hL : mag.log2 = L
  have hb : f.binade = 2 ^ f.fractionBits := rfl
  have hl1 : 2 ^ L ≤ mag := by rw [← hL]; exact Nat.log2_self_le h0
  have hl2 : mag < 2 ^ (L + 1) := by rw [← hL]; exact Nat.lt_log2_self
  -- the top digit
  have htop : L + (place - f.leastPlace).toNat ≤ E + (f.leastPlace - place).toNat := by
    have : 2 ^ (L + (place - f.leastPlace).toNat) ≤ 2 ^ (E + (f.leastPlace - place).toNat) := by
      rw [Nat.pow_add, Nat.pow_add]
      exact Nat.le_trans (Nat.mul_le_mul_right _ hl1) h
    exact (Nat.pow_le_pow_iff_right (by omega)).1 this
  by_cases hlast : place + (L : Int) - (f.fractionBits : Int) ≤ f.leastPlace
  · rw [Int.max_eq_right hlast, Int.sub_self]
    rw [show (0 : Int).toNat = 0 from rfl, Nat.zero_mul, Nat.zero_add]
    refine cut_even_le ?_
    rw [Nat.shiftLeft_eq]
    by_cases hE2 : E = f.fractionBits
    · subst hE2
      rw [Nat.sub_self, Nat.zero_add, Nat.one_mul, hb]
      exact h
    · have h2 : 2 ^ (f.fractionBits + 1) ≤ (E - f.fractionBits + 1) * 2 ^ f.fractionBits := by
        rw [Nat.pow_succ, Nat.mul_comm]
        exact Nat.mul_le_mul_right _ (by omega)
      rw [hb]
      refine Nat.le_trans ?_ (Nat.mul_le_mul_right _ h2)
      rw [← Nat.pow_add]
      have h3 : mag * 2 ^ (place - f.leastPlace).toNat ≤ 2 ^ (L + 1 + (place - f.leastPlace).toNat) := by
        rw [Nat.pow_add]
        exact Nat.mul_le_mul_right _ (Nat.le_of_lt hl2)
      exact Nat.le_trans h3 (Nat.pow_le_pow_right (by omega) (by omega))
  · rw [Int.max_eq_left (by omega)]
    generalize hq : (place + (L : Int) - (f.fractionBits : Int) - f.leastPlace).toNat = q
    have hq2 : place + (L : Int) - (f.fractionBits : Int) - f.leastPlace = (q : Int) := by omega
    have e1 : (place - (place + (L : Int) - (f.fractionBits : Int))).toNat = f.fractionBits - L := by omega
    have e2 : (place + (L : Int) - (f.fractionBits : Int) - place).toNat = L - f.fractionBits := by omega
    rw [e1, e2]
    have hqE : q + f.fractionBits ≤ E := by omega
    by_cases hqe : q + f.fractionBits = E
    · -- the number is the power itself
      have hm : mag ≤ 2 ^ L := by
        have h3 : L + (place - f.leastPlace).toNat = E + (f.leastPlace - place).toNat := by omega
        have h4 : mag * 2 ^ (place - f.leastPlace).toNat ≤ 2 ^ L * 2 ^ (place - f.leastPlace).toNat := by
          rw [← Nat.pow_add 2 L, h3, Nat.pow_add]
          exact h
        exact Nat.le_of_mul_le_mul_right h4 (Nat.pow_pos (by omega))
      have hcut : Ieee.Toward.even.cut neg (mag <<< (f.fractionBits - L)) (L - f.fractionBits) ≤ f.binade := by
        refine cut_even_le ?_
        rw [Nat.shiftLeft_eq, hb, ← Nat.pow_add]
        refine Nat.le_trans (Nat.mul_le_mul_right _ hm) ?_
        rw [← Nat.pow_add]
        exact Nat.pow_le_pow_right (by omega) (by omega)
      have e3 : E - f.fractionBits + 1 = q + 1 := by omega
      rw [e3, Nat.add_mul, Nat.one_mul]
      exact Nat.add_le_add_left hcut _
    · have hcut : Ieee.Toward.even.cut neg (mag <<< (f.fractionBits - L)) (L - f.fractionBits) ≤ 2 * f.binade := by
        refine cut_even_le ?_
        rw [Nat.shiftLeft_eq, hb]
        have e3 : 2 * 2 ^ f.fractionBits = 2 ^ (f.fractionBits + 1) := by rw [Nat.pow_succ, Nat.mul_comm]
        rw [e3, ← Nat.pow_add]
        refine Nat.le_trans (Nat.mul_le_mul_right _ (Nat.le_of_lt hl2)) ?_
        rw [← Nat.pow_add]
        exact Nat.pow_le_pow_right (by omega) (by omega)
      refine Nat.le_trans (Nat.add_le_add_left hcut _) ?_
      rw [← Nat.add_mul]
      exact Nat.mul_le_mul_right _ (by omega)

/-- The power is one of the format's numbers. -/
def Small (f : Ieee.Format) (E : Nat) : Prop := f.fractionBits ≤ E ∧ (E - f.fractionBits + 1) * f.binade < f.infRung
/-- A number of at most 2 to the power of E, from the format's least place on. -/
def LeD (f : Ieee.Format) (d : Ieee.Datum) (E : Nat) : Prop := ∃ s m i, d = .number s m i ∧ f.leastPlace ≤ i ∧ m * 2 ^ (i - f.leastPlace).toNat ≤ 2 ^ E
def Le (k : FloatKind) (X E : Nat) : Prop := LeD k.format (k.format.read X) E
theorem signed_abs (s : Bool) (m a : Nat) : (Ieee.signed s m a).natAbs = m * 2 ^ a := by
  unfold Ieee.signed
  rw [Nat.shiftLeft_eq]
  cases s
  · simp only [Bool.false_eq_true, if_false, Int.natAbs_natCast]
  · simp only [if_true, Int.natAbs_neg, Int.natAbs_natCast]
theorem sgnI_abs (s : Bool) (n : Nat) : (sgnI s n).natAbs = n := by unfold sgnI; cases s <;> simp
theorem rvq_le {b fb E r : Nat} (hb : b = 2 ^ fb) (hE : fb ≤ E) (h : r ≤ (E - fb + 1) * b) : rvq b (r / b) (r % b) ≤ 2 ^ E := by
  have hb0 : 0 < b := by rw [hb]; exact Nat.pow_pos (by omega)
  have hq : r / b ≤ E - fb + 1 := (Nat.div_le_iff_le_mul hb0).2 (by omega)
  by_cases hq2 : r / b ≤ E - fb
  · refine Nat.le_trans (Nat.le_of_lt (rvq_hi (Nat.mod_lt r hb0))) ?_
    rw [hb, ← Nat.pow_add]
    exact Nat.pow_le_pow_right (by omega) (by rw [← hb]; omega)
  · have hq3 : r / b = E - fb + 1 := by omega
    have hm := Nat.div_add_mod r b
    rw [hq3, Nat.mul_comm] at hm
    have ht : r % b = 0 := by omega
    rw [hq3, ht]
    unfold rvq
    rw [if_neg (by omega), Nat.add_zero, Nat.add_sub_cancel, hb, ← Nat.pow_add]
    exact Nat.pow_le_pow_right (by omega) (by omega)
theorem exp_pos (k : FloatKind) : 0 < k.format.exponentBits := by cases k <;> decide
theorem le_nearest {k : FloatKind} {neg : Bool} {mag : Nat} {place : Int} {E : Nat} (hs : Small k.format E) (h : mag * 2 ^ (place - k.format.leastPlace).toNat ≤ 2 ^ E * 2 ^ (k.format.leastPlace - place).toNat) : Le k (k.format.nearest neg mag place) E := by
  obtain ⟨r, h1, h2, h3⟩ := nearest_le k.format neg mag place E hs.1 h
  rw [h3]
  have hw := word_mod k.format neg (rung_lt_sign k.format h2)
  have hlt : r < k.format.infRung := Nat.lt_of_le_of_lt h1 hs.2
  rcases read_parts k.format (k.format.word neg r) (exp_pos k) (read_word_num k.format neg h2) with ⟨_, g1, m, i, g2⟩ | ⟨g1, _⟩
  · have hf := read_form k.format _ g2
    refine ⟨_, m, i, g2, hf.1, ?_⟩
    rw [hw, g2] at g1
    have g3 : (Ieee.signed (negW k.format (k.format.word neg r)) m (i - k.format.leastPlace).toNat).natAbs = (sgnI (negW k.format (k.format.word neg r)) (rvq k.format.binade (r / k.format.binade) (r % k.format.binade))).natAbs := congrArg Int.natAbs g1
    rw [signed_abs, sgnI_abs] at g3
    rw [g3]
    exact rvq_le rfl hs.1 h1
  · rw [hw] at g1
    omega
theorem le_of_write {k : FloatKind} {neg : Bool} {mag : Nat} {place : Int} {E : Nat} {o : Option Ieee.Datum} (ho : o = some (.number neg mag place)) (hs : Small k.format E) (h : mag * 2 ^ (place - k.format.leastPlace).toNat ≤ 2 ^ E * 2 ^ (k.format.leastPlace - place).toNat) : Le k ((o.map k.format.write).getD (nanOf k)) E := by
  subst ho
  exact le_nearest hs h
theorem sum_le {k : FloatKind} {d1 d2 : Ieee.Datum} {E : Nat} (h1 : LeD k.format d1 E) (h2 : LeD k.format d2 E) (hs : Small k.format (E + 1)) : Le k (((d1.sum d2).map k.format.write).getD (nanOf k)) (E + 1) := by
  obtain ⟨s, m, i, rfl, hi, hm⟩ := h1
  obtain ⟨t, n, j, rfl, hj, hn⟩ := h2
  refine le_of_write rfl hs ?_
  have e0 : (k.format.leastPlace - min i j).toNat = 0 := by omega
  rw [e0, Nat.pow_zero, Nat.mul_one]
  have ha : (Ieee.signed s m (i - min i j).toNat + Ieee.signed t n (j - min i j).toNat).natAbs ≤ m * 2 ^ (i - min i j).toNat + n * 2 ^ (j - min i j).toNat := by
    refine Nat.le_trans (Int.natAbs_add_le _ _) ?_
    rw [signed_abs, signed_abs]
    exact Nat.le_refl _
  refine Nat.le_trans (Nat.mul_le_mul_right _ ha) ?_
  rw [Nat.add_mul, Nat.mul_assoc, Nat.mul_assoc, ← Nat.pow_add, ← Nat.pow_add, show (i - min i j).toNat + (min i j - k.format.leastPlace).toNat = (i - k.format.leastPlace).toNat by omega, show (j - min i j).toNat + (min i j - k.format.leastPlace).toNat = (j - k.format.leastPlace).toNat by omega, Nat.pow_succ]
  omega
theorem LeD.opposite {f : Ieee.Format} {d : Ieee.Datum} {E : Nat} (h : LeD f d E) : LeD f d.opposite E := by
  obtain ⟨s, m, i, rfl, hi, hm⟩ := h
  exact ⟨!s, m, i, rfl, hi, hm⟩
theorem LeD.mono {f : Ieee.Format} {d : Ieee.Datum} {E F : Nat} (h : LeD f d E) (hE : E ≤ F) : LeD f d F := by
  obtain ⟨s, m, i, e, hi, hm⟩ := h
  exact ⟨s, m, i, e, hi, Nat.le_trans hm (Nat.pow_le_pow_right (by omega) hE)⟩
theorem le_sub {k : FloatKind} {X Y E : Nat} (h1 : Le k X E) (h2 : Le k Y E) (hs : Small k.format (E + 1)) : Le k (fop .sub k X Y) (E + 1) := sum_le h1 (LeD.opposite h2) hs
theorem lp_neg (k : FloatKind) : k.format.leastPlace ≤ 0 := by cases k <;> decide
theorem le_mul {k : FloatKind} {X Y E F G : Nat} (h1 : Le k X E) (h2 : Le k Y F) (hG : G + (-k.format.leastPlace).toNat = E + F) (hs : Small k.format G) : Le k (fop .mul k X Y) G := by
  obtain ⟨s, m, i, e1, hi, hm⟩ := h1
  obtain ⟨t, n, j, e2, hj, hn⟩ := h2
  have hlp := lp_neg k
  show Le k ((((k.format.read X).product (k.format.read Y)).map k.format.write).getD (nanOf k)) G
  rw [e1, e2]
  refine le_of_write rfl hs ?_
  generalize k.format.leastPlace = lp at *
  have hp : m * n * 2 ^ ((i - lp).toNat + (j - lp).toNat) ≤ 2 ^ (G + (-lp).toNat) := by
    rw [hG, Nat.pow_add, Nat.pow_add, Nat.mul_mul_mul_comm]
    exact Nat.mul_le_mul hm hn
  by_cases hd : 0 ≤ i + j - lp
  · have e3 : (lp - (i + j)).toNat = 0 := by omega
    have e4 : (i - lp).toNat + (j - lp).toNat = (i + j - lp).toNat + (-lp).toNat := by omega
    rw [e3, Nat.pow_zero, Nat.mul_one]
    rw [e4, Nat.pow_add, ← Nat.mul_assoc, Nat.pow_add] at hp
    exact Nat.le_of_mul_le_mul_right hp (Nat.pow_pos (by omega))
  · have e3 : (i + j - lp).toNat = 0 := by omega
    have e4 : (i - lp).toNat + (j - lp).toNat + (lp - (i + j)).toNat = (-lp).toNat := by omega
    rw [e3, Nat.pow_zero, Nat.mul_one]
    have hp2 := Nat.mul_le_mul_right (2 ^ (lp - (i + j)).toNat) hp
    rw [Nat.mul_assoc, ← Nat.pow_add, e4, Nat.pow_add, Nat.mul_right_comm (2 ^ G)] at hp2
    exact Nat.le_of_mul_le_mul_right hp2 (Nat.pow_pos (by omega))
/-- A constant. -/
theorem le_const {k : FloatKind} {X E : Nat} (h : (match k.format.read X with | .number _ m i => Nat.ble (m * 2 ^ (i - k.format.leastPlace).toNat) (2 ^ E) && decide (k.format.leastPlace ≤ i) | _ => false) = true) : Le k X E := by
  unfold Le
  cases hx : k.format.read X with
  | number s m i =>
    rw [hx] at h
    simp only [Bool.and_eq_true, decide_eq_true_eq] at h
    exact ⟨s, m, i, rfl, h.2, Nat.le_of_ble_eq_true h.1⟩
  | infinity s => rw [hx] at h; cases h
  | nan s t => rw [hx] at h; cases h
/-- A number that is not too great can be narrowed. -/
theorem le_fits {X E : Nat} (h : Le .f64 X E) (hE : E ≤ 1175) : fits .f64 .f32 X := by
  intro _
  obtain ⟨s, m, i, e, hi, hm⟩ := h
  have e1 : FloatKind.f64.decode X = .number s m i := e
  unfold floatToFloatBits
  rw [if_neg (by decide), e1]
  have l64 : FloatKind.f64.format.leastPlace = -1074 := by decide
  have l32 : FloatKind.f32.format.leastPlace = -149 := by decide
  rw [l64] at hi hm
  have hle : Le .f32 (FloatKind.f32.format.nearest s m i) 250 := by
    refine le_nearest ⟨by decide, by decide⟩ ?_
    rw [l32]
    obtain ⟨M, hM⟩ : ∃ M : Nat, M = 925 := ⟨_, rfl⟩
    obtain ⟨N, hN⟩ : ∃ N : Nat, N = 250 + M := ⟨_, rfl⟩
    have hm2 : m * 2 ^ (i - -1074).toNat ≤ 2 ^ N := Nat.le_trans hm (Nat.pow_le_pow_right (by omega) (by omega))
    by_cases hd : -149 ≤ i
    · rw [show (-149 - i).toNat = 0 by omega, Nat.pow_zero, Nat.mul_one]
      rw [show (i - -1074).toNat = (i - -149).toNat + M by omega, Nat.pow_add, ← Nat.mul_assoc] at hm2
      refine Nat.le_of_mul_le_mul_right (Nat.le_trans hm2 ?_) (Nat.pow_pos (n := M) (by omega : 0 < 2))
      rw [← Nat.pow_add, hN]
      exact Nat.le_refl _
    · rw [show (i - -149).toNat = 0 by omega, Nat.pow_zero, Nat.mul_one]
      have h3 := Nat.mul_le_mul_right (2 ^ (-149 - i).toNat) hm2
      rw [Nat.mul_assoc, ← Nat.pow_add, show (i - -1074).toNat + (-149 - i).toNat = M by omega] at h3
      refine Nat.le_of_mul_le_mul_right (Nat.le_trans h3 ?_) (Nat.pow_pos (n := M) (by omega : 0 < 2))
      rw [Nat.mul_right_comm, ← Nat.pow_add 2 250 M, ← hN]
      exact Nat.le_refl _
  obtain ⟨s2, m2, i2, e2, _⟩ := hle
  have e3 : FloatKind.f32.decode (FloatKind.f32.encode (.number s m i)) = .number s2 m2 i2 := e2
  simp only [e3]
  rfl

theorem div_le_pow {D n T : Nat} (hn : 0 < n) (h : D ≤ n * 2 ^ T) : 2 * (D / n) + (D % n != 0).toNat ≤ 2 ^ (T + 1) := by
  rw [Nat.pow_succ]
  rcases Nat.lt_or_eq_of_le h with h1 | h1
  · have h2 : D / n < 2 ^ T := (Nat.div_lt_iff_lt_mul hn).2 (by rw [Nat.mul_comm]; exact h1)
    have h3 : ∀ b : Bool, b.toNat ≤ 1 := fun b => by cases b <;> decide
    have := h3 (D % n != 0)
    omega
  · subst h1
    rw [Nat.mul_div_cancel_left _ hn, Nat.mul_mod_right]
    simp
    omega
theorem quo_le {k : FloatKind} {s t : Bool} {m n F G : Nat} {i j : Int} (hi : k.format.leastPlace ≤ i) (hj : k.format.leastPlace ≤ j) (hn : n ≠ 0) (hxy : m * 2 ^ (i - k.format.leastPlace).toNat ≤ 2 ^ F * (n * 2 ^ (j - k.format.leastPlace).toNat)) (hG : G = F + (-k.format.leastPlace).toNat) (hs : Small k.format G) : Le k ((((Ieee.Datum.number s m i).quotient (k.format.fractionBits + 2) (.number t n j)).map k.format.write).getD (nanOf k)) G := by
  have hlp := lp_neg k
  refine le_of_write (neg := Bool.xor s t) (mag := 2 * (m <<< (k.format.fractionBits + 2 + n.log2 - m.log2) / n) + (m <<< (k.format.fractionBits + 2 + n.log2 - m.log2) % n != 0).toNat) (place := i - j - ((k.format.fractionBits + 2 + n.log2 - m.log2 : Nat) : Int) - 1) ?_ hs ?_
  · simp only [Ieee.Datum.quotient]
    rw [if_neg hn]
  generalize k.format.leastPlace = lp at *
  generalize hfb : k.format.fractionBits = fb at *
  generalize hmo : fb + 2 + n.log2 - m.log2 = more
  rw [Nat.shiftLeft_eq]
  have hn0 : 0 < n := by omega
  by_cases hm : m = 0
  · subst hm
    rw [Nat.zero_mul, Nat.zero_div, Nat.zero_mod]
    simp
  have hlm := Nat.log2_self_le hm
  have hln : n < 2 ^ (n.log2 + 1) := Nat.lt_log2_self
  have hDn : n < m * 2 ^ more := by
    refine Nat.lt_of_lt_of_le hln ?_
    refine Nat.le_trans (Nat.pow_le_pow_right (by omega) (show n.log2 + 1 ≤ m.log2 + more by omega)) ?_
    rw [Nat.pow_add]
    exact Nat.mul_le_mul_right _ hlm
  have hx : m * 2 ^ more * 2 ^ (i - lp).toNat ≤ n * 2 ^ (F + (j - lp).toNat + more) := by
    have := Nat.mul_le_mul_right (2 ^ more) hxy
    rw [Nat.mul_right_comm] at this
    refine Nat.le_trans this (Nat.le_of_eq ?_)
    rw [Nat.pow_add, Nat.pow_add, ← Nat.mul_assoc, ← Nat.mul_assoc, ← Nat.mul_assoc, Nat.mul_comm (2 ^ F) n]
  have hT : (i - lp).toNat ≤ F + (j - lp).toNat + more := by
    rcases Nat.lt_or_ge (F + (j - lp).toNat + more) (i - lp).toNat with h | h
    · exfalso
      have h2 : n * 2 ^ (F + (j - lp).toNat + more) ≤ n * 2 ^ (i - lp).toNat := Nat.mul_le_mul_left _ (Nat.pow_le_pow_right (by omega) (by omega))
      have h3 := Nat.le_trans hx h2
      have := Nat.le_of_mul_le_mul_right h3 (Nat.pow_pos (by omega))
      omega
    · exact h
  generalize hTT : F + (j - lp).toNat + more - (i - lp).toNat = T
  have hD : m * 2 ^ more ≤ n * 2 ^ T := by
    rw [show F + (j - lp).toNat + more = T + (i - lp).toNat by omega, Nat.pow_add, ← Nat.mul_assoc] at hx
    exact Nat.le_of_mul_le_mul_right hx (Nat.pow_pos (by omega))
  have hM := div_le_pow hn0 hD
  by_cases hd : lp ≤ i - j - (more : Int) - 1
  · rw [show (lp - (i - j - (more : Int) - 1)).toNat = 0 by omega, Nat.pow_zero, Nat.mul_one]
    refine Nat.le_trans (Nat.mul_le_mul_right _ hM) ?_
    rw [← Nat.pow_add]
    exact Nat.pow_le_pow_right (by omega) (by omega)
  · rw [show (i - j - (more : Int) - 1 - lp).toNat = 0 by omega, Nat.pow_zero, Nat.mul_one]
    refine Nat.le_trans hM ?_
    rw [← Nat.pow_add]
    exact Nat.pow_le_pow_right (by omega) (by omega)
/-- A number that is not less than one, apart from its sign. -/
def Ge1 (k : FloatKind) (X : Nat) : Prop := ∃ s m i, k.format.read X = .number s m i ∧ k.format.leastPlace ≤ i ∧ 2 ^ (-k.format.leastPlace).toNat ≤ m * 2 ^ (i - k.format.leastPlace).toNat
theorem ge1_const {k : FloatKind} {X : Nat} (h : (match k.format.read X with | .number _ m i => Nat.ble (2 ^ (-k.format.leastPlace).toNat) (m * 2 ^ (i - k.format.leastPlace).toNat) && decide (k.format.leastPlace ≤ i) | _ => false) = true) : Ge1 k X := by
  unfold Ge1
  cases hx : k.format.read X with
  | number s m i =>
    rw [hx] at h
    simp only [Bool.and_eq_true, decide_eq_true_eq] at h
    exact ⟨s, m, i, rfl, h.2, Nat.le_of_ble_eq_true h.1⟩
  | infinity s => rw [hx] at h; cases h
  | nan s t => rw [hx] at h; cases h
theorem le_quo {k : FloatKind} {X Y E : Nat} (h1 : Le k X E) (h2 : Ge1 k Y) (hE : (-k.format.leastPlace).toNat ≤ E) (hs : Small k.format E) : Le k (fop .quo k X Y) E := by
  obtain ⟨s, m, i, e1, hi, hm⟩ := h1
  obtain ⟨t, n, j, e2, hj, hn⟩ := h2
  show Le k ((((k.format.read X).quotient (k.format.fractionBits + 2) (k.format.read Y)).map k.format.write).getD (nanOf k)) E
  rw [e1, e2]
  have hn0 : n ≠ 0 := fun h => by
    rw [h, Nat.zero_mul] at hn
    have := Nat.pow_pos (n := (-k.format.leastPlace).toNat) (show 0 < 2 by omega)
    omega
  refine quo_le (F := E - (-k.format.leastPlace).toNat) hi hj hn0 (Nat.le_trans hm ?_) (by omega) hs
  refine Nat.le_trans ?_ (Nat.mul_le_mul_left _ hn)
  rw [← Nat.pow_add]
  exact Nat.pow_le_pow_right (by omega) (by omega)

theorem cut_even_ge {neg : Bool} {n drop c : Nat} (h : c * 2 ^ drop ≤ n) : c ≤ Ieee.Toward.even.cut neg n drop := by
  unfold Ieee.Toward.cut
  simp only [Nat.shiftLeft_eq, Nat.one_mul]
  refine Nat.le_trans ?_ (Nat.le_add_right _ _)
  by_cases hd : drop ≤ n.log2 + 2
  · rw [Nat.min_eq_left hd]
    exact (Nat.le_div_iff_mul_le (Nat.pow_pos (by omega))).2 h
  · have hlt : n < 2 ^ (n.log2 + 1) := Nat.lt_log2_self
    have h2 : n < 2 ^ drop := Nat.lt_of_lt_of_le hlt (Nat.pow_le_pow_right (by omega) (by omega))
    rcases Nat.eq_zero_or_pos c with h0 | h0
    · rw [h0]
      exact Nat.zero_le _
    · have : 1 * 2 ^ drop ≤ c * 2 ^ drop := Nat.mul_le_mul_right _ h0
      omega
/-- No NaN, and not less than one; or an infinity; or a NaN. -/
inductive Den (k : FloatKind) (X : Nat) : Prop where
  | nan (h : isNan k X = true)
  | inf {s : Bool} (h : k.format.read X = .infinity s)
  | num (h : Ge1 k X)
def LeN (k : FloatKind) (X E : Nat) : Prop := isNan k X = true ∨ Le k X E
end Go.Proofs.Ytejpamlaacffaaa

/-
  Numbers within bounds, finite numbers, lengths of lines, on both sides: contracts. Conditions: none.
-/
namespace Go.Proofs.Ytejpamlaacffaaa
open Go Go.RowKit

def finB (X : Nat) : Bool := cmpB .eql .f32 (fop .sub .f32 X X) 0
def inB (x l h : Int) : Bool := decide (x ≥ l) && decide (x ≤ h)
def numV (X : Nat) : Nat := if finB X = true then X else 0

set_option maxRecDepth 100000 in
set_option maxHeartbeats 2000000 in
theorem c_implIsFinite {X : Nat} : Con Try.prog 74 [fl .f32 X] (RetA (vv (.bool (finB X)))) := by
  refine con_enter Try.func74 rfl (by kernel_rfl) Try.ntmps74 rfl fun w0 => ?_
  (repeat (first | (refine gA ?_; first | refine aops_nil ?_ | (refine gA_gd ?_; first | refine gY ?_ | refine gN ?_ | refine gS ?_) | (refine gA_alloc ?_; refine sA ?_; intro _) | (refine gA_store ?_; first | refine sS ?_ | refine sSr ?_) | (refine gA_box ?_; refine sB ?_; intro _) | (refine gA_move ?_; refine sE_move ?_) | (refine gA_load ?_; refine sE_load ?_) | (refine gA_assign ?_; refine sE_assign ?_) | (refine gA_field ?_; refine sE_field ?_) | (refine gA_bin ?_; refine sE_bin ?_) | (refine gA_index ?_; refine sE_index ?_) | (refine gA_callb ?_; refine sE_callb ?_) | (refine gA_un ?_; refine sE_un ?_) | (refine gA_conv ?_; refine sE_conv ?_) | (refine gA_build ?_; refine sE_build ?_) | (refine gA_ext ?_; refine sE_ext ?_) | (refine gA_slice ?_; refine sE_slice ?_) | (refine gA_nilc ?_; refine sE_nilc ?_) | (refine gA_pick ?_; refine sE_pick ?_) | (refine gA_func ?_; refine sE_func ?_)) | (refine gW ?_; first | refine awp_seq ?_ | refine awp_region ?_ | refine awp_block ?_ | refine awp_skip ?_ | refine awp_ret ?_ | refine awp_exit ?_ | refine awp_label ?_) | (refine gX ?_; first | refine aex_then ?_ | refine aex_normal_block ?_ | refine aex_ret_then ?_ | refine aex_ret_block ?_ | refine aex_exit_then ?_ | refine aex_exit_here ?_ | refine aex_exit_out rfl ?_ | refine aex_nop ?_)))
  exact aex_ret1 rfl (resV_tmp (Opd.tmp rfl)) (by exact rfl)
def lenV (F : Nat → V3) : Nat → Nat
  | 0 => 0
  | k + 1 => fop .add .f32 (lenV F k) (longV (lessV (F (k + 1)) (F k)))
def lineLenV (F : Nat → V3) (n : Nat) : Nat := if inB n 1 64 = true then numV (lenV F (n - 1)) else 0
def lineLenB (F : Nat → V3) (n : Nat) : Bool := if inB n 1 64 = true then finB (lenV F (n - 1)) else false
end Go.Proofs.Ytejpamlaacffaaa

/-
  Finite vectors and lengths, on both sides: contracts. Conditions: none.
-/
namespace Go.Proofs.Ytejpamlaacffaaa
open Go Go.RowKit

def finV (A : V3) : Bool := finB A.x && finB A.y && finB A.z
def lengthB (X : Nat) : Bool := finB X && cmpB .gtr .f32 X 0
set_option maxRecDepth 100000 in
set_option maxHeartbeats 2000000 in
theorem c_implFiniteVector {A : V3} : Con Try.prog 68 [vec A] (RetA (vv (.bool (finV A)))) := by
  refine con_enter Try.func68 rfl (by kernel_rfl) Try.ntmps68 rfl fun w0 => ?_
  cases hx : finB A.x
  · rw [show finV A = false by simp only [finV, hx]; rfl]
    (repeat (first | (refine gA ?_; first | refine aops_nil ?_ | (refine gA_gd ?_; first | refine gY ?_ | refine gN ?_ | refine gS ?_) | (refine gA_callf ?_; refine sC (c_implIsFinite) ?_) | (refine gA_alloc ?_; refine sA ?_; intro _) | (refine gA_store ?_; first | refine sS ?_ | refine sSr ?_) | (refine gA_box ?_; refine sB ?_; intro _) | (refine gA_move ?_; refine sE_move ?_) | (refine gA_load ?_; refine sE_load ?_) | (refine gA_assign ?_; refine sE_assign ?_) | (refine gA_field ?_; refine sE_field ?_) | (refine gA_bin ?_; refine sE_bin ?_) | (refine gA_index ?_; refine sE_index ?_) | (refine gA_callb ?_; refine sE_callb ?_) | (refine gA_un ?_; refine sE_un ?_) | (refine gA_conv ?_; refine sE_conv ?_) | (refine gA_build ?_; refine sE_build ?_) | (refine gA_ext ?_; refine sE_ext ?_) | (refine gA_slice ?_; refine sE_slice ?_) | (refine gA_nilc ?_; refine sE_nilc ?_) | (refine gA_pick ?_; refine sE_pick ?_) | (refine gA_func ?_; refine sE_func ?_)) | (refine gW ?_; first | refine awp_seq ?_ | refine awp_region ?_ | refine awp_block ?_ | refine awp_skip ?_ | refine awp_ret ?_ | refine awp_exit ?_ | refine awp_label ?_) | (refine gX ?_; first | refine aex_then ?_ | refine aex_normal_block ?_ | refine aex_ret_then ?_ | refine aex_ret_block ?_ | refine aex_exit_then ?_ | refine aex_exit_here ?_ | refine aex_exit_out rfl ?_ | refine aex_nop ?_)))
    exact aex_ret1 rfl (resV_tmp (Opd.tmp rfl)) (by exact rfl)
  · cases hy : finB A.y
    · rw [show finV A = false by simp only [finV, hx, hy]; rfl]
      (repeat (first | (refine gA ?_; first | refine aops_nil ?_ | (refine gA_gd ?_; first | refine gY ?_ | refine gN ?_ | refine gS ?_) | (refine gA_callf ?_; refine sC (c_implIsFinite) ?_) | (refine gA_alloc ?_; refine sA ?_; intro _) | (refine gA_store ?_; first | refine sS ?_ | refine sSr ?_) | (refine gA_box ?_; refine sB ?_; intro _) | (refine gA_move ?_; refine sE_move ?_) | (refine gA_load ?_; refine sE_load ?_) | (refine gA_assign ?_; refine sE_assign ?_) | (refine gA_field ?_; refine sE_field ?_) | (refine gA_bin ?_; refine sE_bin ?_) | (refine gA_index ?_; refine sE_index ?_) | (refine gA_callb ?_; refine sE_callb ?_) | (refine gA_un ?_; refine sE_un ?_) | (refine gA_conv ?_; refine sE_conv ?_) | (refine gA_build ?_; refine sE_build ?_) | (refine gA_ext ?_; refine sE_ext ?_) | (refine gA_slice ?_; refine sE_slice ?_) | (refine gA_nilc ?_; refine sE_nilc ?_) | (refine gA_pick ?_; refine sE_pick ?_) | (refine gA_func ?_; refine sE_func ?_)) | (refine gW ?_; first | refine awp_seq ?_ | refine awp_region ?_ | refine awp_block ?_ | refine awp_skip ?_ | refine awp_ret ?_ | refine awp_exit ?_ | refine awp_label ?_) | (refine gX ?_; first | refine aex_then ?_ | refine aex_normal_block ?_ | refine aex_ret_then ?_ | refine aex_ret_block ?_ | refine aex_exit_then ?_ | refine aex_exit_here ?_ | refine aex_exit_out rfl ?_ | refine aex_nop ?_)))
      exact aex_ret1 rfl (resV_tmp (Opd.tmp rfl)) (by exact rfl)
    · rw [show finV A = finB A.z by simp only [finV, hx, hy, Bool.true_and]]
      (repeat (first | (refine gA ?_; first | refine aops_nil ?_ | (refine gA_gd ?_; first | refine gY ?_ | refine gN ?_ | refine gS ?_) | (refine gA_callf ?_; refine sC (c_implIsFinite) ?_) | (refine gA_alloc ?_; refine sA ?_; intro _) | (refine gA_store ?_; first | refine sS ?_ | refine sSr ?_) | (refine gA_box ?_; refine sB ?_; intro _) | (refine gA_move ?_; refine sE_move ?_) | (refine gA_load ?_; refine sE_load ?_) | (refine gA_assign ?_; refine sE_assign ?_) | (refine gA_field ?_; refine sE_field ?_) | (refine gA_bin ?_; refine sE_bin ?_) | (refine gA_index ?_; refine sE_index ?_) | (refine gA_callb ?_; refine sE_callb ?_) | (refine gA_un ?_; refine sE_un ?_) | (refine gA_conv ?_; refine sE_conv ?_) | (refine gA_build ?_; refine sE_build ?_) | (refine gA_ext ?_; refine sE_ext ?_) | (refine gA_slice ?_; refine sE_slice ?_) | (refine gA_nilc ?_; refine sE_nilc ?_) | (refine gA_pick ?_; refine sE_pick ?_) | (refine gA_func ?_; refine sE_func ?_)) | (refine gW ?_; first | refine awp_seq ?_ | refine awp_region ?_ | refine awp_block ?_ | refine awp_skip ?_ | refine awp_ret ?_ | refine awp_exit ?_ | refine awp_label ?_) | (refine gX ?_; first | refine aex_then ?_ | refine aex_normal_block ?_ | refine aex_ret_then ?_ | refine aex_ret_block ?_ | refine aex_exit_then ?_ | refine aex_exit_here ?_ | refine aex_exit_out rfl ?_ | refine aex_nop ?_)))
      exact aex_ret1 rfl (resV_tmp (Opd.tmp rfl)) (by exact rfl)
def sizesB (a b c : Int) : Bool := inB a 1 216 && inB b 1 216 && inB c 1 216 && decide (a * b * c ≤ 216)
end Go.Proofs.Ytejpamlaacffaaa

/-
  What is finite came of what is finite. Conditions: none.
-/
namespace Go.Proofs.Ytejpamlaacffaaa
open Go Go.RowKit

def numD : Ieee.Datum → Bool
  | .number .. => true
  | _ => false
theorem order_nan32 (Y : Nat) : FloatKind.f32.format.order (nanOf .f32) Y = none := order_nan_left (isNan_nanOf .f32)
theorem finB_num (X : Nat) : finB X = numD (FloatKind.f32.format.read X) := by
  have hnan : cmpB .eql .f32 (nanOf .f32) 0 = false := by
    show (FloatKind.f32.format.order (nanOf .f32) 0 == some .eq) = false
    rw [order_nan32]
    rfl
  unfold finB
  cases h : FloatKind.f32.format.read X with
  | number s m i =>
    have e : FloatKind.f32.format.sub X X = some 0 := by
      unfold Ieee.Format.sub
      rw [h]
      have e0 : min i i = i := Int.min_self i
      have e1 : Ieee.signed s m (i - i).toNat + Ieee.signed (!s) m (i - i).toNat = 0 := by
        unfold Ieee.signed
        cases s <;> simp <;> omega
      simp only [Ieee.Datum.opposite, Ieee.Datum.sum, e0, e1, Option.map_some]
      cases s <;> rfl
    have e2 : fop .sub .f32 X X = 0 := by
      show (FloatKind.f32.format.sub X X).getD _ = 0
      rw [e]; rfl
    rw [e2]
    show cmpB .eql .f32 0 0 = true
    decide +kernel
  | infinity s =>
    have e2 : fop .sub .f32 X X = nanOf .f32 := by
      show (FloatKind.f32.format.sub X X).getD _ = _
      unfold Ieee.Format.sub
      rw [h]
      cases s <;> rfl
    rw [e2, hnan]
    rfl
  | nan s t =>
    have e2 : fop .sub .f32 X X = nanOf .f32 := by
      show (FloatKind.f32.format.sub X X).getD _ = _
      unfold Ieee.Format.sub
      rw [h]
      rfl
    rw [e2, hnan]
    rfl
/- Vectors. -/
theorem finV_and {A : V3} : finV A = true ↔ finB A.x = true ∧ finB A.y = true ∧ finB A.z = true := by
  unfold finV
  rw [Bool.and_eq_true, Bool.and_eq_true]
  exact ⟨fun h => ⟨h.1.1, h.1.2, h.2⟩, fun h => ⟨⟨h.1, h.2.1⟩, h.2.2⟩⟩
end Go.Proofs.Ytejpamlaacffaaa

/-
  Exact roundings, widened floats, absolute values; bounds that a NaN may break. Conditions: none.
-/
namespace Go.Proofs.Ytejpamlaacffaaa
open Go Go.RowKit

/-- A number of few digits is not rounded. -/
theorem nearest_exact {k : FloatKind} {neg : Bool} {mag : Nat} {place : Int} (hm : mag < 2 ^ (k.format.fractionBits + 1)) (hp : k.format.leastPlace ≤ place) (hI : ((place - k.format.leastPlace).toNat + 2) * k.format.binade ≤ k.format.infRung) : ∃ m i, k.format.read (k.format.nearest neg mag place) = .number neg m i ∧ k.format.leastPlace ≤ i ∧ m * 2 ^ (i - k.format.leastPlace).toNat = mag * 2 ^ (place - k.format.leastPlace).toNat := by
  have hb0 : 0 < k.format.binade := Nat.pow_pos (by omega)
  have hb : k.format.binade = 2 ^ k.format.fractionBits := rfl
  -- the rung and what it is worth
  have hr : ∃ r, k.format.nearest neg mag place = k.format.word neg r ∧ r < k.format.infRung ∧ rvq k.format.binade (r / k.format.binade) (r % k.format.binade) = mag * 2 ^ (place - k.format.leastPlace).toNat := by
    unfold Ieee.Format.nearest
    by_cases h0 : mag = 0
    · rw [if_pos h0]
      refine ⟨0, rfl, Nat.lt_of_lt_of_le (Nat.mul_pos (by omega) hb0) hI, ?_⟩
      rw [h0, Nat.zero_mul, Nat.zero_div, Nat.zero_mod]
      rfl
    rw [if_neg h0]
    simp only
    generalize hL : mag.log2 = L
    have hl1 : 2 ^ L ≤ mag := by rw [← hL]; exact Nat.log2_self_le h0
    have hl2 : mag < 2 ^ (L + 1) := by rw [← hL]; exact Nat.lt_log2_self
    have hLf : L ≤ k.format.fractionBits := by
      have : 2 ^ L < 2 ^ (k.format.fractionBits + 1) := Nat.lt_of_le_of_lt hl1 hm
      have := (Nat.pow_lt_pow_iff_right (by omega : 1 < 2)).1 this
      omega
    generalize hlast : max (place + (L : Int) - (k.format.fractionBits : Int)) k.format.leastPlace = last
    have hle : last ≤ place := by rw [← hlast]; omega
    have hge : k.format.leastPlace ≤ last := by rw [← hlast]; omega
    rw [show (last - place).toNat = 0 by omega, cut_zero, Nat.shiftLeft_eq]
    have hkept : mag * 2 ^ (place - last).toNat < 2 * k.format.binade := by
      rw [hb]
      refine Nat.lt_of_lt_of_le (Nat.mul_lt_mul_of_pos_right hl2 (Nat.pow_pos (by omega))) ?_
      rw [← Nat.pow_add, show 2 * 2 ^ k.format.fractionBits = 2 ^ (k.format.fractionBits + 1) by rw [Nat.pow_succ, Nat.mul_comm]]
      exact Nat.pow_le_pow_right (by omega) (by omega)
    have hlt : (last - k.format.leastPlace).toNat * k.format.binade + mag * 2 ^ (place - last).toNat < k.format.infRung := by
      refine Nat.lt_of_lt_of_le (Nat.add_lt_add_left hkept _) (Nat.le_trans ?_ hI)
      rw [← Nat.add_mul]
      exact Nat.mul_le_mul_right _ (by omega)
    rw [Nat.min_eq_left (Nat.le_of_lt hlt)]
    refine ⟨_, rfl, hlt, ?_⟩
    by_cases hn : last = k.format.leastPlace
    · rw [hn, Int.sub_self, show (0 : Int).toNat = 0 from rfl, Nat.zero_mul, Nat.zero_add]
      rw [hn] at hkept
      generalize mag * 2 ^ (place - k.format.leastPlace).toNat = z at *
      by_cases hz : z < k.format.binade
      · rw [Nat.div_eq_of_lt hz, Nat.mod_eq_of_lt hz]
        rfl
      · have e1 : z / k.format.binade = 1 := by
          rw [Nat.div_eq_iff hb0]
          omega
        have e2 := Nat.div_add_mod z k.format.binade
        rw [e1, Nat.mul_one] at e2
        rw [e1]
        unfold rvq
        rw [if_neg (by omega), Nat.sub_self, Nat.pow_zero, Nat.mul_one]
        exact e2
    · have hl : last = place + (L : Int) - (k.format.fractionBits : Int) := by omega
      have hlow : k.format.binade ≤ mag * 2 ^ (place - last).toNat := by
        rw [hb]
        refine Nat.le_trans ?_ (Nat.mul_le_mul_right _ hl1)
        rw [← Nat.pow_add]
        exact Nat.pow_le_pow_right (by omega) (by omega)
      have hpw : mag * 2 ^ (place - k.format.leastPlace).toNat = mag * 2 ^ (place - last).toNat * 2 ^ (last - k.format.leastPlace).toNat := by
        rw [Nat.mul_assoc, ← Nat.pow_add, show (place - last).toNat + (last - k.format.leastPlace).toNat = (place - k.format.leastPlace).toNat by omega]
      rw [hpw]
      generalize mag * 2 ^ (place - last).toNat = z at *
      generalize (last - k.format.leastPlace).toNat = q at *
      have e0 : q * k.format.binade + z = (z - k.format.binade) + k.format.binade * (q + 1) := by
        rw [Nat.mul_comm k.format.binade, Nat.add_mul, Nat.one_mul]
        omega
      have e1 : (q * k.format.binade + z) / k.format.binade = q + 1 := by
        rw [e0, Nat.add_mul_div_left _ _ hb0, Nat.div_eq_of_lt (by omega), Nat.zero_add]
      have e2 : (q * k.format.binade + z) % k.format.binade = z - k.format.binade := by
        rw [e0, Nat.add_mul_mod_self_left, Nat.mod_eq_of_lt (by omega)]
      rw [e1, e2]
      unfold rvq
      rw [if_neg (by omega), Nat.add_sub_cancel]
      congr 1
      omega
  obtain ⟨r, h1, h2, h3⟩ := hr
  rw [h1]
  have hw := word_mod k.format neg (rung_lt_sign k.format (Nat.le_of_lt h2))
  rcases read_parts k.format (k.format.word neg r) (exp_pos k) (read_word_num k.format neg (Nat.le_of_lt h2)) with ⟨_, g1, m, i, g2⟩ | ⟨g1, _⟩
  · have hf := read_form k.format _ g2
    have hneg : negW k.format (k.format.word neg r) = neg := by
      have hq := rung_lt_sign k.format (Nat.le_of_lt h2)
      have hs : 0 < k.format.signWeight := by omega
      unfold negW Ieee.Format.word
      cases neg
      · simp [Nat.div_eq_of_lt hq]
      · simp [Nat.add_div_left _ hs, Nat.div_eq_of_lt hq]
    rw [hneg] at g1 g2
    refine ⟨m, i, g2, hf.1, ?_⟩
    rw [hw, g2] at g1
    have g3 : (Ieee.signed neg m (i - k.format.leastPlace).toNat).natAbs = (sgnI neg (rvq k.format.binade (r / k.format.binade) (r % k.format.binade))).natAbs := congrArg Int.natAbs g1
    rw [signed_abs, sgnI_abs] at g3
    rw [g3, h3]
  · rw [hw] at g1
    omega
theorem signed_of {s : Bool} {m n a b : Nat} (h : m * 2 ^ a = n * 2 ^ b) : Ieee.signed s m a = Ieee.signed s n b := by
  unfold Ieee.signed
  rw [Nat.shiftLeft_eq, Nat.shiftLeft_eq, h]
/-- A widened number. -/
theorem cvt_exact {X : Nat} {s : Bool} {m : Nat} {i : Int} (h : FloatKind.f32.format.read X = .number s m i) : ∃ n j, FloatKind.f64.format.read (fcvt .f32 .f64 X) = .number s n j ∧ -1074 ≤ j ∧ n * 2 ^ (j - -1074).toNat = m * 2 ^ (i - -1074).toNat := by
  obtain ⟨h1, h2, h3⟩ := read32 X h
  have lp : FloatKind.f64.format.leastPlace = -1074 := by decide
  have nx : isNan .f32 X = false := by unfold isNan; rw [h]; rfl
  obtain ⟨n, j, e1, e2, e3⟩ := nearest_exact (k := .f64) (neg := s) (mag := m) (place := i) (Nat.lt_trans h1 (by decide)) (by rw [lp]; omega) (by
    rw [lp]
    have : (i - -1074).toNat + 2 ≤ 1180 := by omega
    exact Nat.le_trans (Nat.mul_le_mul_right _ this) (by decide))
  rw [lp] at e2 e3
  refine ⟨n, j, ?_, e2, e3⟩
  have hv : floatToFloatBits .f32 X .f64 = some (FloatKind.f64.format.nearest s m i) := by
    have hd : FloatKind.f32.decode X = .number s m i := h
    unfold floatToFloatBits
    rw [if_neg (by decide), hd]
    have e4 : FloatKind.f64.decode (FloatKind.f64.encode (.number s m i)) = .number s n j := e1
    simp only [e4]
    rfl
  have : fcvt .f32 .f64 X = FloatKind.f64.format.nearest s m i := by unfold fcvt; rw [hv]; rfl
  rw [this]
  exact e1
theorem cvt_inf {X : Nat} {s : Bool} (h : FloatKind.f32.format.read X = .infinity s) : FloatKind.f64.format.read (fcvt .f32 .f64 X) = .infinity s := by
  have hd : FloatKind.f32.decode X = .infinity s := h
  have hv : floatToFloatBits .f32 X .f64 = some (FloatKind.f64.encode (.infinity s)) := by
    unfold floatToFloatBits
    rw [if_neg (by decide), hd]
  have : fcvt .f32 .f64 X = FloatKind.f64.encode (.infinity s) := by unfold fcvt; rw [hv]; rfl
  rw [this]
  cases s <;> decide +kernel
theorem cvt_nan {X : Nat} (h : isNan .f32 X = true) : isNan .f64 (fcvt .f32 .f64 X) = true := by
  obtain ⟨s, t, e⟩ := nan_form h
  have hd : FloatKind.f32.decode X = .nan s t := e
  have : fcvt .f32 .f64 X = nanOf .f64 := by
    unfold fcvt floatToFloatBits
    rw [if_neg (by decide), hd]
    rfl
  rw [this]
  exact isNan_nanOf .f64
theorem rk_cvt {X : Nat} {s : Bool} {m : Nat} {i : Int} (h : FloatKind.f32.format.read X = .number s m i) : ∃ q : Int, 0 < q ∧ rk .f64 (fcvt .f32 .f64 X) = rk .f32 X * q := by
  obtain ⟨n, j, e1, e2, e3⟩ := cvt_exact h
  have l64 : FloatKind.f64.format.leastPlace = -1074 := by decide
  have l32 : FloatKind.f32.format.leastPlace = -149 := by decide
  obtain ⟨_, h2, _⟩ := read32 X h
  obtain ⟨M, hM⟩ : ∃ M : Nat, M = 925 := ⟨_, rfl⟩
  refine ⟨((2 ^ M : Nat) : Int), ?_, ?_⟩
  · have := Nat.pow_pos (n := M) (show 0 < 2 by omega)
    omega
  unfold rk
  rw [e1, h]
  unfold rkD
  rw [l64, l32, ← signed_scale]
  exact signed_of (by rw [e3, show (i - -149).toNat + M = (i - -1074).toNat by omega])
/-- Finite 64-bit floats, as the reference tells them. -/
def fin64 (X : Nat) : Bool := cmpB .eql .f64 (fop .sub .f64 X X) 0
theorem fin64_num (X : Nat) : fin64 X = numD (FloatKind.f64.format.read X) := by
  have hnan : cmpB .eql .f64 (nanOf .f64) 0 = false := by
    show (FloatKind.f64.format.order (nanOf .f64) 0 == some .eq) = false
    rw [order_nan_left (isNan_nanOf .f64)]
    rfl
  unfold fin64
  cases h : FloatKind.f64.format.read X with
  | number s m i =>
    have e : FloatKind.f64.format.sub X X = some 0 := by
      unfold Ieee.Format.sub
      rw [h]
      have e0 : min i i = i := Int.min_self i
      have e1 : Ieee.signed s m (i - i).toNat + Ieee.signed (!s) m (i - i).toNat = 0 := by
        unfold Ieee.signed
        cases s <;> simp <;> omega
      simp only [Ieee.Datum.opposite, Ieee.Datum.sum, e0, e1, Option.map_some]
      cases s <;> rfl
    have e2 : fop .sub .f64 X X = 0 := by
      show (FloatKind.f64.format.sub X X).getD _ = 0
      rw [e]; rfl
    rw [e2]
    show cmpB .eql .f64 0 0 = true
    decide +kernel
  | infinity s =>
    have e2 : fop .sub .f64 X X = nanOf .f64 := by
      show (FloatKind.f64.format.sub X X).getD _ = _
      unfold Ieee.Format.sub
      rw [h]
      cases s <;> rfl
    rw [e2, hnan]
    rfl
  | nan s t =>
    have e2 : fop .sub .f64 X X = nanOf .f64 := by
      show (FloatKind.f64.format.sub X X).getD _ = _
      unfold Ieee.Format.sub
      rw [h]
      rfl
    rw [e2, hnan]
    rfl
theorem fin64_cvt (X : Nat) : fin64 (fcvt .f32 .f64 X) = finB X := by
  rw [fin64_num, finB_num]
  cases h : FloatKind.f32.format.read X with
  | number s m i => obtain ⟨n, j, e1, _⟩ := cvt_exact h; rw [e1]; rfl
  | infinity s => rw [cvt_inf h]
  | nan s t =>
    have hn : isNan .f32 X = true := by unfold isNan; rw [h]; rfl
    obtain ⟨s2, t2, e⟩ := nan_form (cvt_nan hn)
    rw [e]
    rfl
theorem num_cvt {X : Nat} (h : finB X = true) : isNan .f32 X = false ∧ isNan .f64 (fcvt .f32 .f64 X) = false ∧ ∃ q : Int, 0 < q ∧ rk .f64 (fcvt .f32 .f64 X) = rk .f32 X * q := by
  rw [finB_num] at h
  cases hx : FloatKind.f32.format.read X with
  | number s m i =>
    obtain ⟨n, j, e1, _⟩ := cvt_exact hx
    exact ⟨by unfold isNan; rw [hx]; rfl, by unfold isNan; rw [e1]; rfl, rk_cvt hx⟩
  | infinity s => rw [hx] at h; cases h
  | nan s t => rw [hx] at h; cases h
/- Bounds that a NaN may break. -/
theorem fop_nanR {op : BinOp} {k : FloatKind} {X Y : Nat} (h : isNan k Y = true) : isNan k (fop op k X Y) = true := by
  unfold fop; rw [floatBits_nan_right h]; exact isNan_nanOf k
theorem leN_mul {k : FloatKind} {X Y E F G : Nat} (h1 : LeN k X E) (h2 : LeN k Y F) (hG : G + (-k.format.leastPlace).toNat = E + F) (hs : Small k.format G) : LeN k (fop .mul k X Y) G := by
  rcases h1 with h1 | h1
  · exact .inl (fop_nanL h1)
  · rcases h2 with h2 | h2
    · exact .inl (fop_nanR h2)
    · exact .inr (le_mul h1 h2 hG hs)
theorem leN_sub {k : FloatKind} {X Y E : Nat} (h1 : LeN k X E) (h2 : LeN k Y E) (hs : Small k.format (E + 1)) : LeN k (fop .sub k X Y) (E + 1) := by
  rcases h1 with h1 | h1
  · exact .inl (fop_nanL h1)
  · rcases h2 with h2 | h2
    · exact .inl (fop_nanR h2)
    · exact .inr (le_sub h1 h2 hs)
theorem leN_quo {k : FloatKind} {X Y E : Nat} (h1 : LeN k X E) (h2 : Den k Y) (hE : (-k.format.leastPlace).toNat ≤ E) (hs : Small k.format E) : LeN k (fop .quo k X Y) E := by
  rcases h1 with h1 | h1
  · exact .inl (fop_nanL h1)
  · rcases h2 with h2 | h2 | h2
    · exact .inl (fop_nanR h2)
    · refine .inr ?_
      rename_i t
      obtain ⟨s, m, i, e, _⟩ := h1
      show Le k ((((k.format.read X).quotient (k.format.fractionBits + 2) (k.format.read Y)).map k.format.write).getD (nanOf k)) E
      rw [e, h2]
      exact le_of_write (neg := Bool.xor s t) (mag := 0) (place := 0) rfl hs (by rw [Nat.zero_mul]; exact Nat.zero_le _)
    · exact .inr (le_quo h1 h2 hE hs)
theorem leN_mono {k : FloatKind} {X E F : Nat} (h : LeN k X E) (hE : E ≤ F) : LeN k X F := by
  rcases h with h | h
  · exact .inl h
  · exact .inr (LeD.mono h hE)
theorem leN_fits {X E : Nat} (h : LeN .f64 X E) (hE : E ≤ 1175) : fits .f64 .f32 X := by
  rcases h with h | h
  · intro h2; rw [h] at h2; cases h2
  · exact le_fits h hE
theorem read_neg64 (X : Nat) : FloatKind.f64.format.read (Op.negFloat .f64 X) = (FloatKind.f64.format.read X).opposite := by
  have e1 : FloatKind.f64.format.signWeight = 9223372036854775808 := rfl
  have h1 : Op.negFloat .f64 X = X ^^^ 2 ^ 63 := rfl
  have q2 : (X ^^^ 2 ^ 63) % 2 ^ 63 = X % 2 ^ 63 := by rw [Nat.xor_mod_two_pow, Nat.mod_self, Nat.xor_zero]
  have q3 : (X ^^^ 2 ^ 63) / 9223372036854775808 % 2 = 1 - X / 9223372036854775808 % 2 := by
    have a := Nat.testBit_xor X (2 ^ 63) 63
    rw [Nat.testBit_two_pow_self, Bool.xor_true, Nat.testBit_eq_decide_div_mod_eq, Nat.testBit_eq_decide_div_mod_eq] at a
    have b1 := Nat.mod_two_eq_zero_or_one ((X ^^^ 2 ^ 63) / 2 ^ 63)
    have b2 := Nat.mod_two_eq_zero_or_one (X / 2 ^ 63)
    rcases b1 with b1 | b1 <;> rcases b2 with b2 | b2 <;> rw [b1, b2] at a <;> simp at a
    · show _ = 1 - X / 2 ^ 63 % 2
      rw [b2]; exact b1
    · show _ = 1 - X / 2 ^ 63 % 2
      rw [b2]; exact b1
  rw [h1]
  unfold Ieee.Format.read
  simp only [e1]
  rw [q3, show (X ^^^ 2 ^ 63) % 9223372036854775808 = X % 9223372036854775808 from q2]
  have b2 := Nat.mod_two_eq_zero_or_one (X / 9223372036854775808)
  rcases b2 with b2 | b2 <;> rw [b2]
  all_goals
    split
    · rfl
    · split
      · rfl
      · split <;> rfl
theorem leN_neg {X E : Nat} (h : LeN .f64 X E) : LeN .f64 (fneg .f64 X) E := by
  unfold fneg can
  split
  · exact .inl (isNan_nanOf .f64)
  · rename_i hn
    rcases h with h | h
    · refine .inl ?_
      unfold isNan at h ⊢
      rw [read_neg64]
      cases hx : FloatKind.f64.format.read X <;> rw [hx] at h <;> first | rfl | cases h
    · refine .inr ?_
      unfold Le
      rw [read_neg64]
      exact LeD.opposite h
/-- The absolute value. -/
def absF (X : Nat) : Nat := X % 9223372036854775808
theorem small64 {E : Nat} (h1 : 52 ≤ E) (h2 : E ≤ 2000) : Small FloatKind.f64.format E := ⟨h1, Nat.lt_of_le_of_lt (Nat.mul_le_mul_right _ (show E - FloatKind.f64.format.fractionBits + 1 ≤ 1949 by show E - 52 + 1 ≤ 1949; omega)) (by decide)⟩
theorem p64 : (-FloatKind.f64.format.leastPlace).toNat = 1074 := by decide
theorem n64_mul {X Y E F G : Nat} (h1 : LeN .f64 X E) (h2 : LeN .f64 Y F) (hG : G + 1074 = E + F) (h3 : 52 ≤ G) (h4 : G ≤ 2000) : LeN .f64 (fop .mul .f64 X Y) G := leN_mul h1 h2 (by rw [p64]; exact hG) (small64 h3 h4)
theorem n64_sub {X Y E : Nat} (h1 : LeN .f64 X E) (h2 : LeN .f64 Y E) (h3 : 52 ≤ E + 1) (h4 : E + 1 ≤ 2000) : LeN .f64 (fop .sub .f64 X Y) (E + 1) := leN_sub h1 h2 (small64 h3 h4)
theorem n64_quo {X Y E : Nat} (h1 : LeN .f64 X E) (h2 : Den .f64 Y) (h3 : 1074 ≤ E) (h4 : E ≤ 2000) : LeN .f64 (fop .quo .f64 X Y) E := leN_quo h1 h2 (by rw [p64]; exact h3) (small64 (by omega) h4)
def leB (k : FloatKind) (E X : Nat) : Bool := match k.format.read X with
  | .number _ m i => Nat.ble (m * 2 ^ (i - k.format.leastPlace).toNat) (2 ^ E) && decide (k.format.leastPlace ≤ i)
  | _ => false
theorem le_leB {k : FloatKind} {X E : Nat} (h : leB k E X = true) : Le k X E := le_const h
end Go.Proofs.Ytejpamlaacffaaa

/-
  Absolute values, roots, what is no number: contracts. Conditions: none.
-/
namespace Go.Proofs.Ytejpamlaacffaaa
open Go Go.RowKit

section
variable {P : Program} {s : AS} {o : Oper}
theorem ev_frombits {f : FuncId} {x : Operand} {n : Int} {ts : Array TypeId} (hrun : ∀ n w, (callFunc f #[.int .u64 n]).run P w = .ok (.value (.float .f64 n.toNat)) w) (ho : o.op = .call { callee := .value (.func f), args := #[x], argTypes := ts }) (hx : Opd s x (vv (.int .u64 n))) (hn : n.toNat < 2 ^ 64) : Ev P s o (fl .f64 (can .f64 n.toNat)) := by
  refine ⟨fun w0 a w hs => ?_⟩
  have e : a.eval x = .int .u64 n := hx w0 a w hs
  have hr : (execOp a.eval o).run P w = .ok (.value (.float .f64 n.toNat)) w := by
    simp only [execOp, ho, resolve, Sem.run_bind, List.map_toArray, List.map_cons, List.map_nil, e, invoke]
    simp only [Act.eval, Deferred.ofValue, Sem.run_pure, Result.andThen_ok, Array.empty_append, Array.append_empty]
    exact hrun n w
  rw [hr]
  exact .of_val ⟨_, rfl, Fb.self hn⟩
end
theorem run_frombits (n : Int) (w : World) : (callFunc 76 #[.int .u64 n]).run Try.prog w = .ok (.value (.float .f64 n.toNat)) w := by
  rw [run_callFunc_extern (e := Extern.MathFloatBits.float64frombits) Try.func76 (by decide) (by kernel_rfl) (by kernel_rfl) (by kernel_rfl)]
  rfl
set_option maxRecDepth 100000 in
set_option maxHeartbeats 2000000 in
theorem c_nan : Con Try.prog 72 [] (RetA (fl .f64 (nanOf .f64))) := by
  refine con_enter Try.func72 rfl (by kernel_rfl) Try.ntmps72 rfl fun w0 => ?_
  (repeat (first | (refine gA ?_; first | refine aops_nil ?_ | (refine gA_gd ?_; first | refine gY ?_ | refine gN ?_ | refine gS ?_) | (refine gA_alloc ?_; refine sA ?_; intro _) | (refine gA_store ?_; first | refine sS ?_ | refine sSr ?_) | (refine gA_box ?_; refine sB ?_; intro _) | (refine gA_move ?_; refine sE_move ?_) | (refine gA_load ?_; refine sE_load ?_) | (refine gA_assign ?_; refine sE_assign ?_) | (refine gA_field ?_; refine sE_field ?_) | (refine gA_bin ?_; refine sE_bin ?_) | (refine gA_index ?_; refine sE_index ?_) | (refine gA_callb ?_; refine sE_callb ?_) | (refine gA_un ?_; refine sE_un ?_) | (refine gA_conv ?_; refine sE_conv ?_) | (refine gA_build ?_; refine sE_build ?_) | (refine gA_ext ?_; refine sE_ext ?_) | (refine gA_slice ?_; refine sE_slice ?_) | (refine gA_nilc ?_; refine sE_nilc ?_) | (refine gA_pick ?_; refine sE_pick ?_) | (refine gA_func ?_; refine sE_func ?_)) | (refine gW ?_; first | refine awp_seq ?_ | refine awp_region ?_ | refine awp_block ?_ | refine awp_skip ?_ | refine awp_ret ?_ | refine awp_exit ?_ | refine awp_label ?_) | (refine gX ?_; first | refine aex_then ?_ | refine aex_normal_block ?_ | refine aex_ret_then ?_ | refine aex_ret_block ?_ | refine aex_exit_then ?_ | refine aex_exit_here ?_ | refine aex_exit_out rfl ?_ | refine aex_nop ?_)))
  refine aops_ev (ev_frombits run_frombits rfl (Opd.c _) (by decide)) rfl ?_
  rw [show can .f64 ((9221120237041090561 : Int)).toNat = nanOf .f64 by decide +kernel]
  (repeat (first | (refine gA ?_; first | refine aops_nil ?_ | (refine gA_gd ?_; first | refine gY ?_ | refine gN ?_ | refine gS ?_) | (refine gA_alloc ?_; refine sA ?_; intro _) | (refine gA_store ?_; first | refine sS ?_ | refine sSr ?_) | (refine gA_box ?_; refine sB ?_; intro _) | (refine gA_move ?_; refine sE_move ?_) | (refine gA_load ?_; refine sE_load ?_) | (refine gA_assign ?_; refine sE_assign ?_) | (refine gA_field ?_; refine sE_field ?_) | (refine gA_bin ?_; refine sE_bin ?_) | (refine gA_index ?_; refine sE_index ?_) | (refine gA_callb ?_; refine sE_callb ?_) | (refine gA_un ?_; refine sE_un ?_) | (refine gA_conv ?_; refine sE_conv ?_) | (refine gA_build ?_; refine sE_build ?_) | (refine gA_ext ?_; refine sE_ext ?_) | (refine gA_slice ?_; refine sE_slice ?_) | (refine gA_nilc ?_; refine sE_nilc ?_) | (refine gA_pick ?_; refine sE_pick ?_) | (refine gA_func ?_; refine sE_func ?_)) | (refine gW ?_; first | refine awp_seq ?_ | refine awp_region ?_ | refine awp_block ?_ | refine awp_skip ?_ | refine awp_ret ?_ | refine awp_exit ?_ | refine awp_label ?_) | (refine gX ?_; first | refine aex_then ?_ | refine aex_normal_block ?_ | refine aex_ret_then ?_ | refine aex_ret_block ?_ | refine aex_exit_then ?_ | refine aex_exit_here ?_ | refine aex_exit_out rfl ?_ | refine aex_nop ?_)))
  exact aex_ret1 rfl (resV_tmp (Opd.tmp rfl)) (by exact rfl)
def noF : Nat := fcvt .f64 .f32 (nanOf .f64)
set_option maxRecDepth 100000 in
set_option maxHeartbeats 2000000 in
theorem c_narrow {Z : Nat} (hf : fits .f64 .f32 Z) : Con Try.prog 59 [fl .f64 Z] (RetA (fl .f32 (fcvt .f64 .f32 Z))) := by
  refine con_enter Try.func59 rfl (by kernel_rfl) Try.ntmps59 rfl fun w0 => ?_
  (repeat (first | (refine gA ?_; first | refine aops_nil ?_ | (refine gA_gd ?_; first | refine gY ?_ | refine gN ?_ | refine gS ?_) | (refine gA_alloc ?_; refine sA ?_; intro _) | (refine gA_store ?_; first | refine sS ?_ | refine sSr ?_) | (refine gA_box ?_; refine sB ?_; intro _) | (refine gA_move ?_; refine sE_move ?_) | (refine gA_load ?_; refine sE_load ?_) | (refine gA_assign ?_; refine sE_assign ?_) | (refine gA_field ?_; refine sE_field ?_) | (refine gA_bin ?_; refine sE_bin ?_) | (refine gA_index ?_; refine sE_index ?_) | (refine gA_callb ?_; refine sE_callb ?_) | (refine gA_un ?_; refine sE_un ?_) | (refine gA_conv ?_; refine sE_conv ?_) | (refine gA_build ?_; refine sE_build ?_) | (refine gA_ext ?_; refine sE_ext ?_) | (refine gA_slice ?_; refine sE_slice ?_) | (refine gA_nilc ?_; refine sE_nilc ?_) | (refine gA_pick ?_; refine sE_pick ?_) | (refine gA_func ?_; refine sE_func ?_)) | (refine gW ?_; first | refine awp_seq ?_ | refine awp_region ?_ | refine awp_block ?_ | refine awp_skip ?_ | refine awp_ret ?_ | refine awp_exit ?_ | refine awp_label ?_) | (refine gX ?_; first | refine aex_then ?_ | refine aex_normal_block ?_ | refine aex_ret_then ?_ | refine aex_ret_block ?_ | refine aex_exit_then ?_ | refine aex_exit_here ?_ | refine aex_exit_out rfl ?_ | refine aex_nop ?_)))
  exact aex_ret1 rfl (resV_tmp (Opd.tmp rfl)) (by exact rfl)
theorem c_sqrt {V : Nat} : Con Try.prog 57 [fl .f64 V] (RetA (fl .f64 (fsqrt V))) := con_of ⟨_, Try.func57, rfl, by kernel_rfl⟩ fun w vs h => by
  match vs, h with
  | [a], h =>
    obtain ⟨x, rfl, hx⟩ := h.1
    exact (mathSqrt w hx).mono fun e w' ⟨v, he, hv, hb⟩ => ⟨_, he, hb, fun wx => ⟨v, rfl, hv⟩⟩
end Go.Proofs.Ytejpamlaacffaaa
