/-
  Exact roundings, widened floats, absolute values; bounds that a NaN may break. Conditions: none.
-/
import Derived.Test.YtjkpnnbahhlopaaBd
import Derived.Test.YtjkpnnbahhlopaaFn
namespace Go.Proofs.Ytjkpnnbahhlopaa
open Go Go.RowKit

/-- A number of few digits is not rounded. -/
theorem nearest_exact {k : FloatKind} {neg : Bool} {mag : Nat} {place : Int} (hm : mag < 2 ^ (k.format.fractionBits + 1)) (hp : k.format.leastPlace ≤ place) (hI : ((place - k.format.leastPlace).toNat + 2) * k.format.binade ≤ k.format.infRung) : ∃ m i, k.format.read (k.format.nearest neg mag place) = .number neg m i ∧ k.format.leastPlace ≤ i ∧ m * 2 ^ (i - k.format.leastPlace).toNat = mag * 2 ^ (place - k.format.leastPlace).toNat := by
  have hb0 : 0 < k.format.binade := Nat.pow_pos (by omega)
  have hb : k.format.binade = 2 ^ k.format.fractionBits := rfl
  -- the rung and what it is worth
  have hr : ∃ r, k.format.nearest neg mag place = k.format.word neg r ∧ r < k.format.infRung ∧ rvq k.format.binade (r / k.format.binade) (r % k.format.binade) = mag * 2 ^ (place - k.format.leastPlace).toNat := by
    unfold Ieee.Format.nearest
    by_cases h0 : mag = 0
    · rw [if_pos h0]
      refine ⟨0, rfl, Nat.lt_of_lt_of_le (Nat.mul_pos (by omega) hb0) hI, ?_⟩
      rw [h0, Nat.zero_mul, Nat.zero_div, Nat.zero_mod]
      rfl
    rw [if_neg h0]
    simp only
    generalize hL : mag.log2 = L
    have hl1 : 2 ^ L ≤ mag := by rw [← hL]; exact Nat.log2_self_le h0
    have hl2 : mag < 2 ^ (L + 1) := by rw [← hL]; exact Nat.lt_log2_self
    have hLf : L ≤ k.format.fractionBits := by
      have : 2 ^ L < 2 ^ (k.format.fractionBits + 1) := Nat.lt_of_le_of_lt hl1 hm
      have := (Nat.pow_lt_pow_iff_right (by omega : 1 < 2)).1 this
      omega
    generalize hlast : max (place + (L : Int) - (k.format.fractionBits : Int)) k.format.leastPlace = last
    have hle : last ≤ place := by rw [← hlast]; omega
    have hge : k.format.leastPlace ≤ last := by rw [← hlast]; omega
    rw [show (last - place).toNat = 0 by omega, cut_zero, Nat.shiftLeft_eq]
    have hkept : mag * 2 ^ (place - last).toNat < 2 * k.format.binade := by
      rw [hb]
      refine Nat.lt_of_lt_of_le (Nat.mul_lt_mul_of_pos_right hl2 (Nat.pow_pos (by omega))) ?_
      rw [← Nat.pow_add, show 2 * 2 ^ k.format.fractionBits = 2 ^ (k.format.fractionBits + 1) by rw [Nat.pow_succ, Nat.mul_comm]]
      exact Nat.pow_le_pow_right (by omega) (by omega)
    have hlt : (last - k.format.leastPlace).toNat * k.format.binade + mag * 2 ^ (place - last).toNat < k.format.infRung := by
      refine Nat.lt_of_lt_of_le (Nat.add_lt_add_left hkept _) (Nat.le_trans ?_ hI)
      rw [← Nat.add_mul]
      exact Nat.mul_le_mul_right _ (by omega)
    rw [Nat.min_eq_left (Nat.le_of_lt hlt)]
    refine ⟨_, rfl, hlt, ?_⟩
    by_cases hn : last = k.format.leastPlace
    · rw [hn, Int.sub_self, show (0 : Int).toNat = 0 from rfl, Nat.zero_mul, Nat.zero_add]
      rw [hn] at hkept
      generalize mag * 2 ^ (place - k.format.leastPlace).toNat = z at *
      by_cases hz : z < k.format.binade
      · rw [Nat.div_eq_of_lt hz, Nat.mod_eq_of_lt hz]
        rfl
      · have e1 : z / k.format.binade = 1 := by
          rw [Nat.div_eq_iff hb0]
          omega
        have e2 := Nat.div_add_mod z k.format.binade
        rw [e1, Nat.mul_one] at e2
        rw [e1]
        unfold rvq
        rw [if_neg (by omega), Nat.sub_self, Nat.pow_zero, Nat.mul_one]
        exact e2
    · have hl : last = place + (L : Int) - (k.format.fractionBits : Int) := by omega
      have hlow : k.format.binade ≤ mag * 2 ^ (place - last).toNat := by
        rw [hb]
        refine Nat.le_trans ?_ (Nat.mul_le_mul_right _ hl1)
        rw [← Nat.pow_add]
        exact Nat.pow_le_pow_right (by omega) (by omega)
      have hpw : mag * 2 ^ (place - k.format.leastPlace).toNat = mag * 2 ^ (place - last).toNat * 2 ^ (last - k.format.leastPlace).toNat := by
        rw [Nat.mul_assoc, ← Nat.pow_add, show (place - last).toNat + (last - k.format.leastPlace).toNat = (place - k.format.leastPlace).toNat by omega]
      rw [hpw]
      generalize mag * 2 ^ (place - last).toNat = z at *
      generalize (last - k.format.leastPlace).toNat = q at *
      have e0 : q * k.format.binade + z = (z - k.format.binade) + k.format.binade * (q + 1) := by
        rw [Nat.mul_comm k.format.binade, Nat.add_mul, Nat.one_mul]
        omega
      have e1 : (q * k.format.binade + z) / k.format.binade = q + 1 := by
        rw [e0, Nat.add_mul_div_left _ _ hb0, Nat.div_eq_of_lt (by omega), Nat.zero_add]
      have e2 : (q * k.format.binade + z) % k.format.binade = z - k.format.binade := by
        rw [e0, Nat.add_mul_mod_self_left, Nat.mod_eq_of_lt (by omega)]
      rw [e1, e2]
      unfold rvq
      rw [if_neg (by omega), Nat.add_sub_cancel]
      congr 1
      omega
  obtain ⟨r, h1, h2, h3⟩ := hr
  rw [h1]
  have hw := word_mod k.format neg (rung_lt_sign k.format (Nat.le_of_lt h2))
  rcases read_parts k.format (k.format.word neg r) (exp_pos k) (read_word_num k.format neg (Nat.le_of_lt h2)) with ⟨_, g1, m, i, g2⟩ | ⟨g1, _⟩
  · have hf := read_form k.format _ g2
    have hneg : negW k.format (k.format.word neg r) = neg := by
      have hq := rung_lt_sign k.format (Nat.le_of_lt h2)
      have hs : 0 < k.format.signWeight := by omega
      unfold negW Ieee.Format.word
      cases neg
      · simp [Nat.div_eq_of_lt hq]
      · simp [Nat.add_div_left _ hs, Nat.div_eq_of_lt hq]
    rw [hneg] at g1 g2
    refine ⟨m, i, g2, hf.1, ?_⟩
    rw [hw, g2] at g1
    have g3 : (Ieee.signed neg m (i - k.format.leastPlace).toNat).natAbs = (sgnI neg (rvq k.format.binade (r / k.format.binade) (r % k.format.binade))).natAbs := congrArg Int.natAbs g1
    rw [signed_abs, sgnI_abs] at g3
    rw [g3, h3]
  · rw [hw] at g1
    omega
theorem signed_of {s : Bool} {m n a b : Nat} (h : m * 2 ^ a = n * 2 ^ b) : Ieee.signed s m a = Ieee.signed s n b := by
  unfold Ieee.signed
  rw [Nat.shiftLeft_eq, Nat.shiftLeft_eq, h]
/-- A widened number. -/
theorem cvt_exact {X : Nat} {s : Bool} {m : Nat} {i : Int} (h : FloatKind.f32.format.read X = .number s m i) : ∃ n j, FloatKind.f64.format.read (fcvt .f32 .f64 X) = .number s n j ∧ -1074 ≤ j ∧ n * 2 ^ (j - -1074).toNat = m * 2 ^ (i - -1074).toNat := by
  obtain ⟨h1, h2, h3⟩ := read32 X h
  have lp : FloatKind.f64.format.leastPlace = -1074 := by decide
  have nx : isNan .f32 X = false := by unfold isNan; rw [h]; rfl
  obtain ⟨n, j, e1, e2, e3⟩ := nearest_exact (k := .f64) (neg := s) (mag := m) (place := i) (Nat.lt_trans h1 (by decide)) (by rw [lp]; omega) (by
    rw [lp]
    have : (i - -1074).toNat + 2 ≤ 1180 := by omega
    exact Nat.le_trans (Nat.mul_le_mul_right _ this) (by decide))
  rw [lp] at e2 e3
  refine ⟨n, j, ?_, e2, e3⟩
  have hv : floatToFloatBits .f32 X .f64 = some (FloatKind.f64.format.nearest s m i) := by
    have hd : FloatKind.f32.decode X = .number s m i := h
    unfold floatToFloatBits
    rw [if_neg (by decide), hd]
    have e4 : FloatKind.f64.decode (FloatKind.f64.encode (.number s m i)) = .number s n j := e1
    simp only [e4]
    rfl
  have : fcvt .f32 .f64 X = FloatKind.f64.format.nearest s m i := by unfold fcvt; rw [hv]; rfl
  rw [this]
  exact e1
theorem cvt_inf {X : Nat} {s : Bool} (h : FloatKind.f32.format.read X = .infinity s) : FloatKind.f64.format.read (fcvt .f32 .f64 X) = .infinity s := by
  have hd : FloatKind.f32.decode X = .infinity s := h
  have hv : floatToFloatBits .f32 X .f64 = some (FloatKind.f64.encode (.infinity s)) := by
    unfold floatToFloatBits
    rw [if_neg (by decide), hd]
  have : fcvt .f32 .f64 X = FloatKind.f64.encode (.infinity s) := by unfold fcvt; rw [hv]; rfl
  rw [this]
  cases s <;> decide +kernel
theorem cvt_nan {X : Nat} (h : isNan .f32 X = true) : isNan .f64 (fcvt .f32 .f64 X) = true := by
  obtain ⟨s, t, e⟩ := nan_form h
  have hd : FloatKind.f32.decode X = .nan s t := e
  have : fcvt .f32 .f64 X = nanOf .f64 := by
    unfold fcvt floatToFloatBits
    rw [if_neg (by decide), hd]
    rfl
  rw [this]
  exact isNan_nanOf .f64
theorem rk_cvt {X : Nat} {s : Bool} {m : Nat} {i : Int} (h : FloatKind.f32.format.read X = .number s m i) : ∃ q : Int, 0 < q ∧ rk .f64 (fcvt .f32 .f64 X) = rk .f32 X * q := by
  obtain ⟨n, j, e1, e2, e3⟩ := cvt_exact h
  have l64 : FloatKind.f64.format.leastPlace = -1074 := by decide
  have l32 : FloatKind.f32.format.leastPlace = -149 := by decide
  obtain ⟨_, h2, _⟩ := read32 X h
  obtain ⟨M, hM⟩ : ∃ M : Nat, M = 925 := ⟨_, rfl⟩
  refine ⟨((2 ^ M : Nat) : Int), ?_, ?_⟩
  · have := Nat.pow_pos (n := M) (show 0 < 2 by omega)
    omega
  unfold rk
  rw [e1, h]
  unfold rkD
  rw [l64, l32, ← signed_scale]
  exact signed_of (by rw [e3, show (i - -149).toNat + M = (i - -1074).toNat by omega])
/-- Finite 64-bit floats, as the reference tells them. -/
def fin64 (X : Nat) : Bool := cmpB .eql .f64 (fop .sub .f64 X X) 0
theorem fin64_num (X : Nat) : fin64 X = numD (FloatKind.f64.format.read X) := by
  have hnan : cmpB .eql .f64 (nanOf .f64) 0 = false := by
    show (FloatKind.f64.format.order (nanOf .f64) 0 == some .eq) = false
    rw [order_nan_left (isNan_nanOf .f64)]
    rfl
  unfold fin64
  cases h : FloatKind.f64.format.read X with
  | number s m i =>
    have e : FloatKind.f64.format.sub X X = some 0 := by
      unfold Ieee.Format.sub
      rw [h]
      have e0 : min i i = i := Int.min_self i
      have e1 : Ieee.signed s m (i - i).toNat + Ieee.signed (!s) m (i - i).toNat = 0 := by
        unfold Ieee.signed
        cases s <;> simp <;> omega
      simp only [Ieee.Datum.opposite, Ieee.Datum.sum, e0, e1, Option.map_some]
      cases s <;> rfl
    have e2 : fop .sub .f64 X X = 0 := by
      show (FloatKind.f64.format.sub X X).getD _ = 0
      rw [e]; rfl
    rw [e2]
    show cmpB .eql .f64 0 0 = true
    decide +kernel
  | infinity s =>
    have e2 : fop .sub .f64 X X = nanOf .f64 := by
      show (FloatKind.f64.format.sub X X).getD _ = _
      unfold Ieee.Format.sub
      rw [h]
      cases s <;> rfl
    rw [e2, hnan]
    rfl
  | nan s t =>
    have e2 : fop .sub .f64 X X = nanOf .f64 := by
      show (FloatKind.f64.format.sub X X).getD _ = _
      unfold Ieee.Format.sub
      rw [h]
      rfl
    rw [e2, hnan]
    rfl
theorem fin64_cvt (X : Nat) : fin64 (fcvt .f32 .f64 X) = finB X := by
  rw [fin64_num, finB_num]
  cases h : FloatKind.f32.format.read X with
  | number s m i => obtain ⟨n, j, e1, _⟩ := cvt_exact h; rw [e1]; rfl
  | infinity s => rw [cvt_inf h]
  | nan s t =>
    have hn : isNan .f32 X = true := by unfold isNan; rw [h]; rfl
    obtain ⟨s2, t2, e⟩ := nan_form (cvt_nan hn)
    rw [e]
    rfl
theorem zero32 : rk .f32 0 = 0 := by decide +kernel
theorem zero64 : rk .f64 0 = 0 := by decide +kernel
theorem num_cvt {X : Nat} (h : finB X = true) : isNan .f32 X = false ∧ isNan .f64 (fcvt .f32 .f64 X) = false ∧ ∃ q : Int, 0 < q ∧ rk .f64 (fcvt .f32 .f64 X) = rk .f32 X * q := by
  rw [finB_num] at h
  cases hx : FloatKind.f32.format.read X with
  | number s m i =>
    obtain ⟨n, j, e1, _⟩ := cvt_exact hx
    exact ⟨by unfold isNan; rw [hx]; rfl, by unfold isNan; rw [e1]; rfl, rk_cvt hx⟩
  | infinity s => rw [hx] at h; cases h
  | nan s t => rw [hx] at h; cases h
theorem lss_cvt {X : Nat} (h : finB X = true) : cmpB .lss .f64 (fcvt .f32 .f64 X) 0 = cmpB .lss .f32 X 0 := by
  obtain ⟨h1, h2, q, hp, h3⟩ := num_cvt h
  rw [lss_rk h2 (by decide +kernel), lss_rk h1 (by decide +kernel), h3, zero32, zero64]
  congr 1
  apply propext
  constructor
  · intro hh
    by_cases h4 : rk .f32 X < 0
    · exact h4
    · have := Int.mul_nonneg (show 0 ≤ rk .f32 X by omega) (Int.le_of_lt hp)
      omega
  · intro hh
    exact Int.mul_neg_of_neg_of_pos hh hp
theorem eql_cvt {X : Nat} (h : finB X = true) : cmpB .eql .f64 (fcvt .f32 .f64 X) 0 = cmpB .eql .f32 X 0 := by
  obtain ⟨h1, h2, q, hp, h3⟩ := num_cvt h
  rw [eql_rk h2 (by decide +kernel), eql_rk h1 (by decide +kernel), h3, zero32, zero64]
  congr 1
  apply propext
  constructor
  · intro hh
    rcases Int.mul_eq_zero.1 hh with h4 | h4
    · exact h4
    · omega
  · intro hh
    rw [hh, Int.zero_mul]
/- Bounds that a NaN may break. -/
theorem fop_nanR {op : BinOp} {k : FloatKind} {X Y : Nat} (h : isNan k Y = true) : isNan k (fop op k X Y) = true := by
  unfold fop; rw [floatBits_nan_right h]; exact isNan_nanOf k
theorem leN_mul {k : FloatKind} {X Y E F G : Nat} (h1 : LeN k X E) (h2 : LeN k Y F) (hG : G + (-k.format.leastPlace).toNat = E + F) (hs : Small k.format G) : LeN k (fop .mul k X Y) G := by
  rcases h1 with h1 | h1
  · exact .inl (fop_nanL h1)
  · rcases h2 with h2 | h2
    · exact .inl (fop_nanR h2)
    · exact .inr (le_mul h1 h2 hG hs)
theorem leN_sub {k : FloatKind} {X Y E : Nat} (h1 : LeN k X E) (h2 : LeN k Y E) (hs : Small k.format (E + 1)) : LeN k (fop .sub k X Y) (E + 1) := by
  rcases h1 with h1 | h1
  · exact .inl (fop_nanL h1)
  · rcases h2 with h2 | h2
    · exact .inl (fop_nanR h2)
    · exact .inr (le_sub h1 h2 hs)
theorem leN_quo {k : FloatKind} {X Y E : Nat} (h1 : LeN k X E) (h2 : Den k Y) (hE : (-k.format.leastPlace).toNat ≤ E) (hs : Small k.format E) : LeN k (fop .quo k X Y) E := by
  rcases h1 with h1 | h1
  · exact .inl (fop_nanL h1)
  · rcases h2 with h2 | h2 | h2
    · exact .inl (fop_nanR h2)
    · refine .inr ?_
      rename_i t
      obtain ⟨s, m, i, e, _⟩ := h1
      show Le k ((((k.format.read X).quotient (k.format.fractionBits + 2) (k.format.read Y)).map k.format.write).getD (nanOf k)) E
      rw [e, h2]
      exact le_of_write (neg := Bool.xor s t) (mag := 0) (place := 0) rfl hs (by rw [Nat.zero_mul]; exact Nat.zero_le _)
    · exact .inr (le_quo h1 h2 hE hs)
theorem leN_mono {k : FloatKind} {X E F : Nat} (h : LeN k X E) (hE : E ≤ F) : LeN k X F := by
  rcases h with h | h
  · exact .inl h
  · exact .inr (LeD.mono h hE)
theorem leN_fits {X E : Nat} (h : LeN .f64 X E) (hE : E ≤ 1175) : fits .f64 .f32 X := by
  rcases h with h | h
  · intro h2; rw [h] at h2; cases h2
  · exact le_fits h hE
theorem read_neg64 (X : Nat) : FloatKind.f64.format.read (Op.negFloat .f64 X) = (FloatKind.f64.format.read X).opposite := by
  have e1 : FloatKind.f64.format.signWeight = 9223372036854775808 := rfl
  have h1 : Op.negFloat .f64 X = X ^^^ 2 ^ 63 := rfl
  have q2 : (X ^^^ 2 ^ 63) % 2 ^ 63 = X % 2 ^ 63 := by rw [Nat.xor_mod_two_pow, Nat.mod_self, Nat.xor_zero]
  have q3 : (X ^^^ 2 ^ 63) / 9223372036854775808 % 2 = 1 - X / 9223372036854775808 % 2 := by
    have a := Nat.testBit_xor X (2 ^ 63) 63
    rw [Nat.testBit_two_pow_self, Bool.xor_true, Nat.testBit_eq_decide_div_mod_eq, Nat.testBit_eq_decide_div_mod_eq] at a
    have b1 := Nat.mod_two_eq_zero_or_one ((X ^^^ 2 ^ 63) / 2 ^ 63)
    have b2 := Nat.mod_two_eq_zero_or_one (X / 2 ^ 63)
    rcases b1 with b1 | b1 <;> rcases b2 with b2 | b2 <;> rw [b1, b2] at a <;> simp at a
    · show _ = 1 - X / 2 ^ 63 % 2
      rw [b2]; exact b1
    · show _ = 1 - X / 2 ^ 63 % 2
      rw [b2]; exact b1
  rw [h1]
  unfold Ieee.Format.read
  simp only [e1]
  rw [q3, show (X ^^^ 2 ^ 63) % 9223372036854775808 = X % 9223372036854775808 from q2]
  have b2 := Nat.mod_two_eq_zero_or_one (X / 9223372036854775808)
  rcases b2 with b2 | b2 <;> rw [b2]
  all_goals
    split
    · rfl
    · split
      · rfl
      · split <;> rfl
theorem leN_neg {X E : Nat} (h : LeN .f64 X E) : LeN .f64 (fneg .f64 X) E := by
  unfold fneg can
  split
  · exact .inl (isNan_nanOf .f64)
  · rename_i hn
    rcases h with h | h
    · refine .inl ?_
      unfold isNan at h ⊢
      rw [read_neg64]
      cases hx : FloatKind.f64.format.read X <;> rw [hx] at h <;> first | rfl | cases h
    · refine .inr ?_
      unfold Le
      rw [read_neg64]
      exact LeD.opposite h
/-- The absolute value. -/
def absF (X : Nat) : Nat := X % 9223372036854775808
theorem read_abs {X : Nat} {s : Bool} {m : Nat} {i : Int} (h : FloatKind.f64.format.read X = .number s m i) : FloatKind.f64.format.read (absF X) = .number false m i := by
  have e1 : FloatKind.f64.format.signWeight = 9223372036854775808 := rfl
  unfold absF
  unfold Ieee.Format.read at h ⊢
  simp only [e1] at h ⊢
  rw [Nat.mod_mod, Nat.div_eq_of_lt (Nat.mod_lt X (by omega))]
  split at h
  · rename_i hr
    rw [if_pos hr]
    injection h with a b c
    subst b; subst c
    rfl
  · rename_i hr
    rw [if_neg hr]
    split at h
    · rename_i hr2
      rw [if_pos hr2]
      injection h with a b c
      subst b; subst c
      rfl
    · split at h <;> cases h
/-- A quotient of two numbers of which the second one is not less. -/
theorem le_ratio {A B : Nat} {m n : Nat} {i j : Int} (hA : FloatKind.f64.format.read A = .number false m i) (hB : FloatKind.f64.format.read B = .number false n j) (hn : n ≠ 0) (h : rk .f64 A ≤ rk .f64 B) : Le .f64 (fop .quo .f64 A B) 1074 := by
  show Le .f64 ((((FloatKind.f64.format.read A).quotient (FloatKind.f64.format.fractionBits + 2) (FloatKind.f64.format.read B)).map FloatKind.f64.format.write).getD (nanOf .f64)) 1074
  rw [hA, hB]
  refine quo_le (F := 0) (read_form _ _ hA).1 (read_form _ _ hB).1 hn ?_ (by decide) ⟨by decide, by decide⟩
  rw [Nat.pow_zero, Nat.one_mul]
  unfold rk at h
  rw [hA, hB] at h
  unfold rkD Ieee.signed at h
  simp only [Bool.false_eq_true, if_false, Nat.shiftLeft_eq] at h
  omega
theorem small64 {E : Nat} (h1 : 52 ≤ E) (h2 : E ≤ 2000) : Small FloatKind.f64.format E := ⟨h1, Nat.lt_of_le_of_lt (Nat.mul_le_mul_right _ (show E - FloatKind.f64.format.fractionBits + 1 ≤ 1949 by show E - 52 + 1 ≤ 1949; omega)) (by decide)⟩
theorem p64 : (-FloatKind.f64.format.leastPlace).toNat = 1074 := by decide
theorem n64_mul {X Y E F G : Nat} (h1 : LeN .f64 X E) (h2 : LeN .f64 Y F) (hG : G + 1074 = E + F) (h3 : 52 ≤ G) (h4 : G ≤ 2000) : LeN .f64 (fop .mul .f64 X Y) G := leN_mul h1 h2 (by rw [p64]; exact hG) (small64 h3 h4)
theorem n64_sub {X Y E : Nat} (h1 : LeN .f64 X E) (h2 : LeN .f64 Y E) (h3 : 52 ≤ E + 1) (h4 : E + 1 ≤ 2000) : LeN .f64 (fop .sub .f64 X Y) (E + 1) := leN_sub h1 h2 (small64 h3 h4)
theorem n64_quo {X Y E : Nat} (h1 : LeN .f64 X E) (h2 : Den .f64 Y) (h3 : 1074 ≤ E) (h4 : E ≤ 2000) : LeN .f64 (fop .quo .f64 X Y) E := leN_quo h1 h2 (by rw [p64]; exact h3) (small64 (by omega) h4)
def leB (k : FloatKind) (E X : Nat) : Bool := match k.format.read X with
  | .number _ m i => Nat.ble (m * 2 ^ (i - k.format.leastPlace).toNat) (2 ^ E) && decide (k.format.leastPlace ≤ i)
  | _ => false
theorem le_leB {k : FloatKind} {X E : Nat} (h : leB k E X = true) : Le k X E := le_const h
end Go.Proofs.Ytjkpnnbahhlopaa
