/-
  Bounds of floats by powers of two. Conditions: none.
-/
import Derived.Test.YtejpamlaacffaaaSn
import Derived.Test.YtejpamlaacffaaaRoot
namespace Go.Proofs.Ytejpamlaacffaaa
open Go Go.RowKit

theorem cut_even_le {neg : Bool} {n drop c : Nat} (h : n ≤ c * 2 ^ drop) : Ieee.Toward.even.cut neg n drop ≤ c := by
  unfold Ieee.Toward.cut
  simp only [Nat.shiftLeft_eq, Nat.one_mul]
  by_cases hd : drop ≤ n.log2 + 2
  · rw [Nat.min_eq_left hd]
    have hp : 0 < 2 ^ drop := Nat.pow_pos (by omega)
    rcases Nat.lt_or_eq_of_le h with h1 | h1
    · have h2 : n / 2 ^ drop < c := (Nat.div_lt_iff_lt_mul hp).2 h1
      have h3 : ∀ b : Bool, b.toNat ≤ 1 := fun b => by cases b <;> decide
      exact Nat.le_trans (Nat.add_le_add_left (h3 _) _) h2
    · subst h1
      rw [Nat.mul_mod_left, Nat.mul_div_cancel _ hp]
      have e1 : decide (2 ^ drop < 2 * 0) = false := decide_eq_false (by omega)
      have e2 : (2 ^ drop == 2 * 0) = false := by
        rw [beq_eq_false_iff_ne]
        omega
      rw [e1, e2]
      simp
  · rw [Nat.min_eq_right (by omega)]
    have hlt : n < 2 ^ (n.log2 + 1) := Nat.lt_log2_self
    have hlt2 : 2 * n < 2 ^ (n.log2 + 2) := by rw [Nat.pow_succ]; omega
    have e0 : n / 2 ^ (n.log2 + 2) = 0 := Nat.div_eq_of_lt (by omega)
    have e1 : n % 2 ^ (n.log2 + 2) = n := Nat.mod_eq_of_lt (by omega)
    rw [e0, e1]
    have e2 : decide (2 ^ (n.log2 + 2) < 2 * n) = false := decide_eq_false (by omega)
    have e3 : (2 ^ (n.log2 + 2) == 2 * n) = false := by
      rw [beq_eq_false_iff_ne]
      omega
    rw [e2, e3]
    simp
/-- The power is one of the format's numbers. -/
def Small (f : Ieee.Format) (E : Nat) : Prop := f.fractionBits ≤ E ∧ (E - f.fractionBits + 1) * f.binade < f.infRung
/-- A number of at most 2 to the power of E, from the format's least place on. -/
def LeD (f : Ieee.Format) (d : Ieee.Datum) (E : Nat) : Prop := ∃ s m i, d = .number s m i ∧ f.leastPlace ≤ i ∧ m * 2 ^ (i - f.leastPlace).toNat ≤ 2 ^ E
def Le (k : FloatKind) (X E : Nat) : Prop := LeD k.format (k.format.read X) E
theorem signed_abs (s : Bool) (m a : Nat) : (Ieee.signed s m a).natAbs = m * 2 ^ a := by
  unfold Ieee.signed
  rw [Nat.shiftLeft_eq]
  cases s
  · simp only [Bool.false_eq_true, if_false, Int.natAbs_natCast]
  · simp only [if_true, Int.natAbs_neg, Int.natAbs_natCast]
theorem sgnI_abs (s : Bool) (n : Nat) : (sgnI s n).natAbs = n := by unfold sgnI; cases s <;> simp
theorem exp_pos (k : FloatKind) : 0 < k.format.exponentBits := by cases k <;> decide
theorem LeD.opposite {f : Ieee.Format} {d : Ieee.Datum} {E : Nat} (h : LeD f d E) : LeD f d.opposite E := by
  obtain ⟨s, m, i, rfl, hi, hm⟩ := h
  exact ⟨!s, m, i, rfl, hi, hm⟩
theorem LeD.mono {f : Ieee.Format} {d : Ieee.Datum} {E F : Nat} (h : LeD f d E) (hE : E ≤ F) : LeD f d F := by
  obtain ⟨s, m, i, e, hi, hm⟩ := h
  exact ⟨s, m, i, e, hi, Nat.le_trans hm (Nat.pow_le_pow_right (by omega) hE)⟩
theorem lp_neg (k : FloatKind) : k.format.leastPlace ≤ 0 := by cases k <;> decide
/-- A number that is not less than one, apart from its sign. -/
def Ge1 (k : FloatKind) (X : Nat) : Prop := ∃ s m i, k.format.read X = .number s m i ∧ k.format.leastPlace ≤ i ∧ 2 ^ (-k.format.leastPlace).toNat ≤ m * 2 ^ (i - k.format.leastPlace).toNat
theorem cut_even_ge {neg : Bool} {n drop c : Nat} (h : c * 2 ^ drop ≤ n) : c ≤ Ieee.Toward.even.cut neg n drop := by
  unfold Ieee.Toward.cut
  simp only [Nat.shiftLeft_eq, Nat.one_mul]
  refine Nat.le_trans ?_ (Nat.le_add_right _ _)
  by_cases hd : drop ≤ n.log2 + 2
  · rw [Nat.min_eq_left hd]
    exact (Nat.le_div_iff_mul_le (Nat.pow_pos (by omega))).2 h
  · have hlt : n < 2 ^ (n.log2 + 1) := Nat.lt_log2_self
    have h2 : n < 2 ^ drop := Nat.lt_of_lt_of_le hlt (Nat.pow_le_pow_right (by omega) (by omega))
    rcases Nat.eq_zero_or_pos c with h0 | h0
    · rw [h0]
      exact Nat.zero_le _
    · have : 1 * 2 ^ drop ≤ c * 2 ^ drop := Nat.mul_le_mul_right _ h0
      omega
/-- No NaN, and not less than one; or an infinity; or a NaN. -/
inductive Den (k : FloatKind) (X : Nat) : Prop where
  | nan (h : isNan k X = true)
  | inf {s : Bool} (h : k.format.read X = .infinity s)
  | num (h : Ge1 k X)
def LeN (k : FloatKind) (X E : Nat) : Prop := isNan k X = true ∨ Le k X E
end Go.Proofs.Ytejpamlaacffaaa
