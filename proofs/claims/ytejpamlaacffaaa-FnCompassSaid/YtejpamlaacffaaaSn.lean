/-
  Floats are the same where they are equal and of one sign. Conditions: none.
-/
import Derived.Test.YtejpamlaacffaaaOr
namespace Go.Proofs.Ytejpamlaacffaaa
open Go Go.RowKit

/-- The worth of a rung b * q + t. -/
def rvq (b q t : Nat) : Nat := if q = 0 then t else (b + t) * 2 ^ (q - 1)
theorem rvq_hi {b q t : Nat} (ht : t < b) : rvq b q t < b * 2 ^ q := by
  unfold rvq
  split
  · rename_i h; subst h; simpa using ht
  · obtain ⟨p, rfl⟩ : ∃ p, q = p + 1 := ⟨q - 1, by omega⟩
    rw [Nat.add_sub_cancel, Nat.pow_succ, ← Nat.mul_assoc, Nat.mul_right_comm, Nat.mul_two]
    exact Nat.mul_lt_mul_of_pos_right (by omega) (Nat.pow_pos (by omega))
def negW (f : Ieee.Format) (X : Nat) : Bool := X / f.signWeight % 2 == 1
def sgnI (s : Bool) (n : Nat) : Int := if s then -(n : Int) else n
theorem read_parts (f : Ieee.Format) (X : Nat) (he : 0 < f.exponentBits) (hn : (f.read X).isNaN = false) : (X % f.signWeight < f.infRung ∧ rkD f (f.read X) = sgnI (negW f X) (rvq f.binade (X % f.signWeight / f.binade) (X % f.signWeight % f.binade)) ∧ ∃ m i, f.read X = .number (negW f X) m i) ∨ (X % f.signWeight = f.infRung ∧ f.read X = .infinity (negW f X)) := by
  have hb : 0 < f.binade := Nat.pow_pos (by omega)
  unfold Ieee.Format.read at hn ⊢
  simp only at hn ⊢
  split
  · rename_i hr
    by_cases hr2 : X % f.signWeight < f.infRung
    · refine .inl ⟨hr2, ?_, _, _, rfl⟩
      show Ieee.signed _ _ _ = _
      rw [Nat.div_eq_of_lt hr, Nat.mod_eq_of_lt hr]
      unfold Ieee.signed sgnI rvq negW
      simp
    · exfalso
      have : f.infRung = (2 ^ f.exponentBits - 1) * f.binade := rfl
      rcases Nat.eq_zero_or_pos (2 ^ f.exponentBits - 1) with h0 | h0
      · have : 2 ^ 1 ≤ 2 ^ f.exponentBits := Nat.pow_le_pow_right (by omega) he
        omega
      · have := Nat.mul_le_mul_right f.binade h0
        omega
  · rename_i hr
    split
    · rename_i hr2
      refine .inl ⟨hr2, ?_, _, _, rfl⟩
      show Ieee.signed _ _ _ = _
      have hq : X % f.signWeight / f.binade ≠ 0 := by
        intro h
        have := (Nat.div_eq_zero_iff).1 h
        omega
      have e : (f.leastPlace + ((X % f.signWeight / f.binade - 1 : Nat) : Int) - f.leastPlace).toNat = X % f.signWeight / f.binade - 1 := by omega
      rw [e, rvq, if_neg hq]
      unfold Ieee.signed sgnI negW
      simp only [Nat.shiftLeft_eq]
    · split
      · rename_i h
        exact .inr ⟨h, rfl⟩
      · rename_i h2 h3
        rw [if_neg hr, if_neg h2, if_neg h3] at hn
        cases hn
/-- The sign of a 64-bit float, as its bits' integer tells it. -/
def sgn64 (n : Nat) : Bool := decide (IntKind.wrap .i64 (n : Int) < 0)
end Go.Proofs.Ytejpamlaacffaaa
