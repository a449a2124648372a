/-
  Floats that are no NaN are ordered as integers are. Conditions: none.
-/
import Derived.Test.YtokhbfbanofchaaBA
namespace Go.Proofs.Ytokhbfbanofchaa
open Go Go.RowKit

/-- A place beyond all finite numbers. -/
def farF (f : Ieee.Format) : Int := 2 ^ (f.fractionBits + 1 + 2 ^ f.exponentBits)
def rkD (f : Ieee.Format) : Ieee.Datum → Int
  | .number s m i => Ieee.signed s m (i - f.leastPlace).toNat
  | .infinity s => if s then -(farF f) else farF f
  | .nan _ _ => 0
/-- What a float is worth among the others. -/
def rk (k : FloatKind) (X : Nat) : Int := rkD k.format (k.format.read X)

theorem signed_scale (s : Bool) (m a d : Nat) : Ieee.signed s m (a + d) = Ieee.signed s m a * (2 ^ d : Nat) := by
  unfold Ieee.signed
  rw [Nat.shiftLeft_eq, Nat.shiftLeft_eq, Nat.pow_add, ← Nat.mul_assoc]
  cases s
  · simp
  · simp [Int.neg_mul]
theorem read_form (f : Ieee.Format) (X : Nat) {s : Bool} {m : Nat} {i : Int} (h : f.read X = .number s m i) : f.leastPlace ≤ i ∧ m < 2 ^ (f.fractionBits + 1) ∧ (i - f.leastPlace).toNat < 2 ^ f.exponentBits := by
  have hb : 0 < f.binade := Nat.pow_pos (by omega)
  have he : 0 < 2 ^ f.exponentBits := Nat.pow_pos (by omega)
  have h2 : 2 ^ (f.fractionBits + 1) = f.binade + f.binade := by rw [Nat.pow_succ]; show f.binade * 2 = _; omega
  unfold Ieee.Format.read at h
  simp only at h
  split at h
  · rename_i hr
    injection h with e1 e2 e3
    subst e2; subst e3
    exact ⟨Int.le_refl _, by omega, by simpa using he⟩
  · split at h
    · rename_i hr0 hr
      injection h with e1 e2 e3
      subst e2; subst e3
      have hm := Nat.mod_lt (X % f.signWeight) hb
      have hq : X % f.signWeight / f.binade < 2 ^ f.exponentBits - 1 := (Nat.div_lt_iff_lt_mul hb).2 hr
      refine ⟨by omega, by omega, ?_⟩
      have : (f.leastPlace + ((X % f.signWeight / f.binade - 1 : Nat) : Int) - f.leastPlace).toNat = X % f.signWeight / f.binade - 1 := by omega
      rw [this]
      omega
    · split at h <;> cases h
/- The comparisons of two that are no NaN, as booleans. -/
section
variable {k : FloatKind} {X Y : Nat} (hx : isNan k X = false) (hy : isNan k Y = false)
include hx hy
end
theorem fop_nanL {op : BinOp} {k : FloatKind} {X Y : Nat} (h : isNan k X = true) : isNan k (fop op k X Y) = true := by
  unfold fop; rw [floatBits_nan_left h]; exact isNan_nanOf k
end Go.Proofs.Ytokhbfbanofchaa
