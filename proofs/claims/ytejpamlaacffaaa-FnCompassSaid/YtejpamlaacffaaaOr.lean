/-
  Floats that are no NaN are ordered as integers are. Conditions: none.
-/
import Derived.Test.YtejpamlaacffaaaBA
namespace Go.Proofs.Ytejpamlaacffaaa
open Go Go.RowKit

/-- A place beyond all finite numbers. -/
def farF (f : Ieee.Format) : Int := 2 ^ (f.fractionBits + 1 + 2 ^ f.exponentBits)
def rkD (f : Ieee.Format) : Ieee.Datum → Int
  | .number s m i => Ieee.signed s m (i - f.leastPlace).toNat
  | .infinity s => if s then -(farF f) else farF f
  | .nan _ _ => 0
/-- What a float is worth among the others. -/
def rk (k : FloatKind) (X : Nat) : Int := rkD k.format (k.format.read X)

theorem signed_scale (s : Bool) (m a d : Nat) : Ieee.signed s m (a + d) = Ieee.signed s m a * (2 ^ d : Nat) := by
  unfold Ieee.signed
  rw [Nat.shiftLeft_eq, Nat.shiftLeft_eq, Nat.pow_add, ← Nat.mul_assoc]
  cases s
  · simp
  · simp [Int.neg_mul]
theorem compare_scale (a b : Int) (d : Nat) (h : 0 < d) : compare (a * (d : Int)) (b * (d : Int)) = compare a b := by
  have hd : (0 : Int) < d := by omega
  rcases Int.lt_trichotomy a b with h1 | h1 | h1
  · rw [Int.compare_eq_lt.2 h1, Int.compare_eq_lt.2 (Int.mul_lt_mul_of_pos_right h1 hd)]
  · subst h1; rw [Int.compare_eq_eq.2 rfl, Int.compare_eq_eq.2 rfl]
  · rw [Int.compare_eq_gt.2 h1, Int.compare_eq_gt.2 (Int.mul_lt_mul_of_pos_right h1 hd)]
theorem read_form (f : Ieee.Format) (X : Nat) {s : Bool} {m : Nat} {i : Int} (h : f.read X = .number s m i) : f.leastPlace ≤ i ∧ m < 2 ^ (f.fractionBits + 1) ∧ (i - f.leastPlace).toNat < 2 ^ f.exponentBits := by
  have hb : 0 < f.binade := Nat.pow_pos (by omega)
  have he : 0 < 2 ^ f.exponentBits := Nat.pow_pos (by omega)
  have h2 : 2 ^ (f.fractionBits + 1) = f.binade + f.binade := by rw [Nat.pow_succ]; show f.binade * 2 = _; omega
  unfold Ieee.Format.read at h
  simp only at h
  split at h
  · rename_i hr
    injection h with e1 e2 e3
    subst e2; subst e3
    exact ⟨Int.le_refl _, by omega, by simpa using he⟩
  · split at h
    · rename_i hr0 hr
      injection h with e1 e2 e3
      subst e2; subst e3
      have hm := Nat.mod_lt (X % f.signWeight) hb
      have hq : X % f.signWeight / f.binade < 2 ^ f.exponentBits - 1 := (Nat.div_lt_iff_lt_mul hb).2 hr
      refine ⟨by omega, by omega, ?_⟩
      have : (f.leastPlace + ((X % f.signWeight / f.binade - 1 : Nat) : Int) - f.leastPlace).toNat = X % f.signWeight / f.binade - 1 := by omega
      rw [this]
      omega
    · split at h <;> cases h
theorem rk_bound (f : Ieee.Format) (X : Nat) {s : Bool} {m : Nat} {i : Int} (h : f.read X = .number s m i) : -(farF f) < rkD f (.number s m i) ∧ rkD f (.number s m i) < farF f := by
  obtain ⟨_, h2, h3⟩ := read_form f X h
  have h4 : m <<< (i - f.leastPlace).toNat < 2 ^ (f.fractionBits + 1 + 2 ^ f.exponentBits) := by
    rw [Nat.shiftLeft_eq, Nat.pow_add]
    exact Nat.lt_of_lt_of_le (Nat.mul_lt_mul_of_pos_right h2 (Nat.pow_pos (by omega))) (Nat.mul_le_mul_left _ (Nat.pow_le_pow_right (by omega) (Nat.le_of_lt h3)))
  have h5 : ((m <<< (i - f.leastPlace).toNat : Nat) : Int) < farF f := by
    unfold farF
    have := Int.ofNat_lt.2 h4
    simpa using this
  have e : rkD f (.number s m i) = Ieee.signed s m (i - f.leastPlace).toNat := rfl
  rw [e]
  unfold Ieee.signed
  have hz : (0 : Int) ≤ ((m <<< (i - f.leastPlace).toNat : Nat) : Int) := Int.natCast_nonneg _
  generalize ((m <<< (i - f.leastPlace).toNat : Nat) : Int) = z at *
  cases s
  · simp; omega
  · simp; omega
theorem order_rkD (f : Ieee.Format) (X Y : Nat) (hx : (f.read X).isNaN = false) (hy : (f.read Y).isNaN = false) : f.order X Y = some (compare (rkD f (f.read X)) (rkD f (f.read Y))) := by
  unfold Ieee.Format.order
  have hf : (0 : Int) < farF f := by unfold farF; exact Int.pow_pos (by omega)
  cases hX : f.read X with
  | nan s t => rw [hX] at hx; cases hx
  | infinity s =>
    cases hY : f.read Y with
    | nan t u => rw [hY] at hy; cases hy
    | infinity t =>
      have ep : rkD f (.infinity false) = farF f := rfl
      have en : rkD f (.infinity true) = -(farF f) := rfl
      cases s <;> cases t
      · rw [ep, Int.compare_eq_eq.2 rfl]; rfl
      · rw [ep, en, Int.compare_eq_gt.2 (by omega)]; rfl
      · rw [ep, en, Int.compare_eq_lt.2 (by omega)]; rfl
      · rw [en, Int.compare_eq_eq.2 rfl]; rfl
    | number t n j =>
      have hb := rk_bound f Y hY
      unfold Ieee.Datum.order
      cases s
      · have e : rkD f (.infinity false) = farF f := rfl
        rw [e, Int.compare_eq_gt.2 (by omega)]
        rfl
      · have e : rkD f (.infinity true) = -(farF f) := rfl
        rw [e, Int.compare_eq_lt.2 (by omega)]
        rfl
  | number s m i =>
    have hb := rk_bound f X hX
    cases hY : f.read Y with
    | nan t u => rw [hY] at hy; cases hy
    | infinity t =>
      unfold Ieee.Datum.order
      cases t
      · have e : rkD f (.infinity false) = farF f := rfl
        rw [e, Int.compare_eq_lt.2 (by omega)]
        rfl
      · have e : rkD f (.infinity true) = -(farF f) := rfl
        rw [e, Int.compare_eq_gt.2 (by omega)]
        rfl
    | number t n j =>
      obtain ⟨hi, _⟩ := read_form f X hX
      obtain ⟨hj, _⟩ := read_form f Y hY
      unfold Ieee.Datum.order rkD
      simp only
      have e1 : (i - f.leastPlace).toNat = (i - min i j).toNat + (min i j - f.leastPlace).toNat := by omega
      have e2 : (j - f.leastPlace).toNat = (j - min i j).toNat + (min i j - f.leastPlace).toNat := by omega
      rw [e1, e2, signed_scale, signed_scale, compare_scale _ _ _ (Nat.pow_pos (by omega))]
theorem order_rk {k : FloatKind} {X Y : Nat} (hx : isNan k X = false) (hy : isNan k Y = false) : k.format.order X Y = some (compare (rk k X) (rk k Y)) := order_rkD k.format X Y hx hy

theorem gtr_iff {k : FloatKind} {X Y : Nat} : cmpB .gtr k X Y = true ↔ isNan k X = false ∧ isNan k Y = false ∧ rk k Y < rk k X := by
  cases hx : isNan k X
  · cases hy : isNan k Y
    · simp [cmpB, order_rk hx hy, Int.compare_eq_gt]
    · simp [cmpB, order_nan_right hy]
  · simp [cmpB, order_nan_left hx]
theorem eql_iff {k : FloatKind} {X Y : Nat} : cmpB .eql k X Y = true ↔ isNan k X = false ∧ isNan k Y = false ∧ rk k X = rk k Y := by
  cases hx : isNan k X
  · cases hy : isNan k Y
    · simp [cmpB, order_rk hx hy, Int.compare_eq_eq]
    · simp [cmpB, order_nan_right hy]
  · simp [cmpB, order_nan_left hx]
/- The comparisons of two that are no NaN, as booleans. -/
section
variable {k : FloatKind} {X Y : Nat} (hx : isNan k X = false) (hy : isNan k Y = false)
include hx hy
theorem gtr_rk : cmpB .gtr k X Y = decide (rk k Y < rk k X) := by rw [Bool.eq_iff_iff, gtr_iff]; simp [hx, hy]
theorem eql_rk : cmpB .eql k X Y = decide (rk k X = rk k Y) := by rw [Bool.eq_iff_iff, eql_iff]; simp [hx, hy]
end
theorem fop_nanL {op : BinOp} {k : FloatKind} {X Y : Nat} (h : isNan k X = true) : isNan k (fop op k X Y) = true := by
  unfold fop; rw [floatBits_nan_left h]; exact isNan_nanOf k
end Go.Proofs.Ytejpamlaacffaaa
