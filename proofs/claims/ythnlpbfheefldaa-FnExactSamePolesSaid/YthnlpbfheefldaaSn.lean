/-
  Floats are the same where they are equal and of one sign. Conditions: none.
-/
import Derived.Test.YthnlpbfheefldaaOr
namespace Go.Proofs.Ythnlpbfheefldaa
open Go Go.RowKit

/-- The worth of a rung b * q + t. -/
def rvq (b q t : Nat) : Nat := if q = 0 then t else (b + t) * 2 ^ (q - 1)
theorem rvq_hi {b q t : Nat} (ht : t < b) : rvq b q t < b * 2 ^ q := by
  unfold rvq
  split
  · rename_i h; subst h; simpa using ht
  · obtain ⟨p, rfl⟩ : ∃ p, q = p + 1 := ⟨q - 1, by omega⟩
    rw [Nat.add_sub_cancel, Nat.pow_succ, ← Nat.mul_assoc, Nat.mul_right_comm, Nat.mul_two]
    exact Nat.mul_lt_mul_of_pos_right (by omega) (Nat.pow_pos (by omega))
theorem rvq_lo {b q t : Nat} (hq : q ≠ 0) : b * 2 ^ (q - 1) ≤ rvq b q t := by
  rw [rvq, if_neg hq]
  exact Nat.mul_le_mul_right _ (by omega)
theorem rvq_lt {b q1 t1 q2 t2 : Nat} (h1 : t1 < b) (h : q1 < q2) : rvq b q1 t1 < rvq b q2 t2 :=
  Nat.lt_of_lt_of_le (rvq_hi h1) (Nat.le_trans (Nat.mul_le_mul_left _ (Nat.pow_le_pow_right (by omega) (by omega))) (rvq_lo (by omega)))
theorem rvq_inj {b q1 t1 q2 t2 : Nat} (h1 : t1 < b) (h2 : t2 < b) (e : rvq b q1 t1 = rvq b q2 t2) : q1 = q2 ∧ t1 = t2 := by
  rcases Nat.lt_trichotomy q1 q2 with h | h | h
  · have := rvq_lt (t2 := t2) h1 h; omega
  · subst h
    refine ⟨rfl, ?_⟩
    unfold rvq at e
    split at e
    · exact e
    · have := Nat.eq_of_mul_eq_mul_right (Nat.pow_pos (n := q1 - 1) (by omega : 0 < 2)) e
      omega
  · have := rvq_lt (t2 := t1) h2 h; omega
def negW (f : Ieee.Format) (X : Nat) : Bool := X / f.signWeight % 2 == 1
def sgnI (s : Bool) (n : Nat) : Int := if s then -(n : Int) else n
theorem read_parts (f : Ieee.Format) (X : Nat) (he : 0 < f.exponentBits) (hn : (f.read X).isNaN = false) : (X % f.signWeight < f.infRung ∧ rkD f (f.read X) = sgnI (negW f X) (rvq f.binade (X % f.signWeight / f.binade) (X % f.signWeight % f.binade)) ∧ ∃ m i, f.read X = .number (negW f X) m i) ∨ (X % f.signWeight = f.infRung ∧ f.read X = .infinity (negW f X)) := by
  have hb : 0 < f.binade := Nat.pow_pos (by omega)
  unfold Ieee.Format.read at hn ⊢
  simp only at hn ⊢
  split
  · rename_i hr
    by_cases hr2 : X % f.signWeight < f.infRung
    · refine .inl ⟨hr2, ?_, _, _, rfl⟩
      show Ieee.signed _ _ _ = _
      rw [Nat.div_eq_of_lt hr, Nat.mod_eq_of_lt hr]
      unfold Ieee.signed sgnI rvq negW
      simp
    · exfalso
      have : f.infRung = (2 ^ f.exponentBits - 1) * f.binade := rfl
      rcases Nat.eq_zero_or_pos (2 ^ f.exponentBits - 1) with h0 | h0
      · have : 2 ^ 1 ≤ 2 ^ f.exponentBits := Nat.pow_le_pow_right (by omega) he
        omega
      · have := Nat.mul_le_mul_right f.binade h0
        omega
  · rename_i hr
    split
    · rename_i hr2
      refine .inl ⟨hr2, ?_, _, _, rfl⟩
      show Ieee.signed _ _ _ = _
      have hq : X % f.signWeight / f.binade ≠ 0 := by
        intro h
        have := (Nat.div_eq_zero_iff).1 h
        omega
      have e : (f.leastPlace + ((X % f.signWeight / f.binade - 1 : Nat) : Int) - f.leastPlace).toNat = X % f.signWeight / f.binade - 1 := by omega
      rw [e, rvq, if_neg hq]
      unfold Ieee.signed sgnI negW
      simp only [Nat.shiftLeft_eq]
    · split
      · rename_i h
        exact .inr ⟨h, rfl⟩
      · rename_i h2 h3
        rw [if_neg hr, if_neg h2, if_neg h3] at hn
        cases hn
theorem sgnI_inj {s : Bool} {m n : Nat} (h : sgnI s m = sgnI s n) : m = n := by
  unfold sgnI at h
  cases s
  · have h' : (m : Int) = n := by simpa using h
    omega
  · simp at h; omega
theorem inf_far (s : Bool) {f : Ieee.Format} {z : Int} (h1 : -(farF f) < z) (h2 : z < farF f) : rkD f (.infinity s) ≠ z := by
  unfold rkD
  cases s
  · simp; omega
  · simp; omega
theorem same_num {X Y : Nat} (hX : X < 4294967296) (hY : Y < 4294967296) (nx : isNan .f32 X = false) (ny : isNan .f32 Y = false) (hs : negW FloatKind.f32.format X = negW FloatKind.f32.format Y) (hr : rk .f32 X = rk .f32 Y) : X = Y := by
  have hW : FloatKind.f32.format.signWeight = 2147483648 := by decide
  have hb : 0 < FloatKind.f32.format.binade := by decide
  have key : X % FloatKind.f32.format.signWeight = Y % FloatKind.f32.format.signWeight := by
    rcases read_parts FloatKind.f32.format X (by decide) nx with ⟨_, h1, m, i, e1⟩ | ⟨h1, e1⟩ <;> rcases read_parts FloatKind.f32.format Y (by decide) ny with ⟨_, h2, m', i', e2⟩ | ⟨h2, e2⟩
    · have e : sgnI (negW FloatKind.f32.format X) _ = sgnI (negW FloatKind.f32.format Y) _ := (h1.symm.trans hr).trans h2
      rw [hs] at e
      obtain ⟨k1, k2⟩ := rvq_inj (Nat.mod_lt _ hb) (Nat.mod_lt _ hb) (sgnI_inj e)
      rw [← Nat.div_add_mod (X % FloatKind.f32.format.signWeight) FloatKind.f32.format.binade, ← Nat.div_add_mod (Y % FloatKind.f32.format.signWeight) FloatKind.f32.format.binade, k1, k2]
    · have hb1 := rk_bound _ X e1
      have hr' : rkD _ (FloatKind.f32.format.read X) = rkD _ (FloatKind.f32.format.read Y) := hr
      rw [e1, e2] at hr'
      exact absurd hr'.symm (inf_far _ hb1.1 hb1.2)
    · have hb1 := rk_bound _ Y e2
      have hr' : rkD _ (FloatKind.f32.format.read X) = rkD _ (FloatKind.f32.format.read Y) := hr
      rw [e1, e2] at hr'
      exact absurd hr' (inf_far _ hb1.1 hb1.2)
    · rw [h1, h2]
  unfold negW at hs
  rw [hW] at key hs
  have h3 : X / 2147483648 < 2 := by omega
  have h4 : Y / 2147483648 < 2 := by omega
  have h5 : (X / 2147483648) % 2 = X / 2147483648 := Nat.mod_eq_of_lt h3
  have h6 : (Y / 2147483648) % 2 = Y / 2147483648 := Nat.mod_eq_of_lt h4
  rw [h5, h6] at hs
  have h7 : X / 2147483648 = Y / 2147483648 := by
    rcases (by omega : X / 2147483648 = 0 ∨ X / 2147483648 = 1) with a | a <;> rcases (by omega : Y / 2147483648 = 0 ∨ Y / 2147483648 = 1) with b | b <;> rw [a, b] at hs ⊢ <;> simp at hs
  omega
theorem nearest_form (f : Ieee.Format) (s : Bool) (m : Nat) (i : Int) : ∃ r, r ≤ f.infRung ∧ f.nearest s m i = f.word s r := by
  unfold Ieee.Format.nearest
  split
  · exact ⟨0, Nat.zero_le _, rfl⟩
  · exact ⟨_, Nat.min_le_right _ _, rfl⟩
theorem cvt_form {X : Nat} (nx : isNan .f32 X = false) : ∃ r, r ≤ FloatKind.f64.format.infRung ∧ fcvt .f32 .f64 X = FloatKind.f64.format.word (negW FloatKind.f32.format X) r := by
  have hf := fits_widen X nx
  obtain ⟨v, hv⟩ := Option.isSome_iff_exists.1 hf
  have e : fcvt .f32 .f64 X = v := by unfold fcvt; rw [hv]; rfl
  rw [e]
  unfold floatToFloatBits at hv
  rw [if_neg (by decide)] at hv
  rcases read_parts FloatKind.f32.format X (by decide) nx with ⟨_, _, m, i, e1⟩ | ⟨_, e1⟩
  · have e2 : FloatKind.f32.decode X = _ := e1
    rw [e2] at hv
    simp only at hv
    split at hv
    · cases hv
    · injection hv with hv
      obtain ⟨r, h1, h2⟩ := nearest_form FloatKind.f64.format (negW FloatKind.f32.format X) m i
      exact ⟨r, h1, hv.symm.trans h2⟩
  · have e2 : FloatKind.f32.decode X = _ := e1
    rw [e2] at hv
    simp only at hv
    injection hv with hv
    exact ⟨_, Nat.le_refl _, hv.symm⟩
theorem cvt_num {X : Nat} (nx : isNan .f32 X = false) : isNan .f64 (fcvt .f32 .f64 X) = false := by
  have hf := fits_widen X nx
  obtain ⟨v, hv⟩ := Option.isSome_iff_exists.1 hf
  have e : fcvt .f32 .f64 X = v := by unfold fcvt; rw [hv]; rfl
  rw [e]
  unfold floatToFloatBits at hv
  rw [if_neg (by decide)] at hv
  rcases read_parts FloatKind.f32.format X (by decide) nx with ⟨_, _, m, i, e1⟩ | ⟨_, e1⟩
  · have e2 : FloatKind.f32.decode X = _ := e1
    rw [e2] at hv
    simp only at hv
    split at hv
    · cases hv
    · injection hv with hv
      rw [← hv]
      exact encode_num .f64 rfl
  · have e2 : FloatKind.f32.decode X = _ := e1
    rw [e2] at hv
    simp only at hv
    injection hv with hv
    rw [← hv]
    exact encode_num .f64 rfl
/-- The sign of a 64-bit float, as its bits' integer tells it. -/
def sgn64 (n : Nat) : Bool := decide (IntKind.wrap .i64 (n : Int) < 0)
theorem sgn64_fcvt {X : Nat} (nx : isNan .f32 X = false) : sgn64 (fcvt .f32 .f64 X) = negW FloatKind.f32.format X := by
  obtain ⟨r, h1, h2⟩ := cvt_form nx
  have hi : FloatKind.f64.format.infRung = 9218868437227405312 := by decide
  have hw : FloatKind.f64.format.signWeight = 9223372036854775808 := by decide
  rw [h2]
  unfold sgn64 Ieee.Format.word
  rw [hw]
  rw [hi] at h1
  cases negW FloatKind.f32.format X
  · simp only [Bool.false_eq_true, if_false]
    rw [IntWalk.i64_in _ (by omega)]
    exact decide_eq_false (by omega)
  · simp only [if_true]
    exact decide_eq_true (by rw [IntKind.wrap_i64]; omega)
theorem same_law {X Y : Nat} (hX : X < 4294967296) (hY : Y < 4294967296) (nx : isNan .f32 X = false) (ny : isNan .f32 Y = false) : (cmpB .eql .f32 X Y && (sgn64 (fcvt .f32 .f64 X) == sgn64 (fcvt .f32 .f64 Y))) = decide (X = Y) := by
  rw [sgn64_fcvt nx, sgn64_fcvt ny, eql_rk nx ny]
  by_cases h : X = Y
  · subst h; simp
  · rw [decide_eq_false h]
    cases hs : (negW FloatKind.f32.format X == negW FloatKind.f32.format Y)
    · simp
    · rw [Bool.and_true]
      refine decide_eq_false fun hr => h (same_num hX hY nx ny (by simpa using hs) hr)
end Go.Proofs.Ythnlpbfheefldaa
