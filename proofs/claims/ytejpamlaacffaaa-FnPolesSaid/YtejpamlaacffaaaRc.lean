/-
  Square roots of finite numbers; a swift evaluation of what finite numbers are worth. Conditions: none.
-/
import Derived.Test.YtejpamlaacffaaaRb
namespace Go.Proofs.Ytejpamlaacffaaa
open Go Go.RowKit

theorem rootFrom_is (n : Nat) : ∀ todo root, root * root ≤ n → n < (root + 2 ^ todo) * (root + 2 ^ todo) → Ieee.Datum.rootFrom n todo root * Ieee.Datum.rootFrom n todo root ≤ n ∧ n < (Ieee.Datum.rootFrom n todo root + 1) * (Ieee.Datum.rootFrom n todo root + 1)
  | 0, root, h1, h2 => by
    unfold Ieee.Datum.rootFrom
    exact ⟨h1, h2⟩
  | todo + 1, root, h1, h2 => by
    unfold Ieee.Datum.rootFrom
    simp only [Nat.shiftLeft_eq, Nat.one_mul]
    have e : 2 ^ (todo + 1) = 2 ^ todo + 2 ^ todo := by rw [Nat.pow_succ]; omega
    rw [e, ← Nat.add_assoc] at h2
    split
    · rename_i h
      exact rootFrom_is n todo _ h h2
    · rename_i h
      exact rootFrom_is n todo _ h1 (by omega)
theorem pow_two2 (d : Nat) : 2 ^ d * 2 ^ d = 2 ^ (2 * d) := by rw [← Nat.pow_add]; congr 1; omega
theorem sq_lt {a b : Nat} (h : a * a < b * b) : a < b := by
  rcases Nat.lt_or_ge a b with h1 | h1
  · exact h1
  · have := Nat.mul_le_mul h1 h1
    omega
theorem sq_le {a b : Nat} (h : a * a ≤ b * b) : a ≤ b := by
  rcases Nat.lt_or_ge b a with h1 | h1
  · have := Nat.mul_lt_mul'' h1 h1
    omega
  · exact h1
def upS (N w d : Nat) : Nat := (decide ((2 * w + 1) * (2 * w + 1) * 2 ^ (2 * d) < 4 * N) || (decide ((2 * w + 1) * (2 * w + 1) * 2 ^ (2 * d) = 4 * N) && decide (w % 2 = 1))).toNat
/-- The core: a root with a digit for what is left over. -/
theorem cutQ_root {n w0 w U : Nat} (h1 : w0 * w0 ≤ n) (h2 : n < (w0 + 1) * (w0 + 1)) (h3 : w * w * 2 ^ (2 * (U + 1)) ≤ n) (h4 : n < (w + 1) * (w + 1) * 2 ^ (2 * (U + 1))) : cutQ (2 * w0 + (w0 * w0 != n).toNat) (2 ^ (U + 2)) = w + upS n w (U + 1) := by
  generalize hs : (w0 * w0 != n).toNat = s
  have hs1 : s = 0 ∧ w0 * w0 = n ∨ s = 1 ∧ w0 * w0 < n := by
    rw [← hs]
    by_cases h : w0 * w0 = n
    · left
      refine ⟨?_, h⟩
      rw [h]; simp
    · right
      refine ⟨?_, by omega⟩
      have : (w0 * w0 != n) = true := by rw [bne_iff_ne]; exact h
      rw [this]; rfl
  have eU : 2 ^ (2 * (U + 1)) = (2 * 2 ^ U) * (2 * 2 ^ U) := by rw [← pow_two2, Nat.pow_succ, Nat.mul_comm (2 ^ U) 2]
  have eW : 2 ^ (U + 2) = 2 * (2 * 2 ^ U) := by rw [Nat.pow_succ, Nat.pow_succ]; omega
  unfold upS
  rw [eU] at h3 h4 ⊢
  rw [eW]
  have hW : 0 < 2 ^ U := Nat.pow_pos (by omega)
  generalize 2 ^ U = W at *
  have a1 : w * (2 * W) ≤ w0 := by
    have : w * (2 * W) < w0 + 1 := sq_lt (by rw [Nat.mul_mul_mul_comm]; omega)
    omega
  have a2 : w0 < (w + 1) * (2 * W) := sq_lt (by rw [Nat.mul_mul_mul_comm]; omega)
  rw [Nat.add_mul, Nat.one_mul] at a2
  have d1 : (2 * w0 + s) / (2 * (2 * W)) = w := by
    rw [Nat.div_eq_iff (by omega)]
    have : w * (2 * (2 * W)) = 2 * (w * (2 * W)) := Nat.mul_left_comm _ _ _
    omega
  have m1 : (2 * w0 + s) % (2 * (2 * W)) = 2 * (w0 - w * (2 * W)) + s := by
    have h := Nat.div_add_mod (2 * w0 + s) (2 * (2 * W))
    have : 2 * (2 * W) * w = 2 * (w * (2 * W)) := by rw [Nat.mul_assoc, Nat.mul_comm (2 * W)]
    rw [d1, this] at h
    omega
  unfold cutQ
  rw [d1, m1]
  -- the middle
  have eh : (2 * w + 1) * (2 * w + 1) * (2 * W * (2 * W)) = 4 * ((w * (2 * W) + W) * (w * (2 * W) + W)) := by
    have : (2 * w + 1) * (2 * W) = 2 * (w * (2 * W) + W) := by
      rw [Nat.add_mul, Nat.one_mul, Nat.mul_add, Nat.mul_assoc 2 w]
    rw [Nat.mul_mul_mul_comm, this, Nat.mul_mul_mul_comm]
  rw [eh]
  generalize hh : w * (2 * W) + W = h at *
  have b1 : h * h < n ↔ (h < w0 ∨ (h = w0 ∧ w0 * w0 < n)) := by
    constructor
    · intro q
      have : h < w0 + 1 := sq_lt (by omega)
      by_cases e : h = w0
      · subst e; exact .inr ⟨rfl, q⟩
      · left; omega
    · rintro (q | ⟨rfl, q⟩)
      · have := Nat.mul_lt_mul'' q q
        omega
      · exact q
  have b2 : h * h = n ↔ (h = w0 ∧ w0 * w0 = n) := by
    constructor
    · intro q
      have q1 : h < w0 + 1 := sq_lt (by omega)
      have q2 : w0 ≤ h := sq_le (by omega)
      obtain rfl : h = w0 := by omega
      exact ⟨rfl, q⟩
    · rintro ⟨rfl, q⟩
      exact q
  have c1 : (2 * (2 * W) < 2 * (2 * (w0 - w * (2 * W)) + s)) ↔ 4 * (h * h) < 4 * n := by
    rw [show (4 * (h * h) < 4 * n) ↔ h * h < n by omega, b1]
    omega
  have c2 : (2 * (2 * W) = 2 * (2 * (w0 - w * (2 * W)) + s)) ↔ 4 * (h * h) = 4 * n := by
    rw [show (4 * (h * h) = 4 * n) ↔ h * h = n by omega, b2]
    omega
  rw [decide_eq_decide.2 c1, decide_eq_decide.2 c2]
theorem upS_scale {n w d g : Nat} (hg : g ≤ d) : upS (n * 2 ^ (2 * g)) w d = upS n w (d - g) := by
  have e : 2 ^ (2 * d) = 2 ^ (2 * (d - g)) * 2 ^ (2 * g) := by rw [← Nat.pow_add]; congr 1; omega
  have hp : 0 < 2 ^ (2 * g) := Nat.pow_pos (by omega)
  unfold upS
  rw [e, ← Nat.mul_assoc, ← Nat.mul_assoc]
  have e1 : decide ((2 * w + 1) * (2 * w + 1) * 2 ^ (2 * (d - g)) * 2 ^ (2 * g) < 4 * n * 2 ^ (2 * g)) = decide ((2 * w + 1) * (2 * w + 1) * 2 ^ (2 * (d - g)) < 4 * n) := by
    rw [decide_eq_decide]
    exact Nat.mul_lt_mul_right hp
  have e2 : decide ((2 * w + 1) * (2 * w + 1) * 2 ^ (2 * (d - g)) * 2 ^ (2 * g) = 4 * n * 2 ^ (2 * g)) = decide ((2 * w + 1) * (2 * w + 1) * 2 ^ (2 * (d - g)) = 4 * n) := by
    rw [decide_eq_decide]
    exact Nat.mul_left_inj (by omega)
  rw [e1, e2]
theorem V.sqrt {X a w d : Nat} (hx : V .f64 X (sgnI false a)) (ha : 0 < a) (h1 : w * w * 2 ^ (2 * d) ≤ a * 2 ^ pF .f64) (h2 : a * 2 ^ pF .f64 < (w + 1) * (w + 1) * 2 ^ (2 * d)) (h3 : 2 ^ 52 ≤ w) (h4 : w < 2 ^ 53) (hc : (w + upS (a * 2 ^ pF .f64) w d) * 2 ^ d < capF FloatKind.f64.format) : V .f64 (fsqrt X) (sgnI false ((w + upS (a * 2 ^ pF .f64) w d) * 2 ^ d)) := by
  have hQ : pF .f64 = 1074 := by decide
  generalize pF .f64 = Q at *
  obtain ⟨s, m, i, e1, hi, ea⟩ := hx.out
  have hrf := read_form FloatKind.f64.format X e1
  have hm53 : m < 2 ^ 53 := hrf.2.1
  have l64 : FloatKind.f64.format.leastPlace = -1074 := by decide
  rw [l64] at hi ea
  have eA : a = m * 2 ^ (i - -1074).toNat := by
    have := congrArg Int.natAbs ea
    rwa [sgnI_abs, sgnI_abs] at this
  have hs : false = s := by
    rw [← eA] at ea
    exact sgnI_sign ea (by omega)
  subst hs
  have hm : m ≠ 0 := fun h => by rw [h, Nat.zero_mul] at eA; omega
  unfold fsqrt Ieee.Format.sqrt
  rw [e1]
  unfold Ieee.Datum.root
  simp only [hm, Bool.false_eq_true, if_false, Option.map_some, Option.getD_some]
  rw [show FloatKind.f64.format.fractionBits + 2 = 54 from rfl]
  generalize hmo : 2 * 54 - m.log2 + ((i - ((2 * 54 - m.log2 : Nat) : Int)) % 2).toNat = more
  have hlm : m.log2 < 53 := by rw [Nat.log2_lt hm]; exact hm53
  have hmore : 108 - m.log2 ≤ more ∧ more ≤ 109 - m.log2 := by omega
  have hpar : (i - (more : Int)) % 2 = 0 := by omega
  rw [Nat.shiftLeft_eq]
  generalize hn : m * 2 ^ more = n
  have hn1 : 2 ^ 108 ≤ n := by
    rw [← hn]
    refine Nat.le_trans ?_ (Nat.mul_le_mul_right _ (Nat.log2_self_le hm))
    rw [← Nat.pow_add]
    exact Nat.pow_le_pow_right (by omega) (by omega)
  have hn0 : n ≠ 0 := by omega
  have hr := rootFrom_is n (n.log2 / 2 + 1) 0 (Nat.zero_le _) (by
    have h := @Nat.lt_log2_self n
    rw [Nat.zero_add, pow_two2]
    exact Nat.lt_of_lt_of_le h (Nat.pow_le_pow_right (by omega) (by omega)))
  generalize Ieee.Datum.rootFrom n (n.log2 / 2 + 1) 0 = w0 at *
  obtain ⟨hr1, hr2⟩ := hr
  -- a * 2 ^ pF .f64 = n * 4 ^ g
  obtain ⟨g, hg⟩ : ∃ g : Nat, i + 2 * (Q : Int) - (more : Int) = 2 * (g : Int) := ⟨((i + 2 * (Q : Int) - (more : Int)) / 2).toNat, by omega⟩
  have hg1 : 1 ≤ g := by omega
  have hN : a * 2 ^ Q = n * 2 ^ (2 * g) := by
    rw [eA, ← hn, Nat.mul_assoc, Nat.mul_assoc, ← Nat.pow_add, ← Nat.pow_add]
    congr 2
    omega
  rw [hN] at h1 h2 hc ⊢
  have hdg : g + 2 ≤ d := by
    have b1 : 2 ^ (108 + 2 * g) < 2 ^ (2 * 53 + 2 * d) := by
      rw [Nat.pow_add, Nat.pow_add 2 (2 * 53), ← pow_two2 53]
      refine Nat.lt_of_le_of_lt (Nat.mul_le_mul_right _ hn1) (Nat.lt_of_lt_of_le h2 (Nat.mul_le_mul_right _ (Nat.mul_le_mul h4 h4)))
    have := (Nat.pow_lt_pow_iff_right (by omega : 1 < 2)).1 b1
    omega
  obtain ⟨U, rfl⟩ : ∃ U, d = g + (U + 1) := ⟨d - g - 1, by omega⟩
  have hp : 0 < 2 ^ (2 * g) := Nat.pow_pos (by omega)
  have e3 : 2 ^ (2 * (g + (U + 1))) = 2 ^ (2 * (U + 1)) * 2 ^ (2 * g) := by rw [← Nat.pow_add]; congr 1; omega
  rw [e3, ← Nat.mul_assoc] at h1 h2
  have h1' := Nat.le_of_mul_le_mul_right h1 hp
  have h2' := Nat.lt_of_mul_lt_mul_right h2
  have core := cutQ_root hr1 hr2 h1' h2'
  rw [upS_scale (by omega), show g + (U + 1) - g = U + 1 by omega] at hc ⊢
  refine V.of_nearest ?_ hc
  rw [l64]
  have e4 : ((i - (more : Int)) / 2 - 1 - -1074).toNat = g - 1 := by omega
  have e5 : (-1074 - ((i - (more : Int)) / 2 - 1)).toNat = 0 := by omega
  rw [e4, e5, Nat.pow_zero]
  show rndQ 52 _ 1 = _
  unfold rndQ
  rw [Nat.div_one, Nat.one_mul]
  have hs1 : (w0 * w0 != n).toNat ≤ 1 := by cases (w0 * w0 != n) <;> decide
  have hw0 : w * 2 ^ (U + 1) ≤ w0 := by
    have : w * 2 ^ (U + 1) < w0 + 1 := sq_lt (by rw [Nat.mul_mul_mul_comm, pow_two2]; omega)
    omega
  have hw1 : w0 < (w + 1) * 2 ^ (U + 1) := sq_lt (by rw [Nat.mul_mul_mul_comm, pow_two2]; omega)
  have hlow : 2 ^ (52 + (U + 1)) ≤ w0 := by
    rw [Nat.pow_add]
    exact Nat.le_trans (Nat.mul_le_mul_right _ h3) hw0
  have hhigh : w0 < 2 ^ (53 + (U + 1)) := by
    rw [Nat.pow_add]
    exact Nat.lt_of_lt_of_le hw1 (Nat.mul_le_mul_right _ h4)
  have hw00 : 0 < w0 := Nat.lt_of_lt_of_le (Nat.pow_pos (by omega)) hlow
  have hlw : w0.log2 = 52 + (U + 1) := log2_is hlow (by rw [show 52 + (U + 1) + 1 = 53 + (U + 1) by omega]; exact hhigh)
  rw [log2_mul _ _ (by omega), log2_twice hw00 hs1, hlw, show 52 + (U + 1) + 1 + (g - 1) - 52 = U + 2 + (g - 1) by omega, Nat.pow_add 2 (U + 2), cutQ_scale, core, ← Nat.pow_add, show U + 2 + (g - 1) = g + (U + 1) by omega]
end Go.Proofs.Ytejpamlaacffaaa
