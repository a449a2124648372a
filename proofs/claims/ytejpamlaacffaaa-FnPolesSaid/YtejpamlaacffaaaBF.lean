/-
  The base texts, joined. Conditions: none.
-/
import Derived.Test.YtejpamlaacffaaaBC
import Derived.Test.YtejpamlaacffaaaBE
import Derived.Test.YtejpamlaacffaaaFo
/-
  The forces of two poles on each other. Conditions: none.
-/
namespace Go.Proofs.Ytejpamlaacffaaa
open Go Go.RowKit

theorem prC_all {n : Nat} (h0 : 0 < n) (h : n ≤ 192) : prC n = true := by
  obtain ⟨i, j, hj, rfl, hi⟩ : ∃ i j, j < 24 ∧ n = j + (24 * i + 1) ∧ i ≤ 7 := ⟨(n - 1) / 24, (n - 1) % 24, by omega, by omega, by omega⟩
  match i, hi with
  | 0, _ => exact alln_spec _ prC_0 j hj
  | 1, _ => exact alln_spec _ prC_1 j hj
  | 2, _ => exact alln_spec _ prC_2 j hj
  | 3, _ => exact alln_spec _ prC_3 j hj
  | 4, _ => exact alln_spec _ prC_4 j hj
  | 5, _ => exact alln_spec _ prC_5 j hj
  | 6, _ => exact alln_spec _ prC_6 j hj
  | 7, _ => exact alln_spec _ prC_7 j hj
theorem Both.sym {D C a b : Nat} : Both D C a b → Both D C b a := fun ⟨T, S, F, G, h1, h2, h3, h4, h5, h6, h7, h8⟩ => ⟨S, T, G, F, h2, h1, h4, h3, h6, h5, h8, h7⟩
theorem VU.fac {X : Nat} {c : Nat} {e : Int} (h : VU X ((c : Int) * e)) (hc : 0 < c) : V .f32 X (sgnI (decide (e < 0)) (c * e.natAbs * 2 ^ 145)) := by
  unfold VU at h
  have h1 : ((c : Int) * e).natAbs = c * e.natAbs := by rw [Int.natAbs_mul, Int.natAbs_natCast]
  have h2 : decide ((c : Int) * e < 0) = decide (e < 0) := by
    refine decide_eq_decide.2 ⟨fun q => ?_, fun q => Int.mul_neg_of_pos_of_neg (by omega) q⟩
    rcases Int.lt_or_le e 0 with r | r
    · exact r
    · have := Int.mul_nonneg (show 0 ≤ (c : Int) by omega) r
      omega
  rw [h1, h2] at h
  exact h
theorem mul_V0 {X Y : Nat} {y : Int} (hx : V .f32 X 0) (hy : V .f32 Y y) : V .f32 (fop .mul .f32 X Y) 0 := by
  have := hx.mul hy (by rw [Int.zero_mul, Int.natAbs_zero, rndQ_zero]; exact cap_pos _)
  rw [Int.zero_mul] at this
  unfold rndZ at this
  rw [Int.natAbs_zero, rndQ_zero, sgnI_zero] at this
  exact this
section
variable {n : Nat} {D E I J S T : Nat} {e s t : Int}
/-- One of three numbers of a force. -/
def fcm (D S I T : Nat) : Nat := fop .mul .f32 (fop .mul .f32 D (fop .quo .f32 S (cubeF (rootF I)))) T
theorem along_V {R U C A F : Nat} (hI : V .f32 I (sgnI false (16 * n * 2 ^ 145))) (hR : RootIs (16 * n * 2 ^ 145) R) (hU : MulIs R R U) (hC : MulIs U R C) (hD : VU D (16 * e)) (hS : VU S (4 * s)) (hT : VU T (4 * t))
    (h1 : Along (16 * e.natAbs * 2 ^ 145) C s.natAbs (4 * s.natAbs * 2 ^ 145) A) (h2 : MulIs A (4 * t.natAbs * 2 ^ 145) F) : V .f32 (fcm D S I T) (sgnI (Bool.xor (Bool.xor (decide (e < 0)) (decide (s < 0))) (decide (t < 0))) F) := by
  obtain ⟨Q, q1, q2⟩ := h1
  have v1 := hR _ hI
  have v2 : V .f32 (cubeF (rootF I)) (sgnI false C) := hC _ _ _ _ (hU _ _ _ _ v1 v1) v1
  have v3 := q1 _ _ _ _ (VU.fac (c := 4) hS (by omega)) v2
  rw [Bool.xor_false] at v3
  exact h2 _ _ _ _ (q2 _ _ _ _ (VU.fac (c := 16) hD (by omega)) v3) (VU.fac (c := 4) hT (by omega))
theorem pair_V (h0 : 0 < n) (hn : n ≤ 192) (hI : V .f32 I (sgnI false (16 * n * 2 ^ 145))) (hJ : V .f32 J (sgnI false (16 * n * 2 ^ 145))) (hD : VU D (16 * e)) (hE : VU E (16 * -e)) (hS : VU S (4 * s)) (hT : VU T (4 * t))
    (he : e.natAbs ≤ 8) (hen : e.natAbs * e.natAbs ≤ n) (hs : s.natAbs ≤ 8) (ht : t.natAbs ≤ 8) : ∃ f g, V .f32 (fcm D S I T) f ∧ V .f32 (fcm E T J S) g ∧ f.natAbs ≤ 2 ^ 151 ∧ g.natAbs ≤ 2 ^ 151 ∧ (f + g).natAbs ≤ 2 ^ 132 := by
  obtain ⟨R, U, C, hR, hr0, hU, hC, hB⟩ := prC_spec (prC_all h0 hn)
  have hb : Both (16 * e.natAbs * 2 ^ 145) C s.natAbs t.natAbs := by
    rcases Nat.le_total t.natAbs s.natAbs with q | q
    · exact hB _ he hen _ hs _ q
    · exact (hB _ he hen _ ht _ q).sym
  obtain ⟨A, B, F, G, a1, a2, a3, a4, a5, a6, a7, a8⟩ := hb
  have hne : (-e).natAbs = e.natAbs := Int.natAbs_neg e
  have v1 := along_V hI hR hU hC hD hS hT a1 a3
  have v2 := along_V (e := -e) hJ hR hU hC hE hT hS (by rw [hne]; exact a2) a4
  refine ⟨_, _, v1, v2, by rw [sgnI_abs]; exact a7, by rw [sgnI_abs]; exact a8, ?_⟩
  by_cases e0 : e = 0
  · subst e0
    have hq := along_V (T := T) hI hR hU hC hD hS hT a1 a3
    obtain ⟨Q, q1, q2⟩ := a1
    obtain ⟨Q', r1, r2⟩ := a2
    have w1 := hR _ hI
    have w2 : V .f32 (cubeF (rootF I)) (sgnI false C) := hC _ _ _ _ (hU _ _ _ _ w1 w1) w1
    have u1 := hR _ hJ
    have u2 : V .f32 (cubeF (rootF J)) (sgnI false C) := hC _ _ _ _ (hU _ _ _ _ u1 u1) u1
    have z : ∀ {X : Nat}, VU X 0 → V .f32 X 0 := fun h => by
      have h := VU.nat (n := 0) h rfl
      rw [Nat.zero_mul, sgnI_zero] at h
      exact h
    have z1 : V .f32 (fcm D S I T) 0 := mul_V0 (mul_V0 (z hD) (q1 _ _ _ _ (VU.fac (c := 4) hS (by omega)) w2)) (VU.fac (c := 4) hT (by omega))
    have z2 : V .f32 (fcm E T J S) 0 := mul_V0 (mul_V0 (z hE) (r1 _ _ _ _ (VU.fac (c := 4) hT (by omega)) u2)) (VU.fac (c := 4) hS (by omega))
    rw [v1.uniq z1, v2.uniq z2]
    simp
  · have : decide (-e < 0) = !decide (e < 0) := by
      by_cases q : e < 0
      · rw [decide_eq_true q, decide_eq_false (by omega)]; rfl
      · rw [decide_eq_false q, decide_eq_true (by omega)]; rfl
    rw [this]
    generalize decide (e < 0) = b1
    generalize decide (s < 0) = b2
    generalize decide (t < 0) = b3
    cases b1 <;> cases b2 <;> cases b3 <;> simp [sgnI] <;> omega
end
/-- A pole whose numbers are small. -/
structure PoleI (P : P4) (x y z s : Int) : Prop where
  at_ : VUV P.at_ (16 * x) (16 * y) (16 * z)
  str : VU P.s (4 * s)
  pos : (-4 ≤ x ∧ x ≤ 4) ∧ (-4 ≤ y ∧ y ≤ 4) ∧ -4 ≤ z ∧ z ≤ 4
  sm : -8 ≤ s ∧ s ≤ 8
theorem strF_VU {s : Int} (h : 0 ≤ s ∧ s < 17) : VU (strF s) (4 * (s - 8)) := by
  obtain ⟨i, rfl⟩ : ∃ i : Nat, s = (i : Int) := ⟨s.toNat, by omega⟩
  have hi : i ≤ 16 := by omega
  match i, hi with
  | 0, _ => exact VU.const (by decide +kernel)
  | 1, _ => exact VU.const (by decide +kernel)
  | 2, _ => exact VU.const (by decide +kernel)
  | 3, _ => exact VU.const (by decide +kernel)
  | 4, _ => exact VU.const (by decide +kernel)
  | 5, _ => exact VU.const (by decide +kernel)
  | 6, _ => exact VU.const (by decide +kernel)
  | 7, _ => exact VU.const (by decide +kernel)
  | 8, _ => exact VU.const (by decide +kernel)
  | 9, _ => exact VU.const (by decide +kernel)
  | 10, _ => exact VU.const (by decide +kernel)
  | 11, _ => exact VU.const (by decide +kernel)
  | 12, _ => exact VU.const (by decide +kernel)
  | 13, _ => exact VU.const (by decide +kernel)
  | 14, _ => exact VU.const (by decide +kernel)
  | 15, _ => exact VU.const (by decide +kernel)
  | 16, _ => exact VU.const (by decide +kernel)
theorem poleD_I (q : PL) : PoleI (poleD q) (q.1.1 - 4) (q.1.2.1 - 4) (q.1.2.2.1 - 4) (q.1.2.2.2 - 8) := by
  obtain ⟨⟨x, y, z, s⟩, h1, h2, h3, h4⟩ := q
  have h1 : 0 ≤ x ∧ x < 9 := h1
  have h2 : 0 ≤ y ∧ y < 9 := h2
  have h3 : 0 ≤ z ∧ z < 9 := h3
  have h4 : 0 ≤ s ∧ s < 17 := h4
  exact ⟨VUV.int _ _ _ (show (x - 4).natAbs < _ ∧ (y - 4).natAbs < _ ∧ (z - 4).natAbs < _ by omega), strF_VU h4, show (-4 ≤ x - 4 ∧ x - 4 ≤ 4) ∧ (-4 ≤ y - 4 ∧ y - 4 ≤ 4) ∧ -4 ≤ z - 4 ∧ z - 4 ≤ 4 by omega, show -8 ≤ s - 8 ∧ s - 8 ≤ 8 by omega⟩
theorem sq8 {a : Int} (ha : a.natAbs ≤ 8) : 0 ≤ a * a ∧ a * a ≤ 64 ∧ a * a = ((a.natAbs * a.natAbs : Nat) : Int) := by
  have h := Int.natAbs_mul_self' a
  have h2 := Nat.mul_le_mul ha ha
  rw [Int.natCast_mul, h]
  have h3 := sq_pos0 a
  refine ⟨h3, ?_, rfl⟩
  have : ((a.natAbs * a.natAbs : Nat) : Int) ≤ 64 := by exact_mod_cast h2
  rw [Int.natCast_mul, h] at this
  exact this
/-- A vector of whole numbers that are small, and the square of its length. -/
theorem inn_nat {L : V3} {a b c : Int} (h : VUV L (16 * a) (16 * b) (16 * c)) (hl : a.natAbs ≤ 8 ∧ b.natAbs ≤ 8 ∧ c.natAbs ≤ 8) : ∃ n : Nat, (n : Int) = a * a + b * b + c * c ∧ n ≤ 192 ∧ a.natAbs * a.natAbs ≤ n ∧ b.natAbs * b.natAbs ≤ n ∧ c.natAbs * c.natAbs ≤ n ∧ V .f32 (innerV L L) (sgnI false (16 * n * 2 ^ 145)) := by
  obtain ⟨a1, a2, a3⟩ := sq8 hl.1
  obtain ⟨b1, b2, b3⟩ := sq8 hl.2.1
  obtain ⟨c1, c2, c3⟩ := sq8 hl.2.2
  obtain ⟨n, hn⟩ : ∃ n : Nat, (n : Int) = a * a + b * b + c * c := ⟨(a * a + b * b + c * c).toNat, by omega⟩
  have v := (((h.x.mul h.x (c := 16 * (a * a)) (by grind) (by omega)).add (h.y.mul h.y (c := 16 * (b * b)) (by grind) (by omega)) (by omega)).add (h.z.mul h.z (c := 16 * (c * c)) (by grind) (by omega)) (by omega))
  exact ⟨n, hn, by omega, by omega, by omega, by omega, VU.nat v (by omega)⟩
/-- What two poles do to each other, along each axis. -/
def Opp (P Q : P4) (pr : V3 → Nat) : Prop := ∃ f g, V .f32 (pr (poleForceV P.at_ P.s Q.at_ Q.s)) f ∧ V .f32 (pr (poleForceV Q.at_ Q.s P.at_ P.s)) g ∧ f.natAbs ≤ 2 ^ 151 ∧ g.natAbs ≤ 2 ^ 151 ∧ (f + g).natAbs ≤ 2 ^ 132
theorem root_posV {n I : Nat} (h0 : 0 < n) (hn : n ≤ 192) (hI : V .f32 I (sgnI false (16 * n * 2 ^ 145))) : cmpB .gtr .f32 (rootF I) 0 = true := by
  obtain ⟨R, U, C, hR, hr0, _⟩ := prC_spec (prC_all h0 hn)
  have v := hR _ hI
  rw [gtr_rk v.num zero_V.num, v.rk, zero_V.rk, decide_eq_true_eq]
  exact sgnI_pos hr0
theorem opp_all {P Q : P4} {x y z s u v w t : Int} (hP : PoleI P x y z s) (hQ : PoleI Q u v w t) : Opp P Q V3.x ∧ Opp P Q V3.y ∧ Opp P Q V3.z := by
  have hp := hP.pos; have hq := hQ.pos; have hs := hP.sm; have ht := hQ.sm
  have d1 : VUV (lessV Q.at_ P.at_) (16 * (u - x)) (16 * (v - y)) (16 * (w - z)) := (hQ.at_.sub hP.at_ (by omega)).cast (by omega)
  have d2 : VUV (lessV P.at_ Q.at_) (16 * -(u - x)) (16 * -(v - y)) (16 * -(w - z)) := (hP.at_.sub hQ.at_ (by omega)).cast (by omega)
  obtain ⟨n, n1, n2, n3, n4, n5, v1⟩ := inn_nat d1 (by omega)
  obtain ⟨m, m1, m2, m3, m4, m5, v2⟩ := inn_nat d2 (by omega)
  have hmn : m = n := by
    have : (m : Int) = (n : Int) := by rw [m1, n1]; grind
    omega
  subst hmn
  by_cases h0 : m = 0
  · subst h0
    have z1 : ∀ {A B : V3}, V .f32 (innerV (lessV B A) (lessV B A)) (sgnI false (16 * 0 * 2 ^ 145)) → ∀ S, poleFieldV A S B = zeroV := fun {A B} h S => by
      have h : V .f32 (innerV (lessV B A) (lessV B A)) (sgnI false 0) := h.cong (by omega)
      have r : V .f32 (longV (lessV B A)) 0 := root_zero h
      have : cmpB .gtr .f32 (longV (lessV B A)) 0 = false := by
        rw [gtr_rk r.num zero_V.num, r.rk, zero_V.rk]
        rfl
      unfold poleFieldV
      rw [if_neg (by rw [this]; simp)]
    have e1 := z1 v1 P.s
    have e2 := z1 v2 Q.s
    have k1 : ∀ {X : Nat} {a : Int}, VU X (4 * a) → V .f32 (fop .mul .f32 0 X) 0 := fun h => mul_V0 zero_V (VU.fac (c := 4) h (by omega))
    unfold Opp poleForceV
    rw [e1, e2]
    have c1 := k1 hP.str
    have c2 := k1 hQ.str
    exact ⟨⟨0, 0, c2, c1, by decide, by decide, by decide⟩, ⟨0, 0, c2, c1, by decide, by decide, by decide⟩, ⟨0, 0, c2, c1, by decide, by decide, by decide⟩⟩
  · have h0 : 0 < m := by omega
    have g1 : cmpB .gtr .f32 (longV (lessV Q.at_ P.at_)) 0 = true := root_posV h0 n2 v1
    have g2 : cmpB .gtr .f32 (longV (lessV P.at_ Q.at_)) 0 = true := root_posV h0 n2 v2
    unfold Opp poleForceV poleFieldV
    rw [if_pos g1, if_pos g2]
    exact ⟨pair_V h0 n2 v1 v2 d1.x d2.x hP.str hQ.str (by omega) n3 (by omega) (by omega), pair_V h0 n2 v1 v2 d1.y d2.y hP.str hQ.str (by omega) n4 (by omega) (by omega), pair_V h0 n2 v1 v2 d1.z d2.z hP.str hQ.str (by omega) n5 (by omega) (by omega)⟩
end Go.Proofs.Ytejpamlaacffaaa

/-
  The sum of all forces between poles. Conditions: none.
-/
namespace Go.Proofs.Ytejpamlaacffaaa
open Go Go.RowKit

/-- Sums of whole numbers: the force on pole i, and all forces. -/
def wS (w : Nat → Nat → Int) (i : Nat) : Nat → Int
  | 0 => 0
  | k + 1 => if k ≠ i then wS w i k + w k i else wS w i k
def wT (w : Nat → Nat → Int) (N : Nat) : Nat → Int
  | 0 => 0
  | m + 1 => wT w N m + wS w m N
section
variable {w : Nat → Nat → Int}
theorem wS_bd (hb : ∀ k i, (w k i).natAbs ≤ 2 ^ 151) (i : Nat) : ∀ k, (wS w i k).natAbs ≤ k * 2 ^ 151
  | 0 => by simp [wS]
  | k + 1 => by
    have h1 := wS_bd hb i k
    have h2 := hb k i
    unfold wS
    split
    · rename_i h
      clear h
      omega
    · exact Nat.le_trans h1 (Nat.mul_le_mul_right _ (Nat.le_succ k))
theorem wT_bd (hb : ∀ k i, (w k i).natAbs ≤ 2 ^ 151) {N : Nat} (hN : N ≤ 4) : ∀ m, (wT w N m).natAbs ≤ m * 2 ^ 153
  | 0 => by simp [wT]
  | m + 1 => by
    have := wT_bd hb hN m
    have := wS_bd hb m N
    unfold wT
    omega
theorem wT_opp (hp : ∀ k i, (w k i + w i k).natAbs ≤ 2 ^ 132) {N : Nat} (hN : N ≤ 4) : (wT w N N).natAbs ≤ 6 * 2 ^ 132 := by
  have a1 := hp 0 1; have a2 := hp 0 2; have a3 := hp 0 3; have a4 := hp 1 2; have a5 := hp 1 3; have a6 := hp 2 3
  match N, hN with
  | 0, _ => simp [wT]
  | 1, _ => simp [wT, wS]
  | 2, _ => simp [wT, wS]; omega
  | 3, _ => simp [wT, wS]; omega
  | 4, _ => simp [wT, wS]; omega
variable {X : Nat → P4} (pr : V3 → Nat) (ha : ∀ A B, pr (addV A B) = fop .add .f32 (pr A) (pr B)) (hz : pr zeroV = 0)
include ha hz
theorem acc_V (hw : ∀ k i, V .f32 (pr (poleForceV (X k).at_ (X k).s (X i).at_ (X i).s)) (w k i)) (hb : ∀ k i, (w k i).natAbs ≤ 2 ^ 151) (i : Nat) : ∀ k, k ≤ 4 → ∃ c, V .f32 (pr (forceAcc X i k)) c ∧ (c - wS w i k).natAbs ≤ k * 2 ^ 130
  | 0, _ => ⟨0, by
    show V .f32 (pr zeroV) 0
    rw [hz]
    exact zero_V, by simp [wS]⟩
  | k + 1, hk => by
    obtain ⟨c, hc, he⟩ := acc_V hw hb i k (by omega)
    have h1 := wS_bd hb i k
    have h2 := hb k i
    unfold forceAcc wS
    split
    · rw [ha]
      obtain ⟨d, hd, hde⟩ := hc.add_err (hw k i) (E := 130) (by omega) (by omega)
      exact ⟨d, hd, by omega⟩
    · exact ⟨c, hc, Nat.le_trans he (Nat.mul_le_mul_right _ (Nat.le_succ k))⟩
theorem tot_V (hw : ∀ k i, V .f32 (pr (poleForceV (X k).at_ (X k).s (X i).at_ (X i).s)) (w k i)) (hb : ∀ k i, (w k i).natAbs ≤ 2 ^ 151) {N : Nat} (hN : N ≤ 4) : ∀ m, m ≤ 4 → ∃ c, V .f32 (pr (totV X N m)) c ∧ (c - wT w N m).natAbs ≤ m * (2 ^ 132 + 2 ^ 132)
  | 0, _ => ⟨0, by
    show V .f32 (pr zeroV) 0
    rw [hz]
    exact zero_V, by simp [wT]⟩
  | m + 1, hm => by
    obtain ⟨c, hc, he⟩ := tot_V hw hb hN m (by omega)
    obtain ⟨d, hd, hde⟩ := acc_V pr ha hz hw hb m N hN
    have h1 := wT_bd hb hN m
    have h2 := wS_bd hb m N
    unfold totV wT
    rw [ha]
    obtain ⟨r, hr, hre⟩ := hc.add_err (show V .f32 (pr (forcesV X N m)) d from hd) (E := 132) (by omega) (by omega)
    exact ⟨r, hr, by omega⟩
theorem tot_bd (ho : ∀ k i, Opp (X k) (X i) pr) {N : Nat} (hN : N ≤ 4) : ∃ c, V .f32 (pr (totV X N N)) c ∧ c.natAbs ≤ 2 ^ 136 := by
  have hw : ∀ k i, V .f32 (pr (poleForceV (X k).at_ (X k).s (X i).at_ (X i).s)) (rk .f32 (pr (poleForceV (X k).at_ (X k).s (X i).at_ (X i).s))) := fun k i => by
    obtain ⟨f, g, v, _⟩ := ho k i
    rw [v.rk]
    exact v
  have hb : ∀ k i, (rk .f32 (pr (poleForceV (X k).at_ (X k).s (X i).at_ (X i).s))).natAbs ≤ 2 ^ 151 := fun k i => by
    obtain ⟨f, g, v, _, h, _⟩ := ho k i
    rw [v.rk]
    exact h
  have hp : ∀ k i, (rk .f32 (pr (poleForceV (X k).at_ (X k).s (X i).at_ (X i).s)) + rk .f32 (pr (poleForceV (X i).at_ (X i).s (X k).at_ (X k).s))).natAbs ≤ 2 ^ 132 := fun k i => by
    obtain ⟨f, g, v, u, _, _, h⟩ := ho k i
    rw [v.rk, u.rk]
    exact h
  obtain ⟨c, hc, he⟩ := tot_V (w := fun k i => rk .f32 (pr (poleForceV (X k).at_ (X k).s (X i).at_ (X i).s))) pr ha hz hw hb hN N hN
  have := wT_opp hp hN
  exact ⟨c, hc, by omega⟩
end
theorem two_bd {P Q : P4} {pr : V3 → Nat} (ha : ∀ A B, pr (addV A B) = fop .add .f32 (pr A) (pr B)) (ho : Opp P Q pr) : ∃ c, V .f32 (pr (addV (poleForceV P.at_ P.s Q.at_ Q.s) (poleForceV Q.at_ Q.s P.at_ P.s))) c ∧ c.natAbs ≤ 2 ^ 136 := by
  obtain ⟨f, g, v, u, h1, h2, h3⟩ := ho
  rw [ha]
  obtain ⟨c, hc, he⟩ := v.add_err u (E := 132) (by omega) (by omega)
  exact ⟨c, hc, by omega⟩
theorem opp_pX (G : Nat → PL) (k i : Nat) : Opp (pX G k) (pX G i) V3.x ∧ Opp (pX G k) (pX G i) V3.y ∧ Opp (pX G k) (pX G i) V3.z := opp_all (poleD_I (G k)) (poleD_I (G i))
theorem V_c01 : V .f32 1008981770 (sgnI false (10737418 * 2 ^ 119)) := ⟨false, 10737418, -30, by decide +kernel, by decide, rfl⟩
theorem tot_ok (G : Nat → PL) {N : Nat} (hN : N ≤ 4) : cmpB .gtr .f32 (longV (totV (pX G) N N)) 1008981770 = false := by
  obtain ⟨a, ha, h1⟩ := tot_bd V3.x (fun _ _ => rfl) rfl (fun k i => (opp_pX G k i).1) hN
  obtain ⟨b, hb, h2⟩ := tot_bd V3.y (fun _ _ => rfl) rfl (fun k i => (opp_pX G k i).2.1) hN
  obtain ⟨c, hc, h3⟩ := tot_bd V3.z (fun _ _ => rfl) rfl (fun k i => (opp_pX G k i).2.2) hN
  exact long_bd ha hb hc ⟨h1, h2, h3⟩ V_c01 (by decide +kernel)
theorem two_ok (G : Nat → PL) : cmpB .gtr .f32 (longV (addV (poleForceV (pX G 0).at_ (pX G 0).s (pX G 1).at_ (pX G 1).s) (poleForceV (pX G 1).at_ (pX G 1).s (pX G 0).at_ (pX G 0).s))) 981668463 = false := by
  obtain ⟨a, ha, h1⟩ := two_bd (pr := V3.x) (fun _ _ => rfl) (opp_pX G 0 1).1
  obtain ⟨b, hb, h2⟩ := two_bd (pr := V3.y) (fun _ _ => rfl) (opp_pX G 0 1).2.1
  obtain ⟨c, hc, h3⟩ := two_bd (pr := V3.z) (fun _ _ => rfl) (opp_pX G 0 1).2.2
  exact long_bd ha hb hc ⟨h1, h2, h3⟩ V_c1 (by decide +kernel)
end Go.Proofs.Ytejpamlaacffaaa
