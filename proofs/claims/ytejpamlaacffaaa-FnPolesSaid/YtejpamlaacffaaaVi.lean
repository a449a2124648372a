/-
  The energy of two poles; fields of poles that are moved. Conditions: none.
-/
import Derived.Test.YtejpamlaacffaaaBF
namespace Go.Proofs.Ytejpamlaacffaaa
open Go Go.RowKit

/-- A number of the f64 kind that is less than 2^-11. -/
def lowK (dm dx : Nat) : Bool := bc (Nat.ble dm 9007199254740992) (Nat.ble dx 1010) false
def eqE (n : Nat) : Bool :=
  intN false (Nat.mul 16 n) fun _ m x => rootK false m x fun rs r y => bc rs false (alln 129 fun k => intK ((k : Int) - 64) fun s c z =>
  quo32 s c z false r y fun qs qm qx => add32 false 0 0 qs qm qx fun es em ex => mul64 es (Nat.shiftLeft em 29) (Nat.add ex 896) false (Nat.shiftLeft r 29) (Nat.add y 896) fun ps pm px =>
  bc (add64 ps pm px (!s) (Nat.shiftLeft c 29) (Nat.add z 896) fun _ dm dx => lowK dm dx) (add64 s (Nat.shiftLeft c 29) (Nat.add z 896) (!ps) pm px fun _ dm dx => lowK dm dx) false)
def tX : Nat := 1012
theorem V_thr : V .f64 4562254508917369340 (sgnI false (4611686018427388 * 2 ^ tX)) := by
  refine ⟨false, 4611686018427388, -62, by decide +kernel, by decide, ?_⟩
  have : (-62 - FloatKind.f64.format.leastPlace).toNat = tX := by decide
  rw [this]
theorem lowK_spec {X dm dx : Nat} {s : Bool} (hx : V .f64 X (sgnI s (dm * 2 ^ dx))) (h : lowK dm dx = true) : cmpB .lss .f64 X 4562254508917369340 = true := by
  obtain ⟨h1, h2⟩ := and_bc h
  have h1 : dm ≤ 9007199254740992 := Nat.le_of_ble_eq_true h1
  have h2 := Nat.le_of_ble_eq_true h2
  have h3 : dm * 2 ^ dx < 4611686018427388 * 2 ^ tX := by
    obtain ⟨Q, hQ⟩ : ∃ Q : Nat, Q = 1010 := ⟨_, rfl⟩
    rw [← hQ] at h2
    have ht : tX = 2 + Q := by rw [hQ]; rfl
    rw [ht, Nat.pow_add]
    have := Nat.mul_le_mul h1 (Nat.pow_le_pow_right (n := 2) (by omega) h2)
    have hp := Nat.pow_pos (n := Q) (show 0 < 2 by omega)
    generalize dm * 2 ^ dx = A at *
    generalize 2 ^ Q = B at *
    omega
  rw [lss_rk hx.num V_thr.num, hx.rk, V_thr.rk, decide_eq_true_eq]
  generalize dm * 2 ^ dx = A at *
  generalize 4611686018427388 * 2 ^ tX = B at *
  unfold sgnI
  cases s
  · simp only [Bool.false_eq_true, if_false]
    omega
  · simp only [Bool.false_eq_true, if_false, if_true]
    omega
/-- The product of two strengths, wide. -/
theorem prod64 {X Y s m x : Nat} {a b c : Int} {t : Bool} (hx : VU X a) (hy : VU Y b) (he : a * b = 16 * c) (hc : c.natAbs < 2 ^ 24) {Z : Nat} (hZ : VU Z c) (hv : V .f32 Z (sgnI t (m * 2 ^ x))) : V .f64 (fop .mul .f64 (fcvt .f32 .f64 X) (fcvt .f32 .f64 Y)) (sgnI t (Nat.shiftLeft m 29 * 2 ^ (Nat.add x 896))) := by
  have h0 := (upK_spec hv).rk
  rw [← h0]
  obtain ⟨Q, hQ⟩ : ∃ Q : Nat, Q = 925 := ⟨_, rfl⟩
  obtain ⟨E, hE⟩ : ∃ E : Nat, E = 145 := ⟨_, rfl⟩
  have up : ∀ {A : Nat} {d : Int}, VU A d → V .f64 (fcvt .f32 .f64 A) (d * ((2 ^ (E + Q) : Nat) : Int)) := fun {A d} h => by
    unfold VU at h
    rw [← hE, sgnI_mulU] at h
    have := h.cvt_up
    rw [← hQ, Int.mul_assoc, ← Int.natCast_mul, ← Nat.pow_add] at this
    exact this
  rw [(up hZ).rk]
  have hP : pF .f64 = 4 + (E + Q) := by rw [hQ, hE]; decide
  have hr : ∀ w : Nat, w < 2 ^ 24 → rndQ 52 (w * 16 * 2 ^ (E + Q) * 2 ^ (E + Q)) (2 ^ pF .f64) = w * 2 ^ (E + Q) := fun w hw => by
    have e1 : w * 16 * 2 ^ (E + Q) * 2 ^ (E + Q) = w * 2 ^ (4 + (E + Q) + (E + Q)) := by
      rw [Nat.pow_add 2 (4 + (E + Q)), Nat.pow_add 2 4]
      simp only [Nat.mul_assoc]
    have e2 : 2 ^ pF .f64 = 1 * 2 ^ (4 + (E + Q)) := by rw [hP, Nat.one_mul]
    rw [e1, e2]
    have := rndQ_scale2 (fb := 52) (m := w) (n := 1) (p1 := 4 + (E + Q) + (E + Q)) (q1 := 4 + (E + Q)) (p2 := E + Q) (q2 := 0) (by omega)
    rw [this, Nat.pow_zero, Nat.mul_one]
    exact rndQ_exact (by omega)
  have e := (up hx).mul (up hy)
  have e3 : a * ((2 ^ (E + Q) : Nat) : Int) * (b * ((2 ^ (E + Q) : Nat) : Int)) = c * ((16 * 2 ^ (E + Q) * 2 ^ (E + Q) : Nat) : Int) := by
    generalize 2 ^ (E + Q) = U
    rw [Int.mul_assoc, Int.mul_left_comm (U : Int) b, ← Int.mul_assoc a b, he, Int.natCast_mul, Int.natCast_mul, Int.mul_comm 16 c]
    simp only [Int.mul_assoc]
    rfl
  have e4 : (a * ((2 ^ (E + Q) : Nat) : Int) * (b * ((2 ^ (E + Q) : Nat) : Int))).natAbs = c.natAbs * 16 * 2 ^ (E + Q) * 2 ^ (E + Q) := by
    rw [e3, Int.natAbs_mul, Int.natAbs_natCast]
    simp only [Nat.mul_assoc]
  have hlt : c.natAbs * 2 ^ (E + Q) < capF FloatKind.f64.format := by
    refine capL64 (E := 24 + (E + Q)) (by omega) ?_
    rw [Nat.pow_add 2 24]
    exact Nat.mul_le_mul_right _ (Nat.le_of_lt hc)
  have := e (by
    rw [e4]
    show rndQ 52 _ _ < _
    rw [hr _ hc]
    exact hlt)
  have e5 : rndZ FloatKind.f64.format.fractionBits (a * ((2 ^ (E + Q) : Nat) : Int) * (b * ((2 ^ (E + Q) : Nat) : Int))) (2 ^ pF .f64) = c * ((2 ^ (E + Q) : Nat) : Int) := by
    show rndZ 52 _ _ = _
    rw [e3, ← sgnI_mulU, rndZ_sgn, ← sgnI_mulU]
    congr 1
    rw [← Nat.mul_assoc, ← Nat.mul_assoc]
    exact hr _ hc
  rw [e5] at this
  exact this
/-- What the energy says. -/
theorem en_core {n I J S T : Nat} {s t : Int} (hE : eqE n = true) (hI : V .f32 I (sgnI false (16 * n * 2 ^ 145))) (hJ : V .f32 J (sgnI false (16 * n * 2 ^ 145))) (hR : ∃ R, RootIs (16 * n * 2 ^ 145) R) (hS : VU S (4 * s)) (hT : VU T (4 * t)) (hs : s.natAbs ≤ 8) (ht : t.natAbs ≤ 8) :
    cmpB .lss .f64 (gapV (fop .mul .f64 (fcvt .f32 .f64 (fop .add .f32 0 (fop .quo .f32 (fop .mul .f32 S T) (rootF I)))) (fcvt .f32 .f64 (rootF J))) (fop .mul .f64 (fcvt .f32 .f64 S) (fcvt .f32 .f64 T))) 4562254508917369340 = true := by
  have hst := Nat.mul_le_mul hs ht
  rw [← Int.natAbs_mul] at hst
  have he : 4 * s * (4 * t) = 16 * (s * t) := by grind
  have hM : VU (fop .mul .f32 S T) (s * t) := hS.mul hT he (by omega)
  unfold eqE at hE
  obtain ⟨m, x, e, h⟩ := intN_spec hE
  have e : 16 * n * 2 ^ 145 = m * 2 ^ x := e
  rw [e] at hI hJ
  obtain ⟨rs, r, y, v1, h⟩ := rootK_spec hI h
  cases rs
  case true => cases h
  rw [bc_false] at h
  have v2 : V .f32 (rootF J) (sgnI false (r * 2 ^ y)) := by
    obtain ⟨R, hR⟩ := hR
    rw [e] at hR
    have := hR _ hI
    rw [v1.uniq this]
    exact hR _ hJ
  have h := alln_spec _ h (s * t + 64).toNat (by omega)
  rw [show (((s * t + 64).toNat : Nat) : Int) - 64 = s * t by omega] at h
  obtain ⟨cs, c, z, v3, h⟩ := intK_spec hM h
  have v4 := prod64 (s := 0) hS hT he (by omega) hM v3
  obtain ⟨_, _, _, v5, h⟩ := quo32_spec v3 v1 h
  obtain ⟨_, _, _, v6, h⟩ := add32_spec (show V .f32 0 (sgnI false (0 * 2 ^ 0)) by rw [Nat.zero_mul]; exact zero_V) v5 h
  obtain ⟨_, _, _, v7, h⟩ := mul64_spec (upK_spec v6) (upK_spec v2) h
  obtain ⟨h1, h2⟩ := and_bc h
  obtain ⟨_, _, _, v8, h1⟩ := sub64_spec v7 v4 h1
  obtain ⟨_, _, _, v9, h2⟩ := sub64_spec v4 v7 h2
  unfold gapV
  split
  · exact lowK_spec v9 h2
  · exact lowK_spec v8 h1
/-- Differences of what is moved. -/
def mvC : Bool := alln 9 fun i => alln 7 fun j => alln 9 fun k => Nat.beq (fop .sub .f32 (fop .add .f32 (floatOfInt .f32 ((i : Int) - 4)) (floatOfInt .f32 ((j : Int) - 3))) (fop .add .f32 (floatOfInt .f32 ((k : Int) - 4)) (floatOfInt .f32 ((j : Int) - 3)))) (fop .sub .f32 (floatOfInt .f32 ((i : Int) - 4)) (floatOfInt .f32 ((k : Int) - 4)))
theorem mv_eq (hm : mvC = true) {a d p : Int} (h1 : 0 ≤ a ∧ a < 9) (h2 : 0 ≤ d ∧ d < 7) (h3 : 0 ≤ p ∧ p < 9) : fop .sub .f32 (fop .add .f32 (floatOfInt .f32 (a - 4)) (floatOfInt .f32 (d - 3))) (fop .add .f32 (floatOfInt .f32 (p - 4)) (floatOfInt .f32 (d - 3))) = fop .sub .f32 (floatOfInt .f32 (a - 4)) (floatOfInt .f32 (p - 4)) := by
  obtain ⟨i, rfl⟩ : ∃ i : Nat, a = (i : Int) := ⟨a.toNat, by omega⟩
  obtain ⟨j, rfl⟩ : ∃ i : Nat, d = (i : Int) := ⟨d.toNat, by omega⟩
  obtain ⟨k, rfl⟩ : ∃ i : Nat, p = (i : Int) := ⟨p.toNat, by omega⟩
  exact Nat.eq_of_beq_eq_true (alln_spec _ (alln_spec _ (alln_spec _ hm i (by omega)) j (by omega)) k (by omega))
theorem mv_V (hm : mvC = true) (i : IB (2 * 4 + 1) × IB (2 * 4 + 1) × IB (2 * 4 + 1)) (j : IB (2 * 3 + 1) × IB (2 * 3 + 1) × IB (2 * 3 + 1)) (q : PL) : lessV (addV (drawV 4 i) (drawV 3 j)) (addV (poleD q).at_ (drawV 3 j)) = lessV (drawV 4 i) (poleD q).at_ := by
  obtain ⟨⟨i1, h1⟩, ⟨i2, h2⟩, ⟨i3, h3⟩⟩ := i
  obtain ⟨⟨j1, k1⟩, ⟨j2, k2⟩, ⟨j3, k3⟩⟩ := j
  obtain ⟨⟨x, y, z, s⟩, q1, q2, q3, q4⟩ := q
  have e1 := mv_eq hm (a := i1) (d := j1) (p := x) (by omega) (by omega) q1
  have e2 := mv_eq hm (a := i2) (d := j2) (p := y) (by omega) (by omega) q2
  have e3 := mv_eq hm (a := i3) (d := j3) (p := z) (by omega) (by omega) q3
  show (⟨_, _, _⟩ : V3) = ⟨_, _, _⟩
  congr 1
theorem mv_fields (hm : mvC = true) (i : IB (2 * 4 + 1) × IB (2 * 4 + 1) × IB (2 * 4 + 1)) (j : IB (2 * 3 + 1) × IB (2 * 3 + 1) × IB (2 * 3 + 1)) (G : Nat → PL) : ∀ n, fieldsV (moveP (pX G) (drawV 3 j)) (addV (drawV 4 i) (drawV 3 j)) n = fieldsV (pX G) (drawV 4 i) n
  | 0 => rfl
  | n + 1 => by
    show addV (fieldsV (moveP (pX G) (drawV 3 j)) (addV (drawV 4 i) (drawV 3 j)) n) (poleFieldV (addV (poleD (G n)).at_ (drawV 3 j)) (poleD (G n)).s (addV (drawV 4 i) (drawV 3 j))) = addV (fieldsV (pX G) (drawV 4 i) n) (poleFieldV (poleD (G n)).at_ (poleD (G n)).s (drawV 4 i))
    rw [mv_fields hm i j G n]
    congr 1
    unfold poleFieldV
    rw [mv_V hm i j (G n)]
theorem sameV_refl (A : V3) : sameV A A = true := by
  unfold sameV sameB
  simp
theorem energy_two (X : Nat → P4) : energyOf X 2 = energyStep (X 0) (X 1) 0 := by
  unfold energyOf
  rw [if_pos (by decide)]
  have e0 : ∀ i S, energyIn X i S 0 = S := fun _ _ => by unfold energyIn; rfl
  have e1 : ∀ i S, energyIn X i S 1 = energyStep (X i) (X (i + 1 + 0)) S := fun i S => by
    show energyIn X i S (0 + 1) = _
    rw [energyIn, e0]
  have f0 : energyV X 2 0 = 0 := by unfold energyV; rfl
  have f1 : energyV X 2 1 = energyIn X 0 (energyV X 2 0) 1 := by
    exact energyV.eq_2 X 2 0
  have f2 : energyV X 2 2 = energyIn X 1 (energyV X 2 1) 0 := by
    exact energyV.eq_2 X 2 1
  rw [f2, e0, f1, f0, e1]
end Go.Proofs.Ytejpamlaacffaaa
