/-
  What the law of the compass asks of numbers. Conditions: none.
-/
import Derived.Test.YtejpamlaacffaaaBF
import Derived.Test.YtejpamlaacffaaaQr3
import Derived.Test.YtejpamlaacffaaaQr4
import Derived.Test.YtejpamlaacffaaaQr5
import Derived.Test.YtejpamlaacffaaaQr6
import Derived.Test.YtejpamlaacffaaaQr7
import Derived.Test.YtejpamlaacffaaaQr8
import Derived.Test.YtejpamlaacffaaaQr9
import Derived.Test.YtejpamlaacffaaaQr10
namespace Go.Proofs.Ytejpamlaacffaaa
open Go Go.RowKit

theorem cmpK_all {n a : Nat} (h3 : 3 ≤ n) (hn : n ≤ 10) (ha : a < 8) : cmpK n a = true := by
  match n, h3, hn with
  | 3, _, _ => exact cmpK_3 ha
  | 4, _, _ => exact cmpK_4 ha
  | 5, _, _ => exact cmpK_5 ha
  | 6, _, _ => exact cmpK_6 ha
  | 7, _, _ => exact cmpK_7 ha
  | 8, _, _ => exact cmpK_8 ha
  | 9, _, _ => exact cmpK_9 ha
  | 10, _, _ => exact cmpK_10 ha
theorem VU_R {a : Nat} (ha : a < 8) : VU (cR a) ((Nat.mul 8 (Nat.succ a) : Nat) : Int) := by
  match a, ha with
  | 0, _ => exact VU.const (by decide +kernel)
  | 1, _ => exact VU.const (by decide +kernel)
  | 2, _ => exact VU.const (by decide +kernel)
  | 3, _ => exact VU.const (by decide +kernel)
  | 4, _ => exact VU.const (by decide +kernel)
  | 5, _ => exact VU.const (by decide +kernel)
  | 6, _ => exact VU.const (by decide +kernel)
  | 7, _ => exact VU.const (by decide +kernel)
theorem cir_all {C : V3} {n a i j : Nat} (h3 : 3 ≤ n) (hn : n ≤ 10) (ha : a < 8) (hi : i < 9) (hj : j < 9) (hx : VU C.x (16 * ((i : Int) - 4))) (hy : VU C.y (16 * ((j : Int) - 4))) (hC : C.z = 0) :
    ∃ x y a' b c p q s t r, CmpN C (cR a) n x y a' b c p q s t r := by
  have h := cmpK_all h3 hn ha
  unfold cmpK at h
  obtain ⟨rm, rx, er, h⟩ := intN_spec h
  have vr : V .f32 (cR a) (sgnI false (rm * 2 ^ rx)) := er ▸ (VU_R ha).nat rfl
  obtain ⟨LX, hX, h⟩ := memo_spec (fk := .f32) (g := fun k => fop .mul .f32 (cR a) (sinV (fop .add .f32 (cqF n k) 1048576000))) (fun k hk K hK => by
    obtain ⟨_, _, _, _, _, _, v1, v2, hK⟩ := tab_spec h3 hn hk hK
    exact mul32_spec vr v1 hK) h
  obtain ⟨LY, hY, h⟩ := memo_spec (fk := .f32) (g := fun k => fop .mul .f32 (cR a) (sinV (cqF n k))) (fun k hk K hK => by
    obtain ⟨_, _, _, _, _, _, v1, v2, hK⟩ := tab_spec h3 hn hk hK
    exact mul32_spec vr v2 hK) h
  obtain ⟨P, xs, xm, xe, U, sa, ma, ea, h1, h⟩ := axP_spec hn hX hx (alln_spec _ h i hi)
  obtain ⟨Q, ys, ym, ye, W, sc, mc, ec, h2, h⟩ := axP_spec hn hY hy (alln_spec _ h j hj)
  have g1 : AxIs n (fun k => (cpP C (cR a) n k).x) P xs xm xe U sa ma ea := h1
  have g2 : AxIs n (fun k => (cpP C (cR a) n k).y) Q ys ym ye W sc mc ec := h2
  obtain ⟨x, y, a', b, c, p, q, s, t, r, hc⟩ := mainK_spec hn g1 g2 hC vr hx hy h
  exact ⟨x, y, a', b, c, p, q, s, t, r, ⟨hc.fin, fun k hk => sin_all h3 hn hk, hc.fit, hc.cen, hc.rad, hc.cor⟩⟩
theorem k_Compass {n m : Nat} {B C : Nat → Int} (hn : n ≤ maxLen ∧ ∀ k, 0 ≤ B k ∧ B k ≤ 255) (hm : m ≤ maxLen ∧ ∀ k, 0 ≤ C k ∧ C k ≤ 255) : Con Try.prog 5 [rs 1 n (byteC B), rs 1 m (byteC C)] (RetA (vv (.bool true))) :=
  k_CompassE (fun d a k ha h3 hk => by
    obtain ⟨⟨i, hi⟩, ⟨j, hj⟩, e⟩ := d
    obtain ⟨u, rfl⟩ : ∃ u : Nat, i = (u : Int) := ⟨i.toNat, by omega⟩
    obtain ⟨v, rfl⟩ : ∃ v : Nat, j = (v : Int) := ⟨j.toNat, by omega⟩
    have q1 : VU (floatOfInt .f32 ((u : Int) - 4)) (16 * ((u : Int) - 4)) := VU.ofInt (by omega)
    have q2 : VU (floatOfInt .f32 ((v : Int) - 4)) (16 * ((v : Int) - 4)) := VU.ofInt (by omega)
    exact cir_all (i := u) (j := v) h3 hk ha (by omega) (by omega) q1 q2 rfl) hn hm
end Go.Proofs.Ytejpamlaacffaaa
