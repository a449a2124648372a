/-
  The force between two poles along an axis: a program over all distances. Conditions: none.
-/
import Derived.Test.YtejpamlaacffaaaVd
namespace Go.Proofs.Ytejpamlaacffaaa
open Go Go.RowKit

def prX (m x : Nat) (k : Nat → Bool) : Bool := bc (Nat.beq m 0) (k 0) (bc (Nat.ble 100 x) (force (Nat.shiftLeft m (Nat.sub x 100)) k) false)
def prE (fm fx gm gx : Nat) : Bool := prX fm fx fun F => prX gm gx fun G => bc (Nat.ble F (Nat.add G 4294967296)) (bc (Nat.ble G (Nat.add F 4294967296)) (bc (Nat.ble F 2251799813685248) (Nat.ble G 2251799813685248) false) false) false
/-- Two strengths. -/
def prP (am ax ta ya bm bx tb yb : Nat) : Bool := mul32 false ta ya false bm bx fun _ fm fx => mul32 false tb yb false am ax fun _ gm gx => prE fm fx gm gx
abbrev K4 : Type := Nat → Nat → Nat → Nat → Bool
def prN (bm bx tb yb : Nat) (l : K4) : K4 := fun am ax ta ya => bc (prP am ax ta ya bm bx tb yb) (l am ax ta ya) false
def prR (dm dx c w f : Nat) : Nat → K4 → Bool := Nat.rec (motive := fun _ => Nat → K4 → Bool) (fun _ _ => true) (fun _ ih a l => intN false (Nat.mul 4 a) fun _ am ax => quo32 false am ax false c w fun _ qa za => mul32 false dm dx false qa za fun _ ta ya =>
  bc (prN am ax ta ya l am ax ta ya) (force (Nat.succ a) fun a => ih a (prN am ax ta ya l)) false) f
def prC (n : Nat) : Bool :=
  intN false (Nat.mul 16 n) fun _ m x => bc (Nat.beq m 0) false (rootK false m x fun _ r y => bc (Nat.beq r 0) false (mul32 false r y false r y fun _ u z => mul32 false u z false r y fun _ c w =>
  alln 9 fun d => bc (Nat.ble (Nat.mul d d) n) (intN false (Nat.mul 16 d) fun _ dm dx => prR dm dx c w 9 0 (fun _ _ _ _ => true)) true))
theorem prR_succ (dm dx c w f a : Nat) (l : K4) : prR dm dx c w (f + 1) a l = intN false (Nat.mul 4 a) fun _ am ax => quo32 false am ax false c w fun _ qa za => mul32 false dm dx false qa za fun _ ta ya =>
  bc (prN am ax ta ya l am ax ta ya) (force (Nat.succ a) fun a => prR dm dx c w f a (prN am ax ta ya l)) false := rfl
theorem and_bc {a b : Bool} (h : bc a b false = true) : a = true ∧ b = true := by
  cases a
  · cases h
  · exact ⟨rfl, h⟩
/-- The strength a over the cube C, along D. -/
def Along (D C a A T : Nat) : Prop := ∃ Q, QuoIs A C Q ∧ MulIs D Q T
/-- What two poles do to each other along D. -/
def Both (D C a b : Nat) : Prop := ∃ T S F G, Along D C a (4 * a * 2 ^ 145) T ∧ Along D C b (4 * b * 2 ^ 145) S ∧ MulIs T (4 * b * 2 ^ 145) F ∧ MulIs S (4 * a * 2 ^ 145) G ∧ F ≤ G + 2 ^ 132 ∧ G ≤ F + 2 ^ 132 ∧ F ≤ 2 ^ 151 ∧ G ≤ 2 ^ 151
theorem prX_spec {m x : Nat} {k : Nat → Bool} (h : prX m x k = true) : ∃ F, m * 2 ^ x = F * 2 ^ 100 ∧ k F = true := by
  unfold prX at h
  cases h0 : Nat.beq m 0 <;> rw [h0] at h
  · rw [bc_false] at h
    obtain ⟨h1, h⟩ := ble_or h
    rw [force_eq] at h
    have e1 : Nat.shiftLeft m (Nat.sub x 100) = m * 2 ^ (x - 100) := Nat.shiftLeft_eq _ _
    rw [e1] at h
    exact ⟨_, by rw [Nat.mul_assoc, ← Nat.pow_add, Nat.sub_add_cancel h1], h⟩
  · obtain rfl : m = 0 := Nat.eq_of_beq_eq_true h0
    exact ⟨0, by rw [Nat.zero_mul, Nat.zero_mul], h⟩
theorem prE_spec {fm fx gm gx : Nat} (h : prE fm fx gm gx = true) : fm * 2 ^ fx ≤ gm * 2 ^ gx + 2 ^ 132 ∧ gm * 2 ^ gx ≤ fm * 2 ^ fx + 2 ^ 132 ∧ fm * 2 ^ fx ≤ 2 ^ 151 ∧ gm * 2 ^ gx ≤ 2 ^ 151 := by
  unfold prE at h
  obtain ⟨F, e1, h⟩ := prX_spec h
  obtain ⟨G, e2, h⟩ := prX_spec h
  obtain ⟨h1, h⟩ := and_bc h
  obtain ⟨h2, h⟩ := and_bc h
  obtain ⟨h3, h4⟩ := and_bc h
  have h1 : F ≤ G + 4294967296 := Nat.le_of_ble_eq_true h1
  have h2 : G ≤ F + 4294967296 := Nat.le_of_ble_eq_true h2
  have h3 := Nat.le_of_ble_eq_true h3
  have h4 := Nat.le_of_ble_eq_true h4
  rw [e1, e2]
  omega
theorem quo32_rk {s1 s2 : Bool} {m1 m2 x1 x2 : Nat} {K : KK} (h : quo32 s1 m1 x1 s2 m2 x2 K = true) : ∃ m y, QuoIs (m1 * 2 ^ x1) (m2 * 2 ^ x2) (m * 2 ^ y) ∧ K (Bool.xor s1 s2) m y = true := quoK_rk fit32 h
def InB (dm dx c w b : Nat) (l : K4) : Prop := ∃ bm bx tb yb, (∀ am ax ta ya, l am ax ta ya = true → prP am ax ta ya bm bx tb yb = true) ∧ 4 * b * 2 ^ 145 = bm * 2 ^ bx ∧ Along (dm * 2 ^ dx) (c * 2 ^ w) b (4 * b * 2 ^ 145) (tb * 2 ^ yb)
theorem prR_spec {dm dx c w : Nat} : ∀ f a l, (∀ b, b < a → InB dm dx c w b l) → prR dm dx c w f a l = true → ∀ i, a ≤ i → i < a + f → ∀ j, j ≤ i → Both (dm * 2 ^ dx) (c * 2 ^ w) i j
  | 0, a, l, _, _, i, h1, h2, _, _ => by omega
  | f + 1, a, l, hl, h, i, h1, h2, j, hj => by
    rw [prR_succ] at h
    obtain ⟨am, ax, ea, h⟩ := intN_spec h
    obtain ⟨qa, za, q, h⟩ := quo32_rk h
    obtain ⟨ta, ya, t, h⟩ := mul32_rk h
    obtain ⟨hh, h⟩ := and_bc h
    rw [force_eq] at h
    have ea' : 4 * a * 2 ^ 145 = am * 2 ^ ax := ea
    have hA : Along (dm * 2 ^ dx) (c * 2 ^ w) a (4 * a * 2 ^ 145) (ta * 2 ^ ya) := ⟨_, ea' ▸ q, t⟩
    have hn : ∀ b, b < a + 1 → InB dm dx c w b (prN am ax ta ya l) := fun b hb => by
      rcases Nat.lt_or_ge b a with g | g
      · obtain ⟨bm, bx, tb, yb, k1, k2⟩ := hl b g
        exact ⟨bm, bx, tb, yb, fun _ _ _ _ q => k1 _ _ _ _ (and_bc q).2, k2⟩
      · obtain rfl : b = a := by omega
        exact ⟨am, ax, ta, ya, fun _ _ _ _ q => (and_bc q).1, ea', hA⟩
    rcases Nat.lt_or_ge a i with g | g
    · exact prR_spec f (a + 1) _ hn h i g (by omega) j hj
    · obtain rfl : i = a := by omega
      obtain ⟨bm, bx, tb, yb, k1, k2, k3⟩ := hn j (by omega)
      have hp := k1 _ _ _ _ hh
      unfold prP at hp
      obtain ⟨fm, fx, hf, hp⟩ := mul32_rk hp
      obtain ⟨gm, gx, hg, hp⟩ := mul32_rk hp
      rw [← k2] at hf
      rw [← ea'] at hg
      exact ⟨_, _, _, _, hA, k3, hf, hg, prE_spec hp⟩
theorem prC_spec {n : Nat} (h : prC n = true) : ∃ R U C, RootIs (16 * n * 2 ^ 145) R ∧ 0 < R ∧ MulIs R R U ∧ MulIs U R C ∧ ∀ d, d ≤ 8 → d * d ≤ n → ∀ i, i ≤ 8 → ∀ j, j ≤ i → Both (16 * d * 2 ^ 145) C i j := by
  unfold prC at h
  obtain ⟨m, x, e, h⟩ := intN_spec h
  have e : 16 * n * 2 ^ 145 = m * 2 ^ x := e
  cases h0 : Nat.beq m 0 <;> rw [h0] at h
  case true => cases h
  rw [bc_false] at h
  obtain ⟨r, y, v1, h⟩ := root32_rk (fun q => by subst q; cases h0) h
  cases h1 : Nat.beq r 0 <;> rw [h1] at h
  case true => cases h
  rw [bc_false] at h
  obtain ⟨u, z, v2, h⟩ := mul32_rk h
  obtain ⟨c, w, v3, h⟩ := mul32_rk h
  have hr : 0 < r * 2 ^ y := by
    rcases Nat.eq_zero_or_pos r with q | q
    · subst q; cases h1
    · exact Nat.mul_pos q (Nat.pow_pos (by omega))
  refine ⟨_, _, _, e ▸ v1, hr, v2, v3, fun d hd hdn i hi j hj => ?_⟩
  have h := alln_spec _ h d (by omega)
  have : Nat.ble (Nat.mul d d) n = true := Nat.ble_eq_true_of_le hdn
  rw [this, bc_true] at h
  obtain ⟨dm, dx, ed, h⟩ := intN_spec h
  have ed : 16 * d * 2 ^ 145 = dm * 2 ^ dx := ed
  rw [ed]
  exact prR_spec 9 0 _ (fun b hb => by omega) h i (Nat.zero_le _) (by omega) j hj
end Go.Proofs.Ytejpamlaacffaaa
