/-
  Facts about the relays and fields that are drawn. Conditions: none.
-/
import Derived.Test.YtebjdijlaaipdaaIa
import Derived.Test.YtebjdijlaaipdaaIc
namespace Go.Proofs.Ytebjdijlaaipdaa
open Go Go.RowKit
set_option maxRecDepth 100000

def irA (p u : Nat) : Bool := finB (fop .add .f32 (rlD (p : Int)) (rlH (u : Int))) && finB (rlD (p : Int)) && cmpB .lss .f32 (rlD (p : Int)) (fop .add .f32 (rlD (p : Int)) (rlH (u : Int)))
set_option maxHeartbeats 40000000 in
theorem irA_all : ∀ p, p < 9 → ∀ u, u < 6 → irA p u = true := by decide +kernel
set_option maxHeartbeats 40000000 in
theorem irW_all : ∀ w, w < 4 → finB (rlW ((w : Nat) : Int)) = true := by decide +kernel
theorem relV_ok (q : RL) : badR (relV q) = false ∧ RelI (relV q) := by
  obtain ⟨⟨p, u, w⟩, ⟨hp0, hp⟩, ⟨hu0, hu⟩, hw0, hw⟩ := q
  simp only at hp0 hp hu0 hu hw0 hw
  obtain ⟨p, rfl⟩ : ∃ a : Nat, p = (a : Int) := ⟨p.toNat, by omega⟩
  obtain ⟨u, rfl⟩ : ∃ a : Nat, u = (a : Int) := ⟨u.toNat, by omega⟩
  obtain ⟨w, rfl⟩ : ∃ a : Nat, w = (a : Int) := ⟨w.toNat, by omega⟩
  have h1 := irA_all p (by omega) u (by omega)
  have h2 := irW_all w (by omega)
  unfold irA at h1
  simp only [Bool.and_eq_true] at h1
  refine ⟨?_, ?_⟩
  · unfold badR relV
    simp only [h1.1.1, h1.1.2, h1.2, h2]
    rfl
  · obtain ⟨a, b, c⟩ := lss_iff.1 h1.2
    exact ⟨b, a, c⟩
theorem relF_ok {G : Nat → RL} {n : Nat} (h1 : 1 ≤ n) (h2 : n ≤ 8) : relOk (fun k => relV (G k)) n = true := by
  unfold relOk
  rw [any_none fun j _ => (relV_ok (G j)).1, decide_eq_true (show (n : Int) ≥ 1 by omega), decide_eq_true (show (n : Int) ≤ 36 by omega)]
  rfl
/-- Sums of weights are quarters. -/
def quX (m : Int) : Nat := fop .quo .f32 (floatOfInt .f32 m) 1082130432
def irQ (m w : Nat) : Bool := Nat.beq (fop .add .f32 (quX ((m : Int) - 28)) (rlW (w : Int))) (quX ((m : Int) - 27 + w)) && Nat.beq (fop .sub .f32 (quX ((m : Int) - 28)) (rlW (w : Int))) (quX ((m : Int) - 29 - w))
set_option maxHeartbeats 40000000 in
theorem irQ_all : ∀ m, m < 57 → ∀ w, w < 4 → irQ m w = true := by decide +kernel
set_option maxHeartbeats 40000000 in
theorem quX_num : ∀ m : Nat, m < 65 → isNan .f32 (quX ((m : Int) - 32)) = false := by decide +kernel
theorem mag_qu {G : Nat → RL} {B : Nat → Bool} : ∀ k : Nat, k ≤ 8 → ∃ m : Int, -(4 * (k : Int)) ≤ m ∧ m ≤ 4 * (k : Int) ∧ magV (fun k => relV (G k)) B k = quX m
  | 0, _ => ⟨0, by omega, by omega, show (0 : Nat) = quX 0 from by decide +kernel⟩
  | k + 1, h => by
    obtain ⟨m, h1, h2, h3⟩ := mag_qu (G := G) (B := B) k (by omega)
    obtain ⟨hw0, hw⟩ := (G k).2.2.2
    have ez : (relV (G k)).z = rlW (G k).1.2.2 := rfl
    generalize (G k).1.2.2 = w at hw0 hw ez
    obtain ⟨w, rfl⟩ : ∃ a : Nat, w = (a : Int) := ⟨w.toNat, by omega⟩
    obtain ⟨i, rfl⟩ : ∃ i : Nat, m = (i : Int) - 28 := ⟨(m + 28).toNat, by omega⟩
    have := irQ_all i (by omega) w (by omega)
    unfold irQ at this
    simp only [Bool.and_eq_true] at this
    unfold magV
    rw [h3, ez]
    split
    · exact ⟨_, by omega, by omega, Nat.eq_of_beq_eq_true this.1⟩
    · exact ⟨_, by omega, by omega, Nat.eq_of_beq_eq_true this.2⟩
theorem mag_num {G : Nat → RL} {B : Nat → Bool} {k : Nat} (h : k ≤ 8) : isNan .f32 (magV (fun k => relV (G k)) B k) = false := by
  obtain ⟨m, h1, h2, h3⟩ := mag_qu (G := G) (B := B) k h
  rw [h3]
  have := quX_num (m + 32).toNat (by omega)
  rwa [show (((m + 32).toNat : Nat) : Int) - 32 = m by omega] at this
/-- The fields of the law: -10, and then what is drawn. -/
def irX (P : Nat → F21) : Nat → Nat
  | 0 => 3240099840
  | k + 1 => halfX (P k).1
def irF (p : Nat) : Bool := finB (halfX p) && cmpB .lss .f32 3240099840 (halfX p)
set_option maxHeartbeats 40000000 in
theorem irF_all : ∀ p, p < 21 → irF p = true := by decide +kernel
def irM (a b : Nat) : Bool := let x := fop .mul .f32 1056964608 (fop .add .f32 a b)
  (cmpB .leq .f32 a x && cmpB .leq .f32 x b) || (cmpB .leq .f32 b x && cmpB .leq .f32 x a)
set_option maxHeartbeats 40000000 in
theorem irM_0 : ∀ q, q < 21 → irM 3240099840 (halfX q) = true := by decide +kernel
set_option maxHeartbeats 40000000 in
theorem irM_all : ∀ p, p < 21 → ∀ q, q < 21 → irM (halfX p) (halfX q) = true := by decide +kernel
theorem irM_btw {a b : Nat} (h : irM a b = true) : Btw a (fop .mul .f32 1056964608 (fop .add .f32 a b)) b := by
  unfold irM at h
  simp only [Bool.or_eq_true, Bool.and_eq_true, leq_iff] at h
  rcases h with ⟨⟨a1, a2, a3⟩, b1, b2, b3⟩ | ⟨⟨a1, a2, a3⟩, b1, b2, b3⟩
  · exact ⟨a2, .inl ⟨a3, b3⟩⟩
  · exact ⟨a2, .inr ⟨a3, b3⟩⟩
theorem irX_fin (P : Nat → F21) : ∀ k, finB (irX P k) = true
  | 0 => show finB 3240099840 = true by decide +kernel
  | k + 1 => by
    have := irF_all (P k).1 (P k).2
    unfold irF at this
    simp only [Bool.and_eq_true] at this
    exact this.1
theorem irX_lt (P : Nat → F21) {n : Nat} : ∀ j, 0 < j → j < n → rk .f32 (irX P 0) < rk .f32 (irX P j)
  | j + 1, _, _ => by
    have := irF_all (P j).1 (P j).2
    unfold irF at this
    simp only [Bool.and_eq_true] at this
    exact (lss_iff.1 this.2).2.2
theorem irX_mid (P : Nat → F21) : ∀ j, Btw (irX P j) (midX (irX P) j) (irX P (j + 1))
  | 0 => irM_btw (irM_0 _ (P 0).2)
  | j + 1 => irM_btw (irM_all _ (P j).2 _ (P (j + 1)).2)
end Go.Proofs.Ytebjdijlaaipdaa
