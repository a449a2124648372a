/-
  Whether some element of a slice is bad: contracts of the library's search, over floats and over relays; relays on both sides. Conditions: none.
-/
import Derived.Test.YtokhbfbanofchaaRl
namespace Go.Proofs.Ytokhbfbanofchaa
open Go Go.RowKit

section
variable {P : Program} {w0 : World} {s : AS} {Q : Exit → Act → World → Prop} {c : Code}
/-- A loop that counts from 0 up to n, with a fact that holds at each round's head. -/
def AgI (w0 : World) (st : Nat → AS) (I : Nat → Prop) (n k : Nat) (a : Act) (w : World) : Prop := k + 1 ≤ n ∧ I (k + 1) ∧ Sat w0 (st (k + 1)) a w
theorem awp_loopI (st : Nat → AS) (I : Nat → Prop) (n : Nat) (hI : I 0) (h0 : Imp s (st 0)) (round : ∀ k, k ≤ n → I k → AWp P w0 (st k) c (Exit.then (AgI w0 st I n k) Q)) : AWp P w0 s (.loop c) Q :=
  awp_loop st (fun k => k ≤ n ∧ I k) (fun k => n - k) 0 ⟨Nat.zero_le _, hI⟩ h0 fun k hk => ⟨fun a w hs => Code.wp_mono (fun e a w q => by
    cases e
    case normal => exact ⟨k + 1, ⟨q.1, q.2.1⟩, by have := q.1; show n - (k + 1) < n - k; omega, q.2.2⟩
    all_goals exact q) ((round k hk.1 hk.2).out a w hs)⟩
theorem aex_agI {st : Nat → AS} {I : Nat → Prop} {n k : Nat} (hk : k + 1 ≤ n) (hI : I (k + 1)) (h : Imp s (st (k + 1))) : AEx w0 s .normal (Exit.then (AgI w0 st I n k) Q) := ⟨fun a w hs => ⟨hk, hI, h w0 a w hs⟩⟩
end

/-- The first place of a bad one, -1 if there is none. -/
def idxB (p : Nat → Bool) : Nat → Int
  | 0 => -1
  | k + 1 => if idxB p k ≥ 0 then idxB p k else if p k = true then (k : Int) else -1
def anyB (p : Nat → Bool) (n : Nat) : Bool := decide (idxB p n ≥ 0)
theorem idx_none {p : Nat → Bool} : ∀ {k : Nat}, (∀ j, j < k → p j = false) → idxB p k = -1
  | 0, _ => rfl
  | k + 1, h => by
    unfold idxB
    rw [idx_none fun j hj => h j (by omega), if_neg (by omega), if_neg (by rw [h k (by omega)]; simp)]
theorem idx_hit {p : Nat → Bool} {k : Nat} (h : ∀ j, j < k → p j = false) (hk : p k = true) : ∀ m, idxB p (k + 1 + m) = (k : Int)
  | 0 => by
    rw [Nat.add_zero]
    unfold idxB
    rw [idx_none h, if_neg (by omega), if_pos hk]
  | m + 1 => by
    rw [show k + 1 + (m + 1) = (k + 1 + m) + 1 by omega]
    unfold idxB
    rw [idx_hit h hk m, if_pos (by omega)]
theorem idx_at {p : Nat → Bool} {k n : Nat} (h : ∀ j, j < k → p j = false) (hk : p k = true) (hn : k < n) : idxB p n = (k : Int) := by
  have := idx_hit h hk (n - (k + 1))
  rwa [show k + 1 + (n - (k + 1)) = n by omega] at this
theorem any_none {p : Nat → Bool} {n : Nat} (h : ∀ j, j < n → p j = false) : anyB p n = false := by
  unfold anyB; rw [idx_none h]; rfl
theorem any_at {p : Nat → Bool} {k n : Nat} (h : ∀ j, j < k → p j = false) (hk : p k = true) (hn : k < n) : anyB p n = true := by
  unfold anyB; rw [idx_at h hk hn]; exact decide_eq_true (by omega)
theorem any_false {p : Nat → Bool} : ∀ {n : Nat}, anyB p n = false → ∀ j, j < n → p j = false
  | 0, _, j, hj => absurd hj (by omega)
  | n + 1, h, j, hj => by
    unfold anyB at h
    have h1 : ¬ idxB p (n + 1) ≥ 0 := of_decide_eq_false h
    unfold idxB at h1
    split at h1
    · exact absurd ‹_› h1
    · rename_i h2
      split at h1
      · omega
      · rename_i h3
        rcases Nat.lt_or_eq_of_le (Nat.le_of_lt_succ hj) with h4 | h4
        · exact any_false (n := n) (decide_eq_false h2) j h4
        · subst h4; simpa using h3

def badR (A : V3) : Bool := !finB A.x || !finB A.y || !finB A.z || !cmpB .lss .f32 A.y A.x
def relOk (F : Nat → V3) (n : Nat) : Bool := !anyB (fun k => badR (F k)) n && (decide ((n : Int) ≥ 1) && decide ((n : Int) ≤ 36))
end Go.Proofs.Ytokhbfbanofchaa
