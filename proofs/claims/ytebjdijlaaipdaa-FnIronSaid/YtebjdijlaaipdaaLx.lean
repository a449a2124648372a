/-
  The last extremes of fields, on both sides: contracts; the law's walk. Conditions: none.
-/
import Derived.Test.YtebjdijlaaipdaaCf
import Derived.Test.YtebjdijlaaipdaaOr
import Derived.Test.YtebjdijlaaipdaaRh
import Derived.Test.YtebjdijlaaipdaaSu
namespace Go.Proofs.Ytebjdijlaaipdaa
open Go Go.RowKit

/-- How many of the last two are dropped: a behind b, f comes. -/
def popK (A B X : Int) : Nat := if (A < B ∧ X ≤ A) ∨ (B < A ∧ A ≤ X) then 2 else if B = A ∨ B = X ∨ (A < B ∧ B < X) ∨ (B < A ∧ X < B) then 1 else 0
def redR (f : Nat) : List Nat → List Nat
  | b :: a :: r => if popK (rk .f32 a) (rk .f32 b) (rk .f32 f) = 2 then redR f r else if popK (rk .f32 a) (rk .f32 b) (rk .f32 f) = 1 then redR f (a :: r) else b :: a :: r
  | R => R
theorem red2 {f a b : Nat} {r : List Nat} (h : popK (rk .f32 a) (rk .f32 b) (rk .f32 f) = 2) : redR f (b :: a :: r) = redR f r := by
  rw [redR, if_pos h]
theorem red1 {f a b : Nat} {r : List Nat} (h : popK (rk .f32 a) (rk .f32 b) (rk .f32 f) = 1) : redR f (b :: a :: r) = redR f (a :: r) := by
  rw [redR, if_neg (by rw [h]; decide), if_pos h]
theorem red0 {f a b : Nat} {r : List Nat} (h : popK (rk .f32 a) (rk .f32 b) (rk .f32 f) = 0) : redR f (b :: a :: r) = b :: a :: r := by
  rw [redR, if_neg (by rw [h]; decide), if_neg (by rw [h]; decide)]
def extR (F : Nat → Nat) : Nat → List Nat
  | 0 => []
  | k + 1 => F k :: redR (F k) (extR F k)
/-- What holds of the list while f reduces it. -/
structure LI (F : Nat → Nat) (f k : Nat) (R : List Nat) : Prop where
  red : redR f R = redR f (extR F k)
  len : R.length ≤ k
  num : ∀ x ∈ R, isNan .f32 x = false
theorem LI.pop2 {F : Nat → Nat} {f k a b : Nat} {r : List Nat} (h : LI F f k (b :: a :: r)) (hp : popK (rk .f32 a) (rk .f32 b) (rk .f32 f) = 2) : LI F f k r :=
  ⟨(red2 hp).symm.trans h.red, by have := h.len; simp at this; omega, fun x hx => h.num x (.tail _ (.tail _ hx))⟩
theorem LI.pop1 {F : Nat → Nat} {f k a b : Nat} {r : List Nat} (h : LI F f k (b :: a :: r)) (hp : popK (rk .f32 a) (rk .f32 b) (rk .f32 f) = 1) : LI F f k (a :: r) :=
  ⟨(red1 hp).symm.trans h.red, by have := h.len; simp at this ⊢; omega, fun x hx => h.num x (.tail _ hx)⟩
theorem LI.stop {F : Nat → Nat} {k : Nat} {R : List Nat} (h : LI F (F k) k R) (hp : redR (F k) R = R) : F k :: R = extR F (k + 1) := by
  rw [extR, ← h.red, hp]
def rowR (R : List Nat) (k : Nat) : List AV := [fl .f32 (R.getD (R.length - 1 - k) 0)]
theorem rowR_cons {f : Nat} {R : List Nat} : ∀ k, k < R.length → rowR (f :: R) k = rowR R k := fun k hk => by
  unfold rowR
  rw [show (f :: R).length - 1 - k = (R.length - 1 - k) + 1 by simp; omega]
  simp
theorem rowR_new {f : Nat} {R : List Nat} : rowR (f :: R) R.length = [fl .f32 f] := by
  unfold rowR
  rw [show (f :: R).length - 1 - R.length = 0 by simp]
  simp
theorem rowR_app {f : Nat} {R : List Nat} : ∀ k, k < 1 → rowR (f :: R) (R.length + k) = (([fl .f32 f] : List AV).drop (k * 1)).take 1 := fun k hk => by
  obtain rfl : k = 0 := by omega
  exact rowR_new
theorem rowR_b {a b : Nat} {r : List Nat} : (rowR (b :: a :: r) (r.length + 1))[0]? = some (fl .f32 b) := by
  rw [show r.length + 1 = (a :: r).length from rfl, rowR_new]
  rfl
theorem rowR_a {a b : Nat} {r : List Nat} : (rowR (b :: a :: r) r.length)[0]? = some (fl .f32 a) := by
  rw [rowR_cons _ (Nat.lt_succ_self _), rowR_new]
  rfl
theorem ext_len {F : Nat → Nat} : ∀ k, (extR F k).length ≤ k
  | 0 => Nat.le_refl _
  | k + 1 => by
    have red_len : ∀ (f : Nat) (n : Nat) (R : List Nat), R.length ≤ n → (redR f R).length ≤ R.length := by
      intro f n
      induction n with
      | zero => intro R h; cases R with
        | nil => exact Nat.le_refl _
        | cons => simp at h
      | succ n ih => intro R h; match R, h with
        | [], _ => exact Nat.le_refl _
        | [_], _ => exact Nat.le_refl _
        | b :: a :: r, h =>
          simp only [List.length_cons] at h
          rw [redR]
          split
          · have := ih r (by omega); simp; omega
          · split
            · have := ih (a :: r) (by simp; omega); simp at this ⊢; omega
            · exact Nat.le_refl _
    have := red_len (F k) _ (extR F k) (Nat.le_refl _)
    have := ext_len (F := F) k
    rw [extR]; simp; omega
theorem ext_num {F : Nat → Nat} : ∀ k, (∀ j, j < k → isNan .f32 (F j) = false) → ∀ x ∈ extR F k, isNan .f32 x = false
  | 0, _ => fun x hx => by cases hx
  | k + 1, h => fun x hx => by
    have red_mem : ∀ (f : Nat) (n : Nat) (R : List Nat), R.length ≤ n → ∀ x ∈ redR f R, x ∈ R := by
      intro f n
      induction n with
      | zero => intro R h; cases R with
        | nil => intro x hx; exact hx
        | cons => simp at h
      | succ n ih => intro R h; match R, h with
        | [], _ => intro x hx; exact hx
        | [_], _ => intro x hx; exact hx
        | b :: a :: r, h =>
          simp only [List.length_cons] at h
          intro x hx
          rw [redR] at hx
          split at hx
          · exact .tail _ (.tail _ (ih r (by omega) x hx))
          · split at hx
            · exact .tail _ (ih (a :: r) (by simp; omega) x hx)
            · exact hx
    rw [extR] at hx
    cases hx with
    | head => exact h k (Nat.lt_succ_self _)
    | tail _ hx => exact ext_num k (fun j hj => h j (by omega)) x (red_mem _ _ _ (Nat.le_refl _) x hx)
theorem LI.start {F : Nat → Nat} {k : Nat} (h : ∀ j, j < k → isNan .f32 (F j) = false) : LI F (F k) k (extR F k) := ⟨rfl, ext_len k, ext_num k h⟩
def lastIn (n : Nat) : Bool := !decide ((n : Int) < 1) && !decide ((n : Int) > 64)
def lastOk (F : Nat → Nat) (n : Nat) : Bool := lastIn n && !anyB (fun k => !finB (F k)) n
def lastN (F : Nat → Nat) (n : Nat) : Nat := if lastOk F n = true then (extR F n).length else 0
theorem last_len {n : Nat} (h : lastIn n = true) : 1 ≤ n ∧ n ≤ 64 := by
  simp only [lastIn, Bool.and_eq_true, Bool.not_eq_true', decide_eq_false_iff_not] at h
  omega
theorem fin_num {X : Nat} (h : finB X = true) : isNan .f32 X = false := num_of_finite h
section
variable {P : Program} {w0 : World} {s : AS} {Q : Exit → Act → World → Prop} {c : Code}
theorem aex_againJ {ι : Type} {st : ι → AS} {p : ι → Prop} {m : ι → Nat} {n : Nat} (j : ι) (hj : p j) (hm : m j < n) (h : Imp s (st j)) : AEx w0 s .normal (Exit.then (Again w0 st p m n) Q) := ⟨fun a w hs => ⟨j, hj, hm, h w0 a w hs⟩⟩
end
theorem opd_as2 {s : AS} {x : Operand} {A B : AV} (h : Opd s x A) (e : A = B) : Opd s x B := e ▸ h
end Go.Proofs.Ytebjdijlaaipdaa
