/-
  Iron: the fields that count lead to the same states; fields between two change nothing; a loop leads back. Conditions: none.
-/
import Derived.Test.YtebjdijlaaipdaaLx
import Derived.Test.YtebjdijlaaipdaaRn
namespace Go.Proofs.Ytebjdijlaaipdaa
open Go Go.RowKit

/-- A relay behind a field, all as integers. -/
def stI (u d x : Int) (b : Bool) : Bool := if u ≤ x then true else if x ≤ d then false else b
theorem stI_btw {u d a x y : Int} {b : Bool} (h : (a ≤ x ∧ x ≤ y) ∨ (y ≤ x ∧ x ≤ a)) (hd : d < u) : stI u d y (stI u d x (stI u d a b)) = stI u d y (stI u d a b) := by
  unfold stI
  repeat' split
  all_goals first | rfl | (exfalso; omega)
theorem stI_two {u d a x y z : Int} {b : Bool} (h : (y < x ∧ x < a ∧ z ≤ y) ∨ (a < x ∧ x < y ∧ y ≤ z)) (hd : d < u) : stI u d z (stI u d x (stI u d y (stI u d a b))) = stI u d z (stI u d a b) := by
  unfold stI
  repeat' split
  all_goals first | rfl | (exfalso; omega)
theorem stI_loop {u d x y : Int} {b : Bool} (hd : d < u) : stI u d x (stI u d y (stI u d x (stI u d y b))) = stI u d x (stI u d y b) := by
  unfold stI
  repeat' split
  all_goals first | rfl | (exfalso; omega)

def runI (u d : Int) : List Int → Bool → Bool
  | [], b => b
  | x :: r, b => stI u d x (runI u d r b)
def redI (f : Int) : List Int → List Int
  | b :: a :: r => if popK a b f = 2 then redI f r else if popK a b f = 1 then redI f (a :: r) else b :: a :: r
  | R => R
/-- Turning points that come closer, from the least one on. -/
def Alt (m : Int) : List Int → Prop
  | [] => False
  | [a] => a = m
  | [b, a] => a = m ∧ m < b
  | c :: b :: a :: r => ((a < c ∧ c < b) ∨ (b < c ∧ c < a)) ∧ Alt m (b :: a :: r)
theorem popK_2 {a b f : Int} : popK a b f = 2 ↔ (a < b ∧ f ≤ a) ∨ (b < a ∧ a ≤ f) := by
  unfold popK
  split
  · simp [*]
  · split <;> simp_all
theorem popK_1 {a b f : Int} : popK a b f = 1 ↔ ¬ ((a < b ∧ f ≤ a) ∨ (b < a ∧ a ≤ f)) ∧ (b = a ∨ b = f ∨ (a < b ∧ b < f) ∨ (b < a ∧ f < b)) := by
  unfold popK
  split
  · simp [*]
  · split <;> simp_all
theorem red_law {m f u d : Int} {B : Bool} (hf : m < f) (hd : d < u) : ∀ (n : Nat) (R : List Int), R.length ≤ n → Alt m R → Alt m (f :: redI f R) ∧ stI u d f (runI u d R B) = stI u d f (runI u d (redI f R) B)
  | _, [], _, h => h.elim
  | _, [a], _, h => ⟨⟨h, hf⟩, rfl⟩
  | 0, _ :: _ :: _, hl, _ => by simp at hl
  | n + 1, [b, a], hl, ⟨ha, hb⟩ => by
    subst ha
    have h2 : ¬ popK a b f = 2 := by rw [popK_2]; omega
    rw [redI, if_neg h2]
    by_cases h1 : popK a b f = 1
    · rw [if_pos h1]
      rw [popK_1] at h1
      refine ⟨⟨rfl, hf⟩, ?_⟩
      show stI u d f (stI u d b (stI u d a B)) = stI u d f (stI u d a B)
      exact stI_btw (by omega) hd
    · rw [if_neg h1]
      rw [popK_1] at h1
      exact ⟨⟨by omega, rfl, hb⟩, rfl⟩
  | n + 1, c :: b :: a :: r, hl, ⟨hc, hA⟩ => by
    simp only [List.length_cons] at hl
    rw [redI]
    by_cases h2 : popK b c f = 2
    · rw [if_pos h2]
      rw [popK_2] at h2
      have hr : Alt m (a :: r) := by
        cases r with
        | nil => exact hA.1
        | cons x r => exact hA.2
      obtain ⟨i1, i2⟩ := red_law (B := B) hf hd n (a :: r) (by simp; omega) hr
      refine ⟨i1, ?_⟩
      rw [← i2]
      show stI u d f (stI u d c (stI u d b (stI u d a (runI u d r B)))) = stI u d f (stI u d a (runI u d r B))
      exact stI_two (by omega) hd
    · rw [if_neg h2]
      by_cases h1 : popK b c f = 1
      · rw [if_pos h1]
        rw [popK_1] at h1
        obtain ⟨i1, i2⟩ := red_law (B := B) hf hd n (b :: a :: r) (by simp; omega) hA
        refine ⟨i1, ?_⟩
        rw [← i2]
        show stI u d f (stI u d c (stI u d b (runI u d (a :: r) B))) = stI u d f (stI u d b (runI u d (a :: r) B))
        exact stI_btw (by omega) hd
      · rw [if_neg h1]
        rw [popK_1] at h1
        rw [popK_2] at h2
        exact ⟨⟨by omega, hc, hA⟩, rfl⟩

/-- Relays that are numbers, the lower below the upper. -/
structure RelI (A : V3) : Prop where
  x : isNan .f32 A.x = false
  y : isNan .f32 A.y = false
  lt : rk .f32 A.y < rk .f32 A.x
theorem step_I {F : Nat → V3} {X : Nat} {B : Nat → Bool} {i : Nat} (hF : RelI (F i)) (hX : isNan .f32 X = false) : stepB F X B i = stI (rk .f32 (F i).x) (rk .f32 (F i).y) (rk .f32 X) (B i) := by
  unfold stepB stI
  rw [geq_rk hX hF.x, leq_rk hX hF.y]
  simp only [decide_eq_true_eq]
/-- The fields so far, the last one first. -/
def revX (X : Nat → Nat) : Nat → List Nat
  | 0 => []
  | k + 1 => X k :: revX X k
theorem run_I {F : Nat → V3} {X : Nat → Nat} {B : Nat → Bool} {i : Nat} (hF : RelI (F i)) : ∀ k, (∀ j, j < k → isNan .f32 (X j) = false) → runB F B X k i = runI (rk .f32 (F i).x) (rk .f32 (F i).y) ((revX X k).map (rk .f32)) (B i)
  | 0, _ => rfl
  | k + 1, h => by
    show stepB F (X k) (runB F B X k) i = stI _ _ _ _
    rw [step_I hF (h k (Nat.lt_succ_self k)), run_I hF k fun j hj => h j (by omega)]
theorem red_map (f : Nat) : ∀ (n : Nat) (R : List Nat), R.length ≤ n → (redR f R).map (rk .f32) = redI (rk .f32 f) (R.map (rk .f32))
  | _, [], _ => rfl
  | _, [_], _ => rfl
  | 0, _ :: _ :: _, h => by simp at h
  | n + 1, b :: a :: r, h => by
    simp only [List.length_cons] at h
    rw [redR]
    simp only [List.map_cons]
    rw [redI]
    split
    · exact red_map f n r (by omega)
    · split
      · exact red_map f n (a :: r) (by simp; omega)
      · rfl
theorem ext_I {X : Nat → Nat} {u d : Int} {B : Bool} (hd : d < u) {n : Nat} (hX : ∀ j, 0 < j → j < n → rk .f32 (X 0) < rk .f32 (X j)) : ∀ k, 0 < k → k ≤ n → Alt (rk .f32 (X 0)) ((extR X k).map (rk .f32)) ∧ runI u d ((revX X k).map (rk .f32)) B = runI u d ((extR X k).map (rk .f32)) B
  | 1, _, _ => ⟨rfl, rfl⟩
  | k + 2, _, hk => by
    obtain ⟨h1, h2⟩ := ext_I (B := B) hd hX (k + 1) (by omega) (by omega)
    have hf := hX (k + 1) (by omega) (by omega)
    obtain ⟨r1, r2⟩ := red_law (u := u) (d := d) (B := B) hf hd _ _ (Nat.le_refl _) h1
    have e : (extR X (k + 2)).map (rk .f32) = rk .f32 (X (k + 1)) :: redI (rk .f32 (X (k + 1))) ((extR X (k + 1)).map (rk .f32)) := by
      rw [extR, List.map_cons, red_map _ _ _ (Nat.le_refl _)]
    rw [e]
    refine ⟨r1, ?_⟩
    show stI u d (rk .f32 (X (k + 1))) (runI u d ((revX X (k + 1)).map (rk .f32)) B) = stI u d (rk .f32 (X (k + 1))) (runI u d (redI (rk .f32 (X (k + 1))) ((extR X (k + 1)).map (rk .f32))) B)
    rw [h2, r2]
/-- The fields of a list, the first one first. -/
def rowX (R : List Nat) (k : Nat) : Nat := R.getD (R.length - 1 - k) 0
theorem rowX_cons {f : Nat} {R : List Nat} {k : Nat} (hk : k < R.length) : rowX (f :: R) k = rowX R k := by
  unfold rowX
  rw [show (f :: R).length - 1 - k = (R.length - 1 - k) + 1 by simp; omega]
  simp
theorem rowX_new {f : Nat} {R : List Nat} : rowX (f :: R) R.length = f := by
  unfold rowX
  rw [show (f :: R).length - 1 - R.length = 0 by simp]
  simp
theorem revX_congr {X Y : Nat → Nat} : ∀ k, (∀ j, j < k → X j = Y j) → revX X k = revX Y k
  | 0, _ => rfl
  | k + 1, h => by rw [revX, revX, h k (Nat.lt_succ_self k), revX_congr k fun j hj => h j (by omega)]
theorem revX_row : ∀ R : List Nat, revX (rowX R) R.length = R
  | [] => rfl
  | f :: R => by
    show rowX (f :: R) R.length :: revX (rowX (f :: R)) R.length = f :: R
    rw [rowX_new, revX_congr R.length fun j hj => rowX_cons hj, revX_row R]
theorem rowX_mem {R : List Nat} {j : Nat} (h : j < R.length) : rowX R j ∈ R := by
  unfold rowX
  rw [List.getD_eq_getElem?_getD, List.getElem?_eq_getElem (by omega)]
  exact List.getElem_mem _
/-- The fields that count lead to the same states. -/
theorem iron_last {F : Nat → V3} {X : Nat → Nat} {B : Nat → Bool} {n i : Nat} (hn : 0 < n) (hF : RelI (F i)) (hN : ∀ j, j < n → isNan .f32 (X j) = false) (hX : ∀ j, 0 < j → j < n → rk .f32 (X 0) < rk .f32 (X j)) : runB F B (rowX (extR X n)) (extR X n).length i = runB F B X n i := by
  rw [run_I hF _ fun j hj => ext_num n hN _ (rowX_mem hj), run_I hF _ hN, revX_row, (ext_I hF.lt hX n hn (Nat.le_refl n)).2]
/-- Fields between two others. -/
def midX (X : Nat → Nat) (k : Nat) : Nat := fop .mul .f32 1056964608 (fop .add .f32 (X k) (X (k + 1)))
def slowX (X : Nat → Nat) (k : Nat) : Nat := if k % 2 = 0 then X (k / 2) else midX X (k / 2)
/-- A number between two others. -/
def Btw (a x b : Nat) : Prop := isNan .f32 x = false ∧ ((rk .f32 a ≤ rk .f32 x ∧ rk .f32 x ≤ rk .f32 b) ∨ (rk .f32 b ≤ rk .f32 x ∧ rk .f32 x ≤ rk .f32 a))
theorem iron_slow {F : Nat → V3} {X : Nat → Nat} {B : Nat → Bool} {n i : Nat} (hF : RelI (F i)) (hN : ∀ j, j < n → isNan .f32 (X j) = false) (hM : ∀ j, j + 1 < n → Btw (X j) (midX X j) (X (j + 1))) : ∀ k, k < n → runB F B (slowX X) (2 * k + 1) i = runB F B X (k + 1) i
  | 0, h => by
    show stepB F (slowX X 0) B i = stepB F (X 0) B i
    rfl
  | k + 1, h => by
    have e1 : slowX X (2 * k + 1) = midX X k := by
      unfold slowX
      rw [if_neg (by omega), show (2 * k + 1) / 2 = k by omega]
    have e2 : slowX X (2 * k + 2) = X (k + 1) := by
      unfold slowX
      rw [if_pos (by omega), show (2 * k + 2) / 2 = k + 1 by omega]
    obtain ⟨m1, m2⟩ := hM k h
    have hi := iron_slow (B := B) hF hN hM k (by omega)
    show stepB F (slowX X (2 * k + 2)) (stepB F (slowX X (2 * k + 1)) (runB F B (slowX X) (2 * k + 1))) i = stepB F (X (k + 1)) (stepB F (X k) (runB F B X k)) i
    rw [e1, e2, step_I hF (hN (k + 1) h), step_I hF m1, hi, step_I hF (hN (k + 1) h)]
    show stI _ _ _ (stI _ _ _ (stepB F (X k) (runB F B X k) i)) = stI _ _ _ (stepB F (X k) (runB F B X k) i)
    rw [step_I hF (hN k (by omega))]
    exact stI_btw m2 hF.lt
def twoX (b a : Nat) (k : Nat) : Nat := if k = 0 then b else a
theorem iron_loop {F : Nat → V3} {B : Nat → Bool} {a b i : Nat} (hF : RelI (F i)) (ha : isNan .f32 a = false) (hb : isNan .f32 b = false) : runB F (runB F B (twoX b a) 2) (twoX b a) 2 i = runB F B (twoX b a) 2 i := by
  show stepB F a (stepB F b (stepB F a (stepB F b B))) i = stepB F a (stepB F b B) i
  rw [step_I hF ha, step_I hF hb, step_I hF ha, step_I hF hb, stI_loop hF.lt]
end Go.Proofs.Ytebjdijlaaipdaa
