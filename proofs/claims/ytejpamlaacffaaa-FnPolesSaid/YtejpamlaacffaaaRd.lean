/-
  A swift evaluation of what finite numbers are worth: programs that hand on sign, worth and a guess of its size. Conditions: none.
-/
import Derived.Test.YtejpamlaacffaaaRc
namespace Go.Proofs.Ytejpamlaacffaaa
open Go Go.RowKit

def bc (b x y : Bool) : Bool := Bool.casesOn (motive := fun _ => Bool) b y x
theorem bc_true (x y : Bool) : bc true x y = x := rfl
theorem bc_false (x y : Bool) : bc false x y = y := rfl
/-- A choice between numbers. -/
def nc (b : Bool) (x y : Nat) : Nat := Bool.casesOn (motive := fun _ => Nat) b y x
theorem nc_true (x y : Nat) : nc true x y = x := rfl
theorem nc_false (x y : Nat) : nc false x y = y := rfl
def force (n : Nat) (k : Nat → Bool) : Bool := Nat.rec (motive := fun _ => Bool) (k 0) (fun m _ => k (Nat.succ m)) n
theorem force_eq (n : Nat) (k : Nat → Bool) : force n k = k n := by cases n <;> rfl
/-- N / 2 ^ T, to the nearest, to the even. -/
def rne (N T : Nat) : Nat := Nat.shiftRight (Nat.add N (Nat.shiftRight (Nat.add (Nat.sub (Nat.shiftLeft 1 T) 1) (Nat.land (Nat.shiftRight N T) 1)) 1)) T
theorem rne_eq (N T : Nat) : rne N T = cutQ N (2 ^ T) := by
  have e : rne N T = (N + (1 <<< T - 1 + ((N >>> T) &&& 1)) >>> 1) >>> T := rfl
  rw [e, Nat.and_one_is_mod, Nat.shiftRight_eq_div_pow, Nat.shiftRight_eq_div_pow, Nat.shiftRight_eq_div_pow, Nat.shiftLeft_eq, Nat.one_mul, Nat.pow_one]
  unfold cutQ
  have hT : 2 ^ T = 1 ∨ ∃ W, 0 < W ∧ 2 ^ T = 2 * W := by
    cases T with
    | zero => exact .inl rfl
    | succ U => exact .inr ⟨2 ^ U, Nat.pow_pos (by omega), by rw [Nat.pow_succ, Nat.mul_comm]⟩
  generalize 2 ^ T = B at *
  have h1 := Nat.div_add_mod N B
  have hB : 0 < B := by omega
  have h2 := Nat.mod_lt N hB
  generalize N / B = q at *
  generalize N % B = r at *
  rw [← h1, Nat.add_assoc, Nat.mul_add_div hB]
  rcases hT with rfl | ⟨W, hW, rfl⟩
  · obtain rfl : r = 0 := by omega
    have : (1 - 1 + q % 2) / 2 = 0 := by omega
    rw [this]
    simp
  · congr 1
    have hs : (2 * W - 1 + q % 2) / 2 = W - 1 + q % 2 := by omega
    rw [hs]
    by_cases c1 : 2 * W < 2 * r
    · rw [decide_eq_true c1, Bool.true_or]
      show _ = 1
      rw [Nat.div_eq_iff (by omega)]
      omega
    · rw [decide_eq_false c1, Bool.false_or]
      by_cases c2 : 2 * W = 2 * r ∧ q % 2 = 1
      · rw [decide_eq_true c2.1, decide_eq_true c2.2]
        show _ = 1
        rw [Nat.div_eq_iff (by omega)]
        omega
      · have : (decide (2 * W = 2 * r) && decide (q % 2 = 1)) = false := by
          rw [Bool.and_eq_false_iff, decide_eq_false_iff_not, decide_eq_false_iff_not]
          omega
        rw [this]
        show _ = 0
        rw [Nat.div_eq_zero_iff]
        right
        omega
/-- The digits ahead of place c. -/
def seek (A c : Nat) (k : Nat → Bool) (f d : Nat) : Bool := Nat.rec (motive := fun _ => Nat → Bool) (fun _ => false) (fun _ ih d => force (Nat.shiftRight A (Nat.add d c)) fun g => bc (Nat.beq g 0) (bc (Nat.beq d 0) (k 0) (ih (Nat.sub d 1))) (bc (Nat.beq g 1) (k d) (ih (Nat.succ d)))) f d
theorem seek_succ (A c : Nat) (k : Nat → Bool) (f d : Nat) : seek A c k (f + 1) d = force (Nat.shiftRight A (Nat.add d c)) fun g => bc (Nat.beq g 0) (bc (Nat.beq d 0) (k 0) (seek A c k f (Nat.sub d 1))) (bc (Nat.beq g 1) (k d) (seek A c k f (Nat.succ d))) := rfl
theorem seek_spec {A c : Nat} {k : Nat → Bool} : ∀ f d, seek A c k f d = true → k (A.log2 - c) = true
  | 0, _, h => by cases h
  | f + 1, d, h => by
    have hg : Nat.shiftRight A (Nat.add d c) = A / 2 ^ (d + c) := Nat.shiftRight_eq_div_pow A (d + c)
    have hp : 0 < 2 ^ (d + c) := Nat.pow_pos (by omega)
    rw [seek_succ, force_eq, hg] at h
    cases h0 : Nat.beq (A / 2 ^ (d + c)) 0 <;> rw [h0] at h
    · simp only [bc_false] at h
      cases h1 : Nat.beq (A / 2 ^ (d + c)) 1 <;> rw [h1] at h
      · exact seek_spec f _ h
      · have h1 := (Nat.div_eq_iff hp).1 (Nat.eq_of_beq_eq_true h1)
        have h2 : A.log2 = d + c := log2_is (by omega) (by rw [Nat.pow_succ]; omega)
        rw [h2, Nat.add_sub_cancel]
        exact h
    · simp only [bc_true] at h
      have h0 := Nat.eq_of_beq_eq_true h0
      cases hd : Nat.beq d 0 <;> rw [hd] at h
      · exact seek_spec f _ h
      · obtain rfl : d = 0 := Nat.eq_of_beq_eq_true hd
        have h1 : A < 2 ^ (0 + c) := by
          rcases Nat.div_eq_zero_iff.1 h0 with h | h
          · omega
          · exact h
        have h2 : A.log2 - c = 0 := by
          by_cases hA : A = 0
          · subst hA; simp
          · have := (Nat.log2_lt hA).2 h1
            omega
        rw [h2]
        exact h
abbrev KK : Type := Bool → Nat → Nat → Bool
/-- Shifts a number of few digits up. -/
def norm (A fb : Nat) (k : Nat → Bool) (f j : Nat) : Bool := Nat.rec (motive := fun _ => Nat → Bool) (fun _ => false) (fun _ ih j => bc (Nat.beq (Nat.shiftRight A (Nat.sub fb j)) 1) (k j) (ih (Nat.succ j))) f j
theorem norm_succ (A fb : Nat) (k : Nat → Bool) (f j : Nat) : norm A fb k (f + 1) j = bc (Nat.beq (Nat.shiftRight A (Nat.sub fb j)) 1) (k j) (norm A fb k f (Nat.succ j)) := rfl
theorem norm_some {A fb : Nat} {k : Nat → Bool} : ∀ f j, norm A fb k f j = true → ∃ x, k x = true
  | 0, _, h => by cases h
  | f + 1, j, h => by
    rw [norm_succ] at h
    cases hb : Nat.beq (Nat.shiftRight A (Nat.sub fb j)) 1 <;> rw [hb] at h
    · exact norm_some f _ h
    · exact ⟨_, h⟩
/-- A * 2 ^ x, rounded. -/
def rnM (fb Y : Nat) (s : Bool) (A x g : Nat) (K : KK) : Bool :=
  force A fun A => bc (Nat.beq A 0) (K s 0 0) (bc (Nat.beq (Nat.shiftRight A fb) 0)
    (norm A fb (fun k => bc (Nat.ble k x) (force (Nat.shiftLeft A k) fun m => force (Nat.sub x k) fun y => bc (Nat.ble x Y) (K s m y) false) false) 60 1)
    (seek A fb (fun T => force T fun T => force (rne A T) fun m => force (Nat.add x T) fun y => bc (Nat.ble y Y) (K s m y) false) 60 g))
theorem rndQ_big {fb A x : Nat} (h : 2 ^ fb ≤ A) : rndQ fb (A * 2 ^ x) 1 = cutQ A (2 ^ (A.log2 - fb)) * 2 ^ (x + (A.log2 - fb)) := by
  have h0 : A ≠ 0 := by
    have := Nat.pow_pos (n := fb) (show 0 < 2 by omega)
    omega
  have hl : fb ≤ A.log2 := (Nat.le_log2 h0).2 h
  unfold rndQ
  rw [Nat.div_one, log2_mul _ _ h0, Nat.one_mul, show A.log2 + x - fb = A.log2 - fb + x by omega, Nat.pow_add 2 (A.log2 - fb) x, cutQ_scale, Nat.add_comm x, Nat.pow_add]
theorem rndQ_exact {fb m s : Nat} (hm : m < 2 ^ (fb + 1)) : rndQ fb (m * 2 ^ s) 1 = m * 2 ^ s := by
  by_cases h0 : m = 0
  · subst h0; rw [Nat.zero_mul, rndQ_zero]
  unfold rndQ
  rw [Nat.div_one, log2_mul _ _ h0, Nat.one_mul]
  have hl : m.log2 < fb + 1 := by rw [Nat.log2_lt h0]; exact hm
  obtain ⟨d, hd⟩ : ∃ d, m.log2 + s - fb = d := ⟨_, rfl⟩
  rw [hd]
  obtain ⟨w, rfl⟩ : ∃ w, s = w + d := ⟨s - d, by omega⟩
  rw [Nat.pow_add, ← Nat.mul_assoc]
  congr 1
  have := cutQ_scale (m * 2 ^ w) 1 d
  rw [Nat.one_mul] at this
  rw [this]
  unfold cutQ
  simp [Nat.mod_one]
theorem ble_or {a b : Nat} {x : Bool} (h : bc (Nat.ble a b) x false = true) : a ≤ b ∧ x = true := by
  cases hb : Nat.ble a b <;> rw [hb] at h
  · cases h
  · exact ⟨Nat.le_of_ble_eq_true hb, h⟩
theorem rnM_spec {fb Y C : Nat} {s : Bool} {A x g : Nat} {K : KK} (hC : 2 ^ (fb + 1 + Y) < C) (hh : rnM fb Y s A x g K = true) : ∃ m y, rndQ fb (A * 2 ^ x) 1 = m * 2 ^ y ∧ m * 2 ^ y < C ∧ K s m y = true := by
  unfold rnM at hh
  rw [force_eq] at hh
  cases h0 : Nat.beq A 0 <;> rw [h0] at hh
  · rw [bc_false] at hh
    have hsr : Nat.shiftRight A fb = A / 2 ^ fb := Nat.shiftRight_eq_div_pow _ _
    cases h1 : Nat.beq (Nat.shiftRight A fb) 0 <;> rw [h1] at hh
    · rw [bc_false] at hh
      have hA : 2 ^ fb ≤ A := by
        rcases Nat.lt_or_ge A (2 ^ fb) with q | q
        · rw [hsr, Nat.div_eq_of_lt q] at h1; cases h1
        · exact q
      have hA0 : A ≠ 0 := by
        have := Nat.pow_pos (n := fb) (show 0 < 2 by omega)
        omega
      have h2 := seek_spec _ _ hh
      rw [force_eq, force_eq, force_eq, rne_eq] at h2
      obtain ⟨h3, h4⟩ := ble_or h2
      refine ⟨_, _, rndQ_big hA, Nat.lt_of_le_of_lt ?_ hC, h4⟩
      rw [Nat.pow_add 2 (fb + 1) Y]
      refine Nat.mul_le_mul ?_ (Nat.pow_le_pow_right (n := 2) (Nat.succ_pos 1) h3)
      rw [← cut_cutQ false]
      refine cut_even_le ?_
      rw [← Nat.pow_add]
      have h5 : A < 2 ^ (A.log2 + 1) := Nat.lt_log2_self
      have h6 : fb ≤ A.log2 := (Nat.le_log2 hA0).2 hA
      rw [show fb + 1 + (A.log2 - fb) = A.log2 + 1 by omega]
      exact Nat.le_of_lt h5
    · rw [bc_true] at hh
      have hA : A < 2 ^ fb := by
        have := Nat.eq_of_beq_eq_true h1
        rw [hsr] at this
        rcases Nat.div_eq_zero_iff.1 this with q | q
        · have := Nat.pow_pos (n := fb) (show 0 < 2 by omega)
          omega
        · exact q
      obtain ⟨k, h2⟩ := norm_some _ _ hh
      obtain ⟨h3, h4⟩ := ble_or h2
      rw [force_eq, force_eq] at h4
      obtain ⟨h5, h6⟩ := ble_or h4
      have e : A * 2 ^ x = Nat.shiftLeft A k * 2 ^ (Nat.sub x k) := by
        show _ = A <<< k * 2 ^ (x - k)
        rw [Nat.shiftLeft_eq, Nat.mul_assoc, ← Nat.pow_add, show k + (x - k) = x by omega]
      have hlt : A * 2 ^ x < C := by
        refine Nat.lt_of_le_of_lt ?_ hC
        rw [Nat.pow_add 2 (fb + 1) Y, Nat.pow_succ]
        refine Nat.mul_le_mul (by omega) (Nat.pow_le_pow_right (n := 2) (Nat.succ_pos 1) h5)
      refine ⟨_, _, (rndQ_exact (by rw [Nat.pow_succ]; omega)).trans e, ?_, h6⟩
      rw [← e]
      exact hlt
  · have : A = 0 := Nat.eq_of_beq_eq_true h0
    subst this
    refine ⟨0, 0, by rw [Nat.zero_mul, Nat.zero_mul, rndQ_zero], ?_, hh⟩
    rw [Nat.zero_mul]
    exact Nat.lt_of_le_of_lt (Nat.zero_le _) hC
def bx (s t : Bool) : Bool := bc s (bc t false true) t
theorem bx_eq (s t : Bool) : bx s t = Bool.xor s t := by cases s <;> cases t <;> rfl
/-- A sign, made sure of. -/
def sgK (s : Bool) (k : Bool → Bool) : Bool := Bool.casesOn (motive := fun _ => Bool) s (k false) (k true)
theorem sgK_eq (s : Bool) (k : Bool → Bool) : sgK s k = k s := by cases s <;> rfl
/-- The sum of numbers of one place. -/
def adM (fb Y : Nat) (s1 : Bool) (a : Nat) (s2 : Bool) (b x g : Nat) (K : KK) : Bool :=
  bc (bx s1 s2) (bc (Nat.ble b a) (rnM fb Y s1 (Nat.sub a b) x g K) (rnM fb Y s2 (Nat.sub b a) x g K)) (rnM fb Y s1 (Nat.add a b) x g K)
def addK (fb Y : Nat) (s1 : Bool) (m1 x1 : Nat) (s2 : Bool) (m2 x2 : Nat) (K : KK) : Bool :=
  bc (Nat.beq m1 0) (adM fb Y s2 m2 s2 0 x2 0 K) (bc (Nat.beq m2 0) (adM fb Y s1 m1 s1 0 x1 0 K)
    (bc (Nat.ble x2 x1) (force (Nat.sub x1 x2) fun g => force (Nat.shiftLeft m1 g) fun a => adM fb Y s1 a s2 m2 x2 g K) (force (Nat.sub x2 x1) fun g => force (Nat.shiftLeft m2 g) fun b => adM fb Y s1 m1 s2 b x1 g K)))
def mulK (fb P Y : Nat) (s1 : Bool) (m1 x1 : Nat) (s2 : Bool) (m2 x2 : Nat) (K : KK) : Bool :=
  sgK (bx s1 s2) fun s => bc (Nat.beq (Nat.mul m1 m2) 0) (K s 0 0) (force (Nat.add x1 x2) fun x => bc (Nat.ble P x) (rnM fb Y s (Nat.mul m1 m2) (Nat.sub x P) fb K) false)
def cutK (A D : Nat) (k : Nat → Bool) : Bool := force (Nat.div A D) fun z => force (Nat.mul 2 (Nat.sub A (Nat.mul D z))) fun r => force (nc (Nat.ble r D) (nc (Nat.beq r D) (Nat.add z (Nat.land z 1)) z) (Nat.succ z)) k
theorem cutK_eq (A D : Nat) (k : Nat → Bool) : cutK A D k = k (cutQ A D) := by
  unfold cutK
  rw [force_eq, force_eq, force_eq]
  congr 1
  have h := Nat.div_add_mod A D
  have e : Nat.mul 2 (Nat.sub A (Nat.mul D (Nat.div A D))) = 2 * (A % D) := by
    show 2 * (A - D * (A / D)) = _
    omega
  rw [e]
  unfold cutQ
  show nc (Nat.ble (2 * (A % D)) D) (nc (Nat.beq (2 * (A % D)) D) (A / D + ((A / D) &&& 1)) (A / D)) (A / D + 1) = _
  rw [Nat.and_one_is_mod]
  generalize 2 * (A % D) = r
  generalize A / D = z
  by_cases c1 : D < r
  · have : Nat.ble r D = false := by
      cases h : Nat.ble r D
      · rfl
      · have := Nat.le_of_ble_eq_true h; omega
    rw [this, decide_eq_true c1]
    rfl
  · rw [Nat.ble_eq_true_of_le (by omega), decide_eq_false c1, Bool.false_or]
    by_cases c2 : D = r
    · subst c2
      rw [show Nat.beq D D = true from by rw [Nat.beq_eq]]
      simp only [nc_true, decide_true, Bool.true_and]
      congr 1
      rcases Nat.mod_two_eq_zero_or_one z with h | h <;> rw [h] <;> rfl
    · have : Nat.beq r D = false := by
        cases h : Nat.beq r D
        · rfl
        · have := Nat.eq_of_beq_eq_true h; omega
      rw [this, decide_eq_false c2]
      simp [nc_true, nc_false]
def quoK (fb P Y : Nat) (s1 : Bool) (m1 x1 : Nat) (s2 : Bool) (m2 x2 : Nat) (K : KK) : Bool :=
  bc (Nat.beq m2 0) false (sgK (bx s1 s2) fun s => bc (Nat.beq m1 0) (K s 0 0) (force (Nat.shiftLeft m1 (Nat.add fb 2)) fun D => force (Nat.div D m2) fun q => bc (Nat.ble (Nat.add (Nat.add fb 2) x2) (Nat.add x1 P)) (bc (Nat.beq (Nat.shiftRight q fb) 0) false
    (seek q fb (fun T => force T fun T => cutK D (Nat.shiftLeft m2 T) fun m => force (Nat.add (Nat.sub (Nat.add x1 P) (Nat.add (Nat.add fb 2) x2)) T) fun y => bc (Nat.ble y Y) (K s m y) false) 60 2)) false))
/-- One step towards the root. -/
def newt (M : Nat) (k : Nat → Bool) (f w : Nat) : Bool := Nat.rec (motive := fun _ => Nat → Bool) k (fun _ ih w => force (Nat.shiftRight (Nat.add w (Nat.div M w)) 1) fun x => bc (Nat.ble w x) (k w) (ih x)) f w
theorem newt_succ (M : Nat) (k : Nat → Bool) (f w : Nat) : newt M k (f + 1) w = force (Nat.shiftRight (Nat.add w (Nat.div M w)) 1) fun x => bc (Nat.ble w x) (k w) (newt M k f x) := rfl
theorem newt_some {M : Nat} {k : Nat → Bool} : ∀ f w, newt M k f w = true → ∃ x, k x = true
  | 0, w, h => ⟨w, h⟩
  | f + 1, w, h => by
    rw [newt_succ, force_eq] at h
    cases hb : Nat.ble w (Nat.shiftRight (Nat.add w (Nat.div M w)) 1) <;> rw [hb] at h
    · exact newt_some f _ h
    · exact ⟨_, h⟩
/-- The root of a number that is not negative. -/
def lo53 : Nat := 4503599627370496
def hi53 : Nat := 9007199254740992
def seek4 (m z : Nat) (k : Nat → Nat → Bool) (f d : Nat) : Bool := Nat.rec (motive := fun _ => Nat → Bool) (fun _ => false) (fun _ ih d => bc (Nat.ble (Nat.add d d) z) (force (Nat.shiftLeft m (Nat.sub z (Nat.add d d))) fun M => force (Nat.shiftRight M 104) fun g => bc (Nat.beq g 0) (ih (Nat.sub d 1)) (bc (Nat.ble g 3) (k d M) (ih (Nat.succ d)))) (ih (Nat.sub d 1))) f d
theorem seek4_succ (m z : Nat) (k : Nat → Nat → Bool) (f d : Nat) : seek4 m z k (f + 1) d = bc (Nat.ble (Nat.add d d) z) (force (Nat.shiftLeft m (Nat.sub z (Nat.add d d))) fun M => force (Nat.shiftRight M 104) fun g => bc (Nat.beq g 0) (seek4 m z k f (Nat.sub d 1)) (bc (Nat.ble g 3) (k d M) (seek4 m z k f (Nat.succ d)))) (seek4 m z k f (Nat.sub d 1)) := rfl
theorem seek4_some {m z : Nat} {k : Nat → Nat → Bool} : ∀ f d, seek4 m z k f d = true → ∃ x, 2 * x ≤ z ∧ k x (m * 2 ^ (z - 2 * x)) = true
  | 0, _, h => by cases h
  | f + 1, d, h => by
    rw [seek4_succ] at h
    cases hz : Nat.ble (Nat.add d d) z <;> rw [hz] at h
    · exact seek4_some f _ h
    rw [bc_true, force_eq, force_eq] at h
    have hle : d + d ≤ z := Nat.le_of_ble_eq_true hz
    have e : Nat.shiftLeft m (Nat.sub z (Nat.add d d)) = m * 2 ^ (z - 2 * d) := by
      show m <<< (z - (d + d)) = _
      rw [Nat.shiftLeft_eq, show d + d = 2 * d by omega]
    rw [e] at h
    cases hb : Nat.beq (Nat.shiftRight (m * 2 ^ (z - 2 * d)) 104) 0 <;> rw [hb] at h
    · rw [bc_false] at h
      cases hc : Nat.ble (Nat.shiftRight (m * 2 ^ (z - 2 * d)) 104) 3 <;> rw [hc] at h
      · exact seek4_some f _ h
      · exact ⟨d, by omega, h⟩
    · exact seek4_some f _ h
def sqrtK (P Y : Nat) (m x : Nat) (K : KK) : Bool :=
  bc (Nat.beq m 0) (K false 0 0) (force (Nat.add x P) fun z => seek4 m z (fun d M => force d fun d =>
    newt M (fun w => bc (Nat.ble lo53 w) (bc (Nat.ble hi53 w) false (bc (Nat.ble (Nat.mul w w) M) (bc (Nat.ble (Nat.mul (Nat.succ w) (Nat.succ w)) M) false
      (force (Nat.mul (Nat.succ (Nat.mul 2 w)) (Nat.succ (Nat.mul 2 w))) fun t => force (Nat.mul 4 M) fun N4 => force (nc (Nat.ble N4 t) (nc (Nat.beq t N4) (Nat.add w (Nat.land w 1)) w) (Nat.succ w)) fun R => bc (Nat.ble d Y) (K false R d) false)) false)) false) 12 hi53) 30 (Nat.sub (Nat.div z 2) 26))
section
variable {k : FloatKind} {X Y : Nat} {s1 s2 : Bool} {m1 m2 x1 x2 : Nat} {K : KK}
theorem cap_pos (k : FloatKind) : 0 < capF k.format := Nat.pow_pos (by omega)
theorem adM_spec {fb Z C a b x g : Nat} {u v : Int} (hC : 2 ^ (fb + 1 + Z) < C) (hu : u = sgnI s1 (a * 2 ^ x)) (hv : v = sgnI s2 (b * 2 ^ x)) (h : adM fb Z s1 a s2 b x g K = true) : ∃ s m y, rndQ fb (u + v).natAbs 1 < C ∧ rndZ fb (u + v) 1 = sgnI s (m * 2 ^ y) ∧ K s m y = true := by
  have go : ∀ (s : Bool) (A : Nat), u + v = sgnI s (A * 2 ^ x) → rnM fb Z s A x g K = true → ∃ s m y, rndQ fb (u + v).natAbs 1 < C ∧ rndZ fb (u + v) 1 = sgnI s (m * 2 ^ y) ∧ K s m y = true := fun s A he hr => by
    obtain ⟨m, y, q0, q1, q2⟩ := rnM_spec hC hr
    refine ⟨s, m, y, ?_, ?_, q2⟩
    · rw [he, sgnI_abs, q0]; exact q1
    · rw [he, rndZ_sgn, q0]
  subst hu hv
  unfold adM at h
  rw [bx_eq] at h
  generalize hT : 2 ^ x = T at *
  by_cases hs : s1 = s2
  · subst hs
    rw [Bool.xor_self, bc_false] at h
    refine go s1 (Nat.add a b) ?_ h
    show _ = sgnI s1 ((a + b) * T)
    rw [Nat.add_mul]
    unfold sgnI
    cases s1
    · simp
    · simp; omega
  · have : Bool.xor s1 s2 = true := by cases s1 <;> cases s2 <;> first | rfl | exact absurd rfl hs
    rw [this, bc_true] at h
    cases hb : Nat.ble b a <;> rw [hb] at h
    · rw [bc_false] at h
      have hlt : a < b := by
        rcases Nat.lt_or_ge a b with q | q
        · exact q
        · rw [Nat.ble_eq_true_of_le q] at hb; cases hb
      refine go s2 (Nat.sub b a) ?_ h
      show _ = sgnI s2 ((b - a) * T)
      rw [Nat.sub_mul]
      have := Nat.mul_le_mul_right T (Nat.le_of_lt hlt)
      unfold sgnI
      cases s1 <;> cases s2 <;> first | exact absurd rfl hs | (simp only [if_true, if_false, Bool.false_eq_true]; omega)
    · rw [bc_true] at h
      have hle := Nat.mul_le_mul_right T (Nat.le_of_ble_eq_true hb)
      refine go s1 (Nat.sub a b) ?_ h
      show _ = sgnI s1 ((a - b) * T)
      rw [Nat.sub_mul]
      unfold sgnI
      cases s1 <;> cases s2 <;> first | exact absurd rfl hs | (simp only [if_true, if_false, Bool.false_eq_true]; omega)
theorem shl_place {m x1 x2 : Nat} (h : x2 ≤ x1) : m * 2 ^ x1 = Nat.shiftLeft m (Nat.sub x1 x2) * 2 ^ x2 := by
  show _ = m <<< (x1 - x2) * 2 ^ x2
  rw [Nat.shiftLeft_eq, Nat.mul_assoc, ← Nat.pow_add, show x1 - x2 + x2 = x1 by omega]
theorem addK_core {fb Z C : Nat} {u v : Int} (hC : 2 ^ (fb + 1 + Z) < C) (hu : u = sgnI s1 (m1 * 2 ^ x1)) (hv : v = sgnI s2 (m2 * 2 ^ x2)) (h : addK fb Z s1 m1 x1 s2 m2 x2 K = true) : ∃ s m y, rndQ fb (u + v).natAbs 1 < C ∧ rndZ fb (u + v) 1 = sgnI s (m * 2 ^ y) ∧ K s m y = true := by
  unfold addK at h
  cases h1 : Nat.beq m1 0 <;> rw [h1] at h
  · rw [bc_false] at h
    cases h2 : Nat.beq m2 0 <;> rw [h2] at h
    · rw [bc_false] at h
      cases hb : Nat.ble x2 x1 <;> rw [hb] at h
      · rw [bc_false, force_eq, force_eq] at h
        have hle : x1 ≤ x2 := by
          rcases Nat.le_total x1 x2 with q | q
          · exact q
          · rw [Nat.ble_eq_true_of_le q] at hb; cases hb
        exact adM_spec hC hu (hv.trans (congrArg _ (shl_place hle))) h
      · rw [bc_true, force_eq, force_eq] at h
        exact adM_spec hC (hu.trans (congrArg _ (shl_place (Nat.le_of_ble_eq_true hb)))) hv h
    · rw [bc_true] at h
      obtain rfl : m2 = 0 := Nat.eq_of_beq_eq_true h2
      rw [Nat.zero_mul, sgnI_zero] at hv
      exact adM_spec (v := v) hC hu (by rw [hv, Nat.zero_mul, sgnI_zero]) h
  · rw [bc_true] at h
    obtain rfl : m1 = 0 := Nat.eq_of_beq_eq_true h1
    rw [Nat.zero_mul, sgnI_zero] at hu
    have := adM_spec (u := v) (v := u) hC hv (by rw [hu, Nat.zero_mul, sgnI_zero]) h
    rwa [Int.add_comm v u] at this
/-- What is asked of the constants. -/
structure Fit (k : FloatKind) (fb P Z : Nat) : Prop where
  f : k.format.fractionBits = fb
  p : pF k = P
  c : 2 ^ (fb + 1 + Z) < capF k.format
theorem addK_spec {fb P Z : Nat} (hk : Fit k fb P Z) (hx : V k X (sgnI s1 (m1 * 2 ^ x1))) (hy : V k Y (sgnI s2 (m2 * 2 ^ x2))) (h : addK fb Z s1 m1 x1 s2 m2 x2 K = true) : ∃ s m y, V k (fop .add k X Y) (sgnI s (m * 2 ^ y)) ∧ K s m y = true := by
  obtain ⟨s, m, y, q1, q2, q3⟩ := addK_core hk.c rfl rfl h
  have hf := hk.f
  subst hf
  exact ⟨s, m, y, q2 ▸ hx.add hy q1, q3⟩
theorem sgnI_neg (s : Bool) (n : Nat) : sgnI (!s) n = -sgnI s n := by
  unfold sgnI
  cases s <;> simp
theorem subK_spec {fb P Z : Nat} (hk : Fit k fb P Z) (hx : V k X (sgnI s1 (m1 * 2 ^ x1))) (hy : V k Y (sgnI s2 (m2 * 2 ^ x2))) (h : addK fb Z s1 m1 x1 (!s2) m2 x2 K = true) : ∃ s m y, V k (fop .sub k X Y) (sgnI s (m * 2 ^ y)) ∧ K s m y = true := by
  obtain ⟨s, m, y, q1, q2, q3⟩ := addK_core hk.c rfl rfl h
  rw [sgnI_neg, ← Int.sub_eq_add_neg] at q1 q2
  have hf := hk.f
  subst hf
  exact ⟨s, m, y, q2 ▸ hx.sub hy q1, q3⟩
theorem mulK_spec {fb P Z : Nat} (hk : Fit k fb P Z) (hx : V k X (sgnI s1 (m1 * 2 ^ x1))) (hy : V k Y (sgnI s2 (m2 * 2 ^ x2))) (h : mulK fb P Z s1 m1 x1 s2 m2 x2 K = true) : ∃ s m y, V k (fop .mul k X Y) (sgnI s (m * 2 ^ y)) ∧ K s m y = true := by
  obtain ⟨hf, hP, hC⟩ := hk
  subst hf hP
  unfold mulK at h
  rw [sgK_eq, bx_eq] at h
  have he : sgnI s1 (m1 * 2 ^ x1) * sgnI s2 (m2 * 2 ^ x2) = sgnI (Bool.xor s1 s2) (m1 * m2 * 2 ^ (x1 + x2)) := by rw [sgnI_mul, Nat.pow_add, Nat.mul_mul_mul_comm]
  cases h0 : Nat.beq (Nat.mul m1 m2) 0 <;> rw [h0] at h
  · rw [bc_false, force_eq] at h
    obtain ⟨h1, h2⟩ := ble_or h
    have h1 : pF k ≤ x1 + x2 := h1
    obtain ⟨m, y, q0, q1, q2⟩ := rnM_spec hC h2
    have e : rndQ k.format.fractionBits (m1 * m2 * 2 ^ (x1 + x2)) (2 ^ pF k) = m * 2 ^ y := by
      rw [← q0]
      rw [show (2 : Nat) ^ pF k = 1 * 2 ^ pF k by rw [Nat.one_mul], show rndQ k.format.fractionBits (Nat.mul m1 m2 * 2 ^ Nat.sub (Nat.add x1 x2) (pF k)) 1 = rndQ k.format.fractionBits (m1 * m2 * 2 ^ (x1 + x2 - pF k)) (1 * 2 ^ 0) from rfl]
      exact rndQ_scale2 (by omega)
    have := hx.mul hy (by rw [he, sgnI_abs, e]; exact q1)
    rw [he, rndZ_sgn, e] at this
    exact ⟨_, _, _, this, q2⟩
  · rw [bc_true] at h
    have hz : m1 * m2 = 0 := Nat.eq_of_beq_eq_true h0
    have := hx.mul hy (by rw [he, sgnI_abs, hz, Nat.zero_mul, rndQ_zero]; exact cap_pos k)
    rw [he, rndZ_sgn, hz, Nat.zero_mul, rndQ_zero] at this
    exact ⟨_, 0, 0, by rw [Nat.zero_mul]; exact this, h⟩
theorem quoK_spec {fb P Z : Nat} (hk : Fit k fb P Z) (hx : V k X (sgnI s1 (m1 * 2 ^ x1))) (hy : V k Y (sgnI s2 (m2 * 2 ^ x2))) (h : quoK fb P Z s1 m1 x1 s2 m2 x2 K = true) : ∃ s m y, V k (fop .quo k X Y) (sgnI s (m * 2 ^ y)) ∧ K s m y = true := by
  obtain ⟨hf, hP, hC⟩ := hk
  subst hf hP
  unfold quoK at h
  cases h0 : Nat.beq m2 0 <;> rw [h0] at h
  case true => cases h
  rw [bc_false, sgK_eq, bx_eq] at h
  have hm2 : 0 < m2 := by
    rcases Nat.eq_zero_or_pos m2 with q | q
    · subst q; cases h0
    · exact q
  have hB : 0 < m2 * 2 ^ x2 := Nat.mul_pos hm2 (Nat.pow_pos (by omega))
  cases h1 : Nat.beq m1 0 <;> rw [h1] at h
  · rw [bc_false, force_eq, force_eq] at h
    obtain ⟨h2, h⟩ := ble_or h
    have h2 : k.format.fractionBits + 2 + x2 ≤ x1 + pF k := h2
    have eD : Nat.shiftLeft m1 (Nat.add k.format.fractionBits 2) = m1 * 2 ^ (k.format.fractionBits + 2) := Nat.shiftLeft_eq _ _
    rw [eD] at h
    generalize hD : m1 * 2 ^ (k.format.fractionBits + 2) = D at h
    have hsr : Nat.shiftRight (Nat.div D m2) k.format.fractionBits = D / m2 / 2 ^ k.format.fractionBits := Nat.shiftRight_eq_div_pow _ _
    cases h3 : Nat.beq (Nat.shiftRight (Nat.div D m2) k.format.fractionBits) 0 <;> rw [h3] at h
    case true => cases h
    rw [bc_false] at h
    have hq : 2 ^ k.format.fractionBits ≤ D / m2 := by
      rcases Nat.lt_or_ge (D / m2) (2 ^ k.format.fractionBits) with q | q
      · rw [hsr, Nat.div_eq_of_lt q] at h3; cases h3
      · exact q
    have h4 := seek_spec _ _ h
    rw [force_eq, cutK_eq, force_eq] at h4
    obtain ⟨h5, h6⟩ := ble_or h4
    have hq0 : D / m2 ≠ 0 := by
      have := Nat.pow_pos (n := k.format.fractionBits) (show 0 < 2 by omega)
      omega
    have hlq : k.format.fractionBits ≤ (D / m2).log2 := (Nat.le_log2 hq0).2 hq
    have hlo := Nat.log2_self_le hq0
    have hhi : D / m2 < 2 ^ ((D / m2).log2 + 1) := Nat.lt_log2_self
    have hDn1 : m2 * (D / m2) ≤ D := Nat.mul_div_le D m2
    have hDn2 : D < m2 * (D / m2 + 1) := by
      have h1 := Nat.div_add_mod D m2
      have h2 := Nat.mod_lt D hm2
      rw [Nat.mul_add, Nat.mul_one]
      omega
    obtain ⟨x, hxx⟩ : ∃ x, x = x1 + pF k - (k.format.fractionBits + 2 + x2) := ⟨_, rfl⟩
    have hl : (D * 2 ^ x / m2).log2 = (D / m2).log2 + x := by
      have hp : 0 < 2 ^ x := Nat.pow_pos (by omega)
      refine log2_is ((Nat.le_div_iff_mul_le hm2).2 ?_) ((Nat.div_lt_iff_lt_mul hm2).2 ?_)
      · rw [Nat.pow_add, Nat.mul_right_comm]
        refine Nat.mul_le_mul_right _ ?_
        have := Nat.mul_le_mul_left m2 hlo
        rw [Nat.mul_comm _ m2]
        omega
      · rw [Nat.add_right_comm, Nat.pow_add, Nat.mul_right_comm _ (2 ^ x)]
        refine Nat.mul_lt_mul_of_pos_right ?_ hp
        have := Nat.mul_le_mul_left m2 (show D / m2 + 1 ≤ 2 ^ ((D / m2).log2 + 1) from hhi)
        rw [Nat.mul_comm _ m2]
        omega
    have e : rndQ k.format.fractionBits (m1 * 2 ^ x1 * 2 ^ pF k) (m2 * 2 ^ x2) = cutQ D (Nat.shiftLeft m2 ((Nat.div D m2).log2 - k.format.fractionBits)) * 2 ^ (Nat.add (Nat.sub (Nat.add x1 (pF k)) (Nat.add (Nat.add k.format.fractionBits 2) x2)) ((Nat.div D m2).log2 - k.format.fractionBits)) := by
      have e1 : rndQ k.format.fractionBits (m1 * 2 ^ x1 * 2 ^ pF k) (m2 * 2 ^ x2) = rndQ k.format.fractionBits (D * 2 ^ x) m2 := by
        rw [Nat.mul_assoc, ← Nat.pow_add, ← hD, Nat.mul_assoc m1, ← Nat.pow_add, show rndQ k.format.fractionBits (m1 * 2 ^ (k.format.fractionBits + 2 + x)) m2 = rndQ k.format.fractionBits (m1 * 2 ^ (k.format.fractionBits + 2 + x)) (m2 * 2 ^ 0) by rw [Nat.pow_zero, Nat.mul_one]]
        exact rndQ_scale2 (by omega)
      rw [e1]
      unfold rndQ
      rw [hl, show (D / m2).log2 + x - k.format.fractionBits = (D / m2).log2 - k.format.fractionBits + x by omega, Nat.pow_add, ← Nat.mul_assoc m2, cutQ_scale, ← Nat.pow_add, Nat.add_comm _ x, hxx]
      show cutQ D (m2 * 2 ^ ((D / m2).log2 - _)) * _ = cutQ D (m2 <<< ((D / m2).log2 - _)) * _
      rw [Nat.shiftLeft_eq]
      rfl
    have hlt : rndQ k.format.fractionBits (m1 * 2 ^ x1 * 2 ^ pF k) (m2 * 2 ^ x2) < capF k.format := by
      rw [e]
      refine Nat.lt_of_le_of_lt ?_ hC
      rw [Nat.pow_add 2 (k.format.fractionBits + 1) Z]
      refine Nat.mul_le_mul ?_ (Nat.pow_le_pow_right (n := 2) (Nat.succ_pos 1) h5)
      have hT : D ≤ 2 ^ (k.format.fractionBits + 1) * (m2 * 2 ^ ((D / m2).log2 - k.format.fractionBits)) := by
        have := Nat.mul_le_mul_left m2 (show D / m2 + 1 ≤ 2 ^ ((D / m2).log2 + 1) from hhi)
        rw [Nat.mul_left_comm, ← Nat.pow_add, show k.format.fractionBits + 1 + ((D / m2).log2 - k.format.fractionBits) = (D / m2).log2 + 1 by omega]
        omega
      show cutQ D (m2 <<< ((D / m2).log2 - _)) ≤ _
      rw [Nat.shiftLeft_eq]
      generalize m2 * 2 ^ ((D / m2).log2 - k.format.fractionBits) = E at hT
      have hE : 0 < E ∨ E = 0 := by omega
      unfold cutQ
      rcases hE with hE | hE
      · rcases Nat.lt_or_eq_of_le hT with q | q
        · have : D / E < 2 ^ (k.format.fractionBits + 1) := (Nat.div_lt_iff_lt_mul hE).2 q
          have h3 : ∀ b : Bool, b.toNat ≤ 1 := fun b => by cases b <;> decide
          exact Nat.le_trans (Nat.add_le_add_left (h3 _) _) this
        · rw [q, Nat.mul_div_cancel _ hE, Nat.mul_mod_left]
          have e1 : decide (E < 2 * 0) = false := decide_eq_false (by omega)
          have e2 : decide (E = 2 * 0) = false := decide_eq_false (by omega)
          rw [e1, e2]
          exact Nat.le_refl _
      · subst hE
        rw [Nat.mul_zero] at hT
        obtain rfl : D = 0 := by omega
        simp
    have := hx.quo hy hB hlt
    rw [e] at this
    exact ⟨_, _, _, this, h6⟩
  · have hz : m1 = 0 := Nat.eq_of_beq_eq_true h1
    subst hz
    have := hx.quo hy hB (by rw [Nat.zero_mul, Nat.zero_mul, rndQ_zero]; exact cap_pos k)
    rw [Nat.zero_mul, Nat.zero_mul, rndQ_zero] at this
    exact ⟨_, 0, 0, by rw [Nat.zero_mul]; exact this, h⟩
theorem sqrtK_spec {P Z : Nat} (hk : Fit .f64 52 P Z) (hx : V .f64 X (sgnI false (m1 * 2 ^ x1))) (h : sqrtK P Z m1 x1 K = true) : ∃ s m y, V .f64 (fsqrt X) (sgnI s (m * 2 ^ y)) ∧ K s m y = true := by
  obtain ⟨_, hP, hC⟩ := hk
  unfold sqrtK at h
  cases h0 : Nat.beq m1 0 <;> rw [h0] at h
  · rw [bc_false, force_eq] at h
    have hn1 : 0 < m1 := by
      rcases Nat.eq_zero_or_pos m1 with q | q
      · subst q; cases h0
      · exact q
    have ha : 0 < m1 * 2 ^ x1 := Nat.mul_pos hn1 (Nat.pow_pos (by omega))
    have hVs := fun w d g1 g2 g3 g4 => @V.sqrt X (m1 * 2 ^ x1) w d hx ha g1 g2 g3 g4
    rw [hP] at hVs
    generalize capF FloatKind.f64.format = C at *
    obtain ⟨d, hd, h1⟩ := seek4_some _ _ h
    rw [force_eq] at h1
    obtain ⟨w, h2⟩ := newt_some _ _ h1
    clear h h1
    have hd : 2 * d ≤ x1 + P := hd
    have hN : m1 * 2 ^ x1 * 2 ^ P = m1 * 2 ^ (x1 + P - 2 * d) * 2 ^ (2 * d) := by
      rw [Nat.mul_assoc, ← Nat.pow_add, Nat.mul_assoc, ← Nat.pow_add, show x1 + P - 2 * d + 2 * d = x1 + P by omega]
    rw [hN] at hVs
    have h2 : bc (Nat.ble lo53 w) (bc (Nat.ble hi53 w) false (bc (Nat.ble (Nat.mul w w) (m1 * 2 ^ (x1 + P - 2 * d))) (bc (Nat.ble (Nat.mul (Nat.succ w) (Nat.succ w)) (m1 * 2 ^ (x1 + P - 2 * d))) false
      (force (Nat.mul (Nat.succ (Nat.mul 2 w)) (Nat.succ (Nat.mul 2 w))) fun t => force (Nat.mul 4 (m1 * 2 ^ (x1 + P - 2 * d))) fun N4 => force (nc (Nat.ble N4 t) (nc (Nat.beq t N4) (Nat.add w (Nat.land w 1)) w) (Nat.succ w)) fun R => bc (Nat.ble d Z) (K false R d) false)) false)) false = true := h2
    generalize m1 * 2 ^ (x1 + P - 2 * d) = M at *
    obtain ⟨c1, h2⟩ := ble_or h2
    cases c2 : Nat.ble hi53 w <;> rw [c2] at h2
    case true => cases h2
    rw [bc_false] at h2
    obtain ⟨c3, h2⟩ := ble_or h2
    cases c4 : Nat.ble (Nat.mul (Nat.succ w) (Nat.succ w)) M <;> rw [c4] at h2
    case true => cases h2
    rw [bc_false, force_eq, force_eq, force_eq] at h2
    obtain ⟨c5, h2⟩ := ble_or h2
    have hp : 0 < 2 ^ (2 * d) := Nat.pow_pos (by omega)
    have g1 : w * w * 2 ^ (2 * d) ≤ M * 2 ^ (2 * d) := Nat.mul_le_mul_right _ c3
    have g2 : M * 2 ^ (2 * d) < (w + 1) * (w + 1) * 2 ^ (2 * d) := by
      refine Nat.mul_lt_mul_of_pos_right ?_ hp
      rcases Nat.lt_or_ge M ((w + 1) * (w + 1)) with q | q
      · exact q
      · have : Nat.ble (Nat.mul (Nat.succ w) (Nat.succ w)) M = true := Nat.ble_eq_true_of_le q
        rw [this] at c4; cases c4
    have g3 : 2 ^ 52 ≤ w := c1
    have g4 : w < 2 ^ 53 := by
      rcases Nat.lt_or_ge w (2 ^ 53) with q | q
      · exact q
      · have : Nat.ble hi53 w = true := Nat.ble_eq_true_of_le q
        rw [this] at c2; cases c2
    have eU : upS (M * 2 ^ (2 * d)) w d = upS M w 0 := by rw [upS_scale (Nat.le_refl d), Nat.sub_self]
    have eR : nc (Nat.ble (Nat.mul 4 M) (Nat.mul (Nat.succ (Nat.mul 2 w)) (Nat.succ (Nat.mul 2 w)))) (nc (Nat.beq (Nat.mul (Nat.succ (Nat.mul 2 w)) (Nat.succ (Nat.mul 2 w))) (Nat.mul 4 M)) (Nat.add w (Nat.land w 1)) w) (Nat.succ w) = w + upS M w 0 := by
      show nc (Nat.ble (4 * M) ((2 * w + 1) * (2 * w + 1))) (nc (Nat.beq ((2 * w + 1) * (2 * w + 1)) (4 * M)) (w + (w &&& 1)) w) (w + 1) = _
      rw [Nat.and_one_is_mod]
      unfold upS
      rw [Nat.mul_zero, Nat.pow_zero, Nat.mul_one]
      generalize (2 * w + 1) * (2 * w + 1) = t
      generalize 4 * M = F
      by_cases b1 : t < F
      · have : Nat.ble F t = false := by
          cases q : Nat.ble F t
          · rfl
          · have := Nat.le_of_ble_eq_true q; omega
        rw [this, decide_eq_true b1]
        rfl
      · rw [Nat.ble_eq_true_of_le (by omega), decide_eq_false b1, Bool.false_or]
        by_cases b2 : t = F
        · subst b2
          rw [show Nat.beq t t = true from by rw [Nat.beq_eq]]
          simp only [nc_true, decide_true, Bool.true_and]
          congr 1
          rcases Nat.mod_two_eq_zero_or_one w with q | q <;> rw [q] <;> rfl
        · have : Nat.beq t F = false := by
            cases q : Nat.beq t F
            · rfl
            · have := Nat.eq_of_beq_eq_true q; omega
          rw [this, decide_eq_false b2]
          simp [nc_true, nc_false]
    rw [eR] at h2
    have hlt : (w + upS (M * 2 ^ (2 * d)) w d) * 2 ^ d < C := by
      refine Nat.lt_of_le_of_lt ?_ hC
      rw [Nat.pow_add 2 (52 + 1) Z]
      refine Nat.mul_le_mul ?_ (Nat.pow_le_pow_right (n := 2) (Nat.succ_pos 1) c5)
      have h3 : ∀ b : Bool, b.toNat ≤ 1 := fun b => by cases b <;> decide
      have : upS (M * 2 ^ (2 * d)) w d ≤ 1 := h3 _
      have : (2 : Nat) ^ (52 + 1) = 2 ^ 53 := rfl
      omega
    have := hVs w d g1 g2 g3 g4 hlt
    rw [eU] at this
    exact ⟨_, _, _, this, h2⟩
  · have : m1 = 0 := Nat.eq_of_beq_eq_true h0
    subst this
    rw [Nat.zero_mul] at hx
    refine ⟨false, 0, 0, ?_, h⟩
    obtain ⟨s, m, i, e1, hi, ea⟩ := hx.out
    have hm : m = 0 := by
      have := congrArg Int.natAbs ea
      rw [sgnI_abs, sgnI_abs] at this
      rcases Nat.eq_zero_or_pos m with q | q
      · exact q
      · have := Nat.mul_pos q (Nat.pow_pos (n := (i - FloatKind.f64.format.leastPlace).toNat) (show 0 < 2 by omega))
        omega
    subst hm
    unfold fsqrt Ieee.Format.sqrt
    rw [e1]
    show V .f64 (FloatKind.f64.format.nearest s 0 i) _
    have := V.of_nearest (k := .f64) (neg := s) (mag := 0) (place := i) (R := 0) (by rw [Nat.zero_mul, rndQ_zero]) (cap_pos _)
    rw [sgnI_zero] at this
    rw [Nat.zero_mul, sgnI_zero]
    exact this
/-- Widened: 29 digits more, and 896 places. -/
theorem upK_spec (hx : V .f32 X (sgnI s1 (m1 * 2 ^ x1))) : V .f64 (fcvt .f32 .f64 X) (sgnI s1 (Nat.shiftLeft m1 29 * 2 ^ (Nat.add x1 896))) := by
  have := hx.cvt_up
  have e : sgnI s1 (m1 * 2 ^ x1) * ((2 ^ 925 : Nat) : Int) = sgnI s1 (Nat.shiftLeft m1 29 * 2 ^ (Nat.add x1 896)) := by
    show _ = sgnI s1 (m1 <<< 29 * 2 ^ (x1 + 896))
    obtain ⟨Q, hQ⟩ : ∃ Q : Nat, Q = 896 := ⟨_, rfl⟩
    obtain ⟨R, hR⟩ : ∃ R : Nat, R = 29 := ⟨_, rfl⟩
    rw [← hQ, ← hR, show 925 = R + Q by omega, Nat.shiftLeft_eq]
    have : m1 * 2 ^ R * 2 ^ (x1 + Q) = m1 * 2 ^ x1 * 2 ^ (R + Q) := by
      rw [Nat.mul_assoc, ← Nat.pow_add, Nat.mul_assoc, ← Nat.pow_add]
      congr 2
      omega
    rw [this]
    generalize m1 * 2 ^ x1 = A
    generalize (2 : Nat) ^ (R + Q) = T
    unfold sgnI
    cases s1 <;> simp [Int.neg_mul]
  rw [e] at this
  exact this
/-- Narrowed. -/
def downK (Y : Nat) (s : Bool) (m x : Nat) (K : KK) : Bool := bc (Nat.beq m 0) (K s 0 0) (bc (Nat.ble 925 x) (rnM 23 Y s m (Nat.sub x 925) 29 K) false)
theorem downK_spec {Z : Nat} (hC : 2 ^ (23 + 1 + Z) < capF FloatKind.f32.format) (hx : V .f64 X (sgnI s1 (m1 * 2 ^ x1))) (h : downK Z s1 m1 x1 K = true) : ∃ s m y, (V .f32 (fcvt .f64 .f32 X) (sgnI s (m * 2 ^ y)) ∧ fits .f64 .f32 X) ∧ K s m y = true := by
  unfold downK at h
  cases h0 : Nat.beq m1 0 <;> rw [h0] at h
  · rw [bc_false] at h
    obtain ⟨h1, h⟩ := ble_or h
    obtain ⟨m, y, q0, q1, q2⟩ := rnM_spec hC h
    have e : rndQ 23 (m1 * 2 ^ x1) (2 ^ 925) = m * 2 ^ y := by
      rw [← q0]
      obtain ⟨Q, hQ⟩ : ∃ Q : Nat, Q = 925 := ⟨_, rfl⟩
      rw [← hQ] at h1 ⊢
      rw [show (2 : Nat) ^ Q = 1 * 2 ^ Q by rw [Nat.one_mul], show rndQ 23 (m1 * 2 ^ Nat.sub x1 Q) 1 = rndQ 23 (m1 * 2 ^ (x1 - Q)) (1 * 2 ^ 0) from rfl]
      exact rndQ_scale2 (by omega)
    have := hx.cvt_down (by rw [sgnI_abs, e]; exact q1)
    rw [rndZ_sgn, e] at this
    exact ⟨_, _, _, this, q2⟩
  · rw [bc_true] at h
    obtain rfl : m1 = 0 := Nat.eq_of_beq_eq_true h0
    have := hx.cvt_down (by rw [sgnI_abs, Nat.zero_mul, rndQ_zero]; exact cap_pos _)
    rw [rndZ_sgn, Nat.zero_mul, rndQ_zero] at this
    exact ⟨_, 0, 0, by rw [Nat.zero_mul]; exact this, h⟩
end
end Go.Proofs.Ytejpamlaacffaaa
