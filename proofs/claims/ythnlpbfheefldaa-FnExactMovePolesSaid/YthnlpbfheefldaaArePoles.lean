/-
  ArePoles returns what the reference's returns, for all arguments. Conditions: none.
-/
import Derived.Test.YthnlpbfheefldaaPoleS
import Derived.Test.YthnlpbfheefldaaOpen
namespace Go.Proofs.Ythnlpbfheefldaa
open Go Go.RowKit

def arePolesB (n : Nat) : Bool := decide (n ≤ 24)

theorem implArePoles {n c : Nat} {A : Option Addr} (w : World) (hn : n ≤ maxLen) : Calls Try.prog 28 #[.slice A n c] w fun e w' => e = .returned (.bool (arePolesB n)) ∧ w = w' := by
  unfold maxLen at hn
  go_enter Try.func28, Try.ntmps28
  go_wp2
  go_ret
  exact ⟨by simp [arePolesB]; omega, rfl⟩
theorem specL05Poles {n c : Nat} {A : Option Addr} (w : World) (hn : n ≤ maxLen) : Calls Try.prog 65 #[.slice A n c] w fun e w' => e = .returned (.bool (arePolesB n)) ∧ w = w' := by
  unfold maxLen at hn
  go_enter Try.func65, Try.ntmps65
  go_wp2
  go_ret
  exact ⟨by simp [arePolesB]; omega, rfl⟩
theorem specArePoles {n c : Nat} {A : Option Addr} (w : World) (hn : n ≤ maxLen) : Calls Try.prog 26 #[.slice A n c] w fun e w' => e = .returned (.bool (arePolesB n)) ∧ w = w' := by
  go_enter Try.func26, Try.ntmps26
  go_wp2_with (go_at_call 65; refine (specL05Poles _ hn).mono ?_; rintro e w' ⟨rfl, rfl⟩)
  go_ret
  exact ⟨rfl, rfl⟩

theorem implArePoles_yes {n c : Nat} {A : Option Addr} (w : World) (hn : n ≤ 24) : Calls Try.prog 28 #[.slice A n c] w fun e w' => e = .returned (.bool true) ∧ w = w' :=
  (implArePoles w (by simp [maxLen]; omega)).mono fun _ _ ⟨h1, h2⟩ => ⟨by rw [h1]; simp [arePolesB, hn], h2⟩
theorem implArePoles_no {n c : Nat} {A : Option Addr} (w : World) (hm : n ≤ 1048576) (hn : ¬ n ≤ 24) : Calls Try.prog 28 #[.slice A n c] w fun e w' => e = .returned (.bool false) ∧ w = w' :=
  (implArePoles w (by simp [maxLen]; omega)).mono fun _ _ ⟨h1, h2⟩ => ⟨by rw [h1]; simp [arePolesB, hn], h2⟩
theorem specL05Poles_yes {n c : Nat} {A : Option Addr} (w : World) (hn : n ≤ 24) : Calls Try.prog 65 #[.slice A n c] w fun e w' => e = .returned (.bool true) ∧ w = w' :=
  (specL05Poles w (by simp [maxLen]; omega)).mono fun _ _ ⟨h1, h2⟩ => ⟨by rw [h1]; simp [arePolesB, hn], h2⟩
theorem specL05Poles_no {n c : Nat} {A : Option Addr} (w : World) (hm : n ≤ 1048576) (hn : ¬ n ≤ 24) : Calls Try.prog 65 #[.slice A n c] w fun e w' => e = .returned (.bool false) ∧ w = w' :=
  (specL05Poles w (by simp [maxLen]; omega)).mono fun _ _ ⟨h1, h2⟩ => ⟨by rw [h1]; simp [arePolesB, hn], h2⟩

set_option maxHeartbeats 1000000 in
theorem lawArePoles {A : Option Addr} {n c : Nat} {X : List Nat} (w : World) (h0 : Rd w w.heap.size 4 A n X) (hm : n ≤ maxLen) : Calls Try.prog 5 #[.slice A n c] w (RetB true w) := by
  by_cases hn : n ≤ 1048576
  · go_enter Try.func5, Try.ntmps5
    go_wp2_with (go_at_call 25; refine (lawsSzPoleS _ (by omega) (by omega) hm (by omega)).mono ?_; rintro e w' ⟨rfl, rfl⟩)
    refine (lawsToPoleS _ h0 hn).mono ?_
    rintro e w1 ⟨_, rfl, o1, hb1⟩
    obtain ⟨A1, c1, rfl, _, hc1, r1⟩ := o1.shape
    have hz1 := hb1.size
    go_wp2_with (go_at_call 26; refine (specArePoles _ hm).mono ?_; rintro e w' ⟨rfl, rfl⟩)
    refine (lawsToPoleS _ (Rd.more (Rd.below h0 (by (repeat (first | with_reducible exact Below.refl _ _ | with_reducible refine below_drewN ?_ _ | with_reducible refine Below.drew ?_ | with_reducible refine Below.alloc ?_ (by first | (simp; done) | omega | (simp; omega)) _ | with_reducible refine Below.setCell ?_ (by first | (simp; done) | omega | (simp; omega)) _ | with_reducible refine Below.trans ?_ (Below.mono (by assumption) (by first | (simp; done) | omega | (simp; omega)))))) (Nat.le_refl _)) (by first | (simp; done) | omega | (simp; omega))) hn).mono ?_
    rintro e w2 ⟨_, rfl, o2, hb2⟩
    obtain ⟨A2, c2, rfl, _, hc2, r2⟩ := o2.shape
    have hz2 := hb2.size
    go_wp2_with (go_at_call 28; refine (implArePoles _ hm).mono ?_; rintro e w' ⟨rfl, rfl⟩)
    refine (lawsToPoleS _ (Rd.more (Rd.below h0 (by (repeat (first | with_reducible exact Below.refl _ _ | with_reducible refine below_drewN ?_ _ | with_reducible refine Below.drew ?_ | with_reducible refine Below.alloc ?_ (by first | (simp; done) | omega | (simp; omega)) _ | with_reducible refine Below.setCell ?_ (by first | (simp; done) | omega | (simp; omega)) _ | with_reducible refine Below.trans ?_ (Below.mono (by assumption) (by first | (simp; done) | omega | (simp; omega)))))) (Nat.le_refl _)) (by first | (simp; done) | omega | (simp; omega))) hn).mono ?_
    rintro e w3 ⟨_, rfl, o3, hb3⟩
    obtain ⟨A3, c3, rfl, _, hc3, r3⟩ := o3.shape
    have hz3 := hb3.size
    go_wp2_with fail
    refine (lawsEqPoleS _ (Rd.more (Rd.below r2 (by (repeat (first | with_reducible exact Below.refl _ _ | with_reducible refine below_drewN ?_ _ | with_reducible refine Below.drew ?_ | with_reducible refine Below.alloc ?_ (by first | (simp; done) | omega | (simp; omega)) _ | with_reducible refine Below.setCell ?_ (by first | (simp; done) | omega | (simp; omega)) _ | with_reducible refine Below.trans ?_ (Below.mono (by assumption) (by first | (simp; done) | omega | (simp; omega)))))) (Nat.le_refl _)) (by first | (simp; done) | omega | (simp; omega))) (Rd.more (Rd.below r3 (by (repeat (first | with_reducible exact Below.refl _ _ | with_reducible refine below_drewN ?_ _ | with_reducible refine Below.drew ?_ | with_reducible refine Below.alloc ?_ (by first | (simp; done) | omega | (simp; omega)) _ | with_reducible refine Below.setCell ?_ (by first | (simp; done) | omega | (simp; omega)) _ | with_reducible refine Below.trans ?_ (Below.mono (by assumption) (by first | (simp; done) | omega | (simp; omega)))))) (Nat.le_refl _)) (by first | (simp; done) | omega | (simp; omega))) hm).mono ?_
    rintro e w4 ⟨rfl, hb4⟩
    have hz4 := hb4.size
    go_wp2_with fail
    go_ret
    exact ⟨rfl, by (repeat (first | with_reducible exact Below.refl _ _ | with_reducible refine below_drewN ?_ _ | with_reducible refine Below.drew ?_ | with_reducible refine Below.alloc ?_ (by first | (simp; done) | omega | (simp; omega)) _ | with_reducible refine Below.setCell ?_ (by first | (simp; done) | omega | (simp; omega)) _ | with_reducible refine Below.trans ?_ (Below.mono (by assumption) (by first | (simp; done) | omega | (simp; omega)))))⟩
  · go_enter Try.func5, Try.ntmps5
    go_wp2_with (go_at_call 25; refine (lawsSzPoleS_no _ (by omega) (by omega) hm (by omega)).mono ?_; rintro e w' ⟨rfl, rfl⟩)
    go_ret
    exact ⟨rfl, Below.refl _ _⟩

end Go.Proofs.Ythnlpbfheefldaa
