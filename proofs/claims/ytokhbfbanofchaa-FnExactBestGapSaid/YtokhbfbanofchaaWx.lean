/-
  Energies and torques of moments in fields of wires, on both sides: contracts. Conditions: none.
-/
import Derived.Test.YtokhbfbanofchaaWv
import Derived.Test.YtokhbfbanofchaaFn
import Derived.Test.YtokhbfbanofchaaSu
import Derived.Test.YtokhbfbanofchaaAq
namespace Go.Proofs.Ytokhbfbanofchaa
open Go Go.RowKit

theorem okW_len {W : WI} (h : okW W = true) : 2 ≤ W.m ∧ W.m ≤ 48 := by
  unfold okW at h
  rw [Bool.and_eq_true, Bool.and_eq_true, Bool.and_eq_true] at h
  have h1 := of_decide_eq_true h.1.1.1
  have h2 := of_decide_eq_true h.1.1.2
  omega
theorem okWs_len {n : Nat} {W : Nat → WI} (h : okWs W n = true) : n ≤ 8 ∧ ∀ k, k < n → 2 ≤ (W k).m ∧ (W k).m ≤ 48 := by
  unfold okWs at h
  rw [Bool.and_eq_true] at h
  refine ⟨by have := of_decide_eq_true h.1; omega, fun k hk => okW_len ?_⟩
  have h2 : anyB (fun k => !okW (W k)) n = false := by simpa using h.2
  have := any_false h2 k hk
  simpa using this
/-- A number that is given back if it is finite and the arguments are valid. -/
def outX (b : Bool) (X : Nat) : Nat := if (b && finB X) = true then X else 0
def outV (b : Bool) (A : V3) : V3 := if (b && finV A) = true then A else ⟨0, 0, 0⟩
/-- What both sides give for a number, a vector. -/
def giveX (b : Bool) (X : Nat) : AV := tup [fl .f32 (outX b X), vv (.bool (b && finB X))]
def giveV (b : Bool) (A : V3) : AV := tup [vec (outV b A), vv (.bool (b && finV A))]
def mB (M : V3) (W : Nat → WI) (n : Nat) (t : V3) : Bool := finV M && (okWs W n && finV t)
def eneX (M : V3) (W : Nat → WI) (n : Nat) (t : V3) : Nat := fneg .f32 (innerV M (sumF W t n))
end Go.Proofs.Ytokhbfbanofchaa
