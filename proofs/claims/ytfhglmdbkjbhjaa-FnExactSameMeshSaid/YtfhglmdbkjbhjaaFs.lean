/-
  The helpers of the laws over slices of floats, in the abstract form. Conditions: none.
-/
import Derived.Test.YtfhglmdbkjbhjaaCon
import Derived.Test.YtfhglmdbkjbhjaaBr
import Derived.Test.YtfhglmdbkjbhjaaLw
import Derived.Test.YtfhglmdbkjbhjaaSu
import Derived.Test.YtfhglmdbkjbhjaaAn
namespace Go.Proofs.Ytfhglmdbkjbhjaa
open Go Go.RowKit

def floC (F : Nat → Nat) (k : Nat) : List AV := [fl .f32 (F k)]
def fillC (F : Nat → Nat) (k j : Nat) : List AV := if j < k then [fl .f32 (F j)] else [fl .f32 0]
theorem fillC_zero (F : Nat → Nat) : (fun _ : Nat => [fl .f32 0]) = fillC F 0 := funext fun j => (if_neg (Nat.not_lt_zero j)).symm
theorem fillC_other {F : Nat → Nat} {k : Nat} : ∀ j, j ≠ k → fillC F (k + 1) j = fillC F k j := fun j hj => by
  unfold fillC
  by_cases h : j < k
  · rw [if_pos h, if_pos (by omega)]
  · rw [if_neg h, if_neg (by omega)]

end Go.Proofs.Ytfhglmdbkjbhjaa
