/-
  Slices of structs of floats: from the flat readings to the abstract ones and back. Conditions: none.
-/
import Derived.Test.YtjkpnnbahhlopaaSt
import Derived.Test.YtjkpnnbahhlopaaApp
namespace Go.Proofs.Ytjkpnnbahhlopaa
open Go Go.RowKit

def poleC (X : Nat → P4) (k : Nat) : List AV := [fl .f32 (X k).at_.x, fl .f32 (X k).at_.y, fl .f32 (X k).at_.z, fl .f32 (X k).s]
def vecC (X : Nat → V3) (k : Nat) : List AV := [fl .f32 (X k).x, fl .f32 (X k).y, fl .f32 (X k).z]

theorem mapTo_len (F : Nat → V3) (n : Nat) : (mapTo F n).length = n * 3 := by
  induction n with
  | zero => rfl
  | succ n ih => rw [mapTo_succ, List.length_append, ih]; simp; omega
theorem mapTo_at (F : Nat → V3) {n k : Nat} (hk : k < n) : ∀ r, r < 3 → (mapTo F n)[k * 3 + r]? = [(F k).x, (F k).y, (F k).z][r]? := by
  induction n with
  | zero => omega
  | succ n ih =>
    intro r hr
    rw [mapTo_succ]
    by_cases h : k < n
    · rw [List.getElem?_append_left (by rw [mapTo_len]; omega)]
      exact ih h r hr
    · obtain rfl : k = n := by omega
      rw [List.getElem?_append_right (by rw [mapTo_len]; omega), mapTo_len]
      congr 1
      omega
theorem flat_vec (F : Nat → V3) (n : Nat) : Flat 3 n (vecC F) (mapTo F n) := ⟨by omega, mapTo_len F n, fun k hk => ⟨rfl, fun r hr => by
  rw [mapTo_at F hk r hr]
  match r, hr with
  | 0, _ => exact ⟨_, rfl, rfl⟩
  | 1, _ => exact ⟨_, rfl, rfl⟩
  | 2, _ => exact ⟨_, rfl, rfl⟩⟩⟩
end Go.Proofs.Ytjkpnnbahhlopaa
