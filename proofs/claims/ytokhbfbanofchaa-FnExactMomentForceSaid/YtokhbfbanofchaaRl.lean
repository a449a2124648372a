/-
  Helpers of the laws over slices of bools and of relays: copies, comparisons, marks. Conditions: none.
-/
import Derived.Test.YtokhbfbanofchaaMk
namespace Go.Proofs.Ytokhbfbanofchaa
open Go Go.RowKit

section
variable {P : Program} {w0 : World} {ops : Array Oper} {Q : Exit → Act → World → Prop}
theorem aops_rowlen {s : AS} {l : List Oper} {v : Value} {T size n k : Nat} {c : Nat → List AV} (hm : HE.row v T size n c ∈ s.heap) (hk : k < n) (kk : (c k).length = size → AOps P w0 ops s l Q) : AOps P w0 ops s l Q := by
  refine ⟨fun a w hs => (kk ?_).out a w hs⟩
  obtain ⟨xs, ⟨hl, _⟩, h2, _⟩ := hs.heap.get _ hm
  have := (h2 k hk).length
  have h3 : (k + 1) * size ≤ n * size := Nat.mul_le_mul_right _ hk
  rw [Nat.add_mul, Nat.one_mul] at h3
  simp at this
  omega
end

/-- An element in place of another. -/
def updC (c : Nat → List AV) (k : Nat) (l : List AV) (j : Nat) : List AV := if j = k then l else c j
theorem updC_at {c : Nat → List AV} {k : Nat} {l : List AV} : updC c k l k = l := if_pos rfl
theorem updC_other {c : Nat → List AV} {k : Nat} {l : List AV} : ∀ j, j ≠ k → updC c k l j = c j := fun _ h => if_neg h
theorem splice3 {l : List AV} (h : l.length = 3) (a b d : AV) : splice (splice (splice l 0 [a]) 1 [b]) 2 [d] = [a, b, d] := by
  match l, h with
  | [_, _, _], _ => rfl
theorem mix_upd3 {a c : Nat → List AV} {k : Nat} {x y z : AV} (h : (c k).length = 3) (ha : a k = [x, y, z]) : ∀ j, mixC a c (k + 1) j = updC (updC (updC (mixC a c k) k (splice (c k) 0 [x])) k (splice (splice (c k) 0 [x]) 1 [y])) k (splice (splice (splice (c k) 0 [x]) 1 [y]) 2 [z]) j := fun j => by
  by_cases hj : j = k
  · subst hj
    rw [updC_at, splice3 h, mixC_at, ha]
  · rw [updC_other j hj, updC_other j hj, updC_other j hj, mixC_other j hj]

def zero3 : List AV := [fl .f32 0, fl .f32 0, fl .f32 0]
end Go.Proofs.Ytokhbfbanofchaa
