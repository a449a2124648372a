/-
  Lists of wires: sizes, copies, comparisons of the laws. Conditions: none.
-/
import Derived.Test.YtokhbfbanofchaaLw
import Derived.Test.YtokhbfbanofchaaMk
import Derived.Test.YtokhbfbanofchaaRh
import Derived.Test.YtokhbfbanofchaaSu
namespace Go.Proofs.Ytokhbfbanofchaa
open Go Go.RowKit

section
variable {P : Program} {w0 : World} {s : AS}
end
/-- The frozen blocks: of the call's own, all but g. -/
def Fz (w0 w1 : World) (g x : Nat) : Prop := w0.heap.size ≤ x ∧ x < w1.heap.size ∧ x ≠ g
theorem rs_pure {w0 w : World} {v : Value} {T size n : Nat} {c : Nat → List AV} (hp : ∀ k, (c k).all (·.p) = true) (h : (HE.row v T size n c).ok w0 w) (hl : ∀ g, v.ownBlock = some g → g < w.heap.size) : (rs size n c).R w v := by
  obtain ⟨xs, ⟨hlen, h1⟩, h2, h3⟩ := h
  rcases h1 with ⟨rfl, rfl⟩ | ⟨g, cap, cur, rfl, hg, hh, hnc, hcm, hcs, ht⟩
  · exact ⟨none, 0, rfl, Nat.le_refl _, fun h0 => absurd h0 (by omega)⟩
  · refine ⟨_, cap, rfl, hnc, fun _ => ⟨g, 0, rfl, fun k hk => ⟨hl g rfl, fun j A hj => ?_⟩⟩⟩
    obtain ⟨u, hu, hr⟩ := (h2 k hk).get hj
    refine ⟨u, ?_, A.pure (List.all_eq_true.1 (hp k) A (List.mem_of_getElem? hj)) hr, h3 u (List.mem_of_mem_drop (List.mem_of_mem_take (List.mem_of_getElem? hu)))⟩
    rw [List.getElem?_take] at hu
    split at hu
    · rename_i hj2
      rw [List.getElem?_drop, ← ht, List.getElem?_take] at hu
      split at hu
      · rw [Nat.zero_add, cell_of_row w g _ cur T (0, 0) hh, ← Array.getElem?_toList]
        exact hu
      · cases hu
    · cases hu
/-- A wire. -/
structure WI where
  m : Nat
  F : Nat → V3
  c : Bool
  X : Nat
def wireC (W : Nat → WI) (k : Nat) : List AV := [rs 3 (W k).m (vecC (W k).F), vv (.bool (W k).c), fl .f32 (W k).X]
def wireV (sv : Nat → Value) (W : Nat → WI) (k : Nat) : List AV := [vv (sv k), vv (.bool (W k).c), fl .f32 (W k).X]
def sumM (W : Nat → WI) : Nat → Nat
  | 0 => 0
  | k + 1 => sumM W k + (W k).m
theorem rs_wires {w : World} {v : Value} {n : Nat} {sv : Nat → Value} {W : Nat → WI} (h : (rs 3 n (wireV sv W)).R w v) (hi : ∀ k, k < n → (rs 3 (W k).m (vecC (W k).F)).R w (sv k)) : (rs 3 n (wireC W)).R w v := by
  obtain ⟨a, cap, e, hn, h⟩ := h
  refine ⟨a, cap, e, hn, fun h0 => ?_⟩
  obtain ⟨b, p, e2, h2⟩ := h h0
  refine ⟨b, p, e2, fun k hk => ⟨(h2 k hk).1, fun j A hj => ?_⟩⟩
  match j, hj with
  | 0, hj =>
    obtain ⟨u, hu, hr, h1⟩ := (h2 k hk).2 0 (vv (sv k)) rfl
    obtain rfl : u = sv k := hr
    obtain rfl : rs 3 (W k).m (vecC (W k).F) = A := by simpa [wireC] using hj
    exact ⟨_, hu, hi k hk, h1⟩
  | 1, hj => exact (h2 k hk).2 1 A hj
  | 2, hj => exact (h2 k hk).2 2 A hj
  | j + 3, hj => simp [wireC] at hj
def zeroW : List AV := [vv (.slice none 0 0), vv (.bool false), fl .f32 0]
def setV (sv : Nat → Value) (k : Nat) (v : Value) (j : Nat) : Value := if j = k then v else sv j
end Go.Proofs.Ytokhbfbanofchaa
