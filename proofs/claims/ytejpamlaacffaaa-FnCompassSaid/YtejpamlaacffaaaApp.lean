/-
  Appending one element of floats to a slice of the call's own. Conditions: none.
-/
import Derived.Test.YtejpamlaacffaaaBA
import Derived.Maps.AppendAt
import Derived.OwnWalk
import Derived.Lib.Hide
namespace Go.Proofs.Ytejpamlaacffaaa
open Go Go.RowKit

section
variable {P : Program} (w : World)
end

/-- A list of vectors, laid out flat. -/
def flatV (l : List V3) : List Nat := l.flatMap fun v => [v.x, v.y, v.z]
/-- The k-th vector of a flat list. -/
def v3at (X : List Nat) (k : Nat) : V3 := ⟨X.getD (k * 3) 0, X.getD (k * 3 + 1) 0, X.getD (k * 3 + 2) 0⟩
/-- The first k of what f gives. -/
def mapTo (f : Nat → V3) (k : Nat) : List Nat := flatV ((List.range k).map f)
/-- A vector of a slice that is read, at place k. -/
theorem Rd.vec {w : World} {B n : Nat} {A : Option Addr} {X : List Nat} (h : Rd w B 3 A n X) {k : Nat} (hk : k < n) : ∃ b o x y z, A = some ⟨b, o, none⟩ ∧ b < B ∧
    w.cell? ⟨b, o + k * 3, none⟩ = some (.float .f32 x) ∧ w.cell? ⟨b, o + k * 3 + 1, none⟩ = some (.float .f32 y) ∧ w.cell? ⟨b, o + k * 3 + 2, none⟩ = some (.float .f32 z) ∧
    Fb .f32 (v3at X k).x x ∧ Fb .f32 (v3at X k).y y ∧ Fb .f32 (v3at X k).z z := by
  have hl := h.len
  obtain ⟨b, o, e, hb, hc⟩ := h.adr (by omega)
  have hd : ∀ j, j < X.length → X[j]? = some (X.getD j 0) := fun j hj => by
    rw [List.getD_eq_getElem?_getD, List.getElem?_eq_getElem hj]
    rfl
  obtain ⟨x, q0, f0⟩ := hc _ _ (hd (k * 3) (by omega))
  obtain ⟨y, q1, f1⟩ := hc _ _ (hd (k * 3 + 1) (by omega))
  obtain ⟨z, q2, f2⟩ := hc _ _ (hd (k * 3 + 2) (by omega))
  exact ⟨b, o, x, y, z, e, hb, q0, q1, q2, f0, f1, f2⟩

/-- The same for a list of poles. -/
structure P4 where
  at_ : V3
  s : Nat
def flatP (l : List P4) : List Nat := l.flatMap fun v => [v.at_.x, v.at_.y, v.at_.z, v.s]
def p4at (X : List Nat) (k : Nat) : P4 := ⟨⟨X.getD (k * 4) 0, X.getD (k * 4 + 1) 0, X.getD (k * 4 + 2) 0⟩, X.getD (k * 4 + 3) 0⟩
def mapToP (f : Nat → P4) (k : Nat) : List Nat := flatP ((List.range k).map f)
theorem Rd.pole {w : World} {B n : Nat} {A : Option Addr} {X : List Nat} (h : Rd w B 4 A n X) {k : Nat} (hk : k < n) : ∃ b o x y z s, A = some ⟨b, o, none⟩ ∧ b < B ∧
    w.cell? ⟨b, o + k * 4, none⟩ = some (.float .f32 x) ∧ w.cell? ⟨b, o + k * 4 + 1, none⟩ = some (.float .f32 y) ∧ w.cell? ⟨b, o + k * 4 + 2, none⟩ = some (.float .f32 z) ∧ w.cell? ⟨b, o + k * 4 + 3, none⟩ = some (.float .f32 s) ∧
    Fb .f32 (p4at X k).at_.x x ∧ Fb .f32 (p4at X k).at_.y y ∧ Fb .f32 (p4at X k).at_.z z ∧ Fb .f32 (p4at X k).s s := by
  have hl := h.len
  obtain ⟨b, o, e, hb, hc⟩ := h.adr (by omega)
  have hd : ∀ j, j < X.length → X[j]? = some (X.getD j 0) := fun j hj => by
    rw [List.getD_eq_getElem?_getD, List.getElem?_eq_getElem hj]
    rfl
  obtain ⟨x, q0, f0⟩ := hc _ _ (hd (k * 4) (by omega))
  obtain ⟨y, q1, f1⟩ := hc _ _ (hd (k * 4 + 1) (by omega))
  obtain ⟨z, q2, f2⟩ := hc _ _ (hd (k * 4 + 2) (by omega))
  obtain ⟨s, q3, f3⟩ := hc _ _ (hd (k * 4 + 3) (by omega))
  exact ⟨b, o, x, y, z, s, e, hb, q0, q1, q2, q3, f0, f1, f2, f3⟩

end Go.Proofs.Ytejpamlaacffaaa
