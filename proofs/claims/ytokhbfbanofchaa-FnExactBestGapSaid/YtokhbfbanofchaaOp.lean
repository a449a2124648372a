/-
  Arguments opened, in the abstract form. Conditions: none.
-/
import Derived.Test.YtokhbfbanofchaaOpen
import Derived.Test.YtokhbfbanofchaaBr
namespace Go.Proofs.Ytokhbfbanofchaa
open Go Go.RowKit Go.ChangeShapes Go.WideShapes
set_option maxRecDepth 100000

section
variable {H : Type} {enc : TypeId × Value → H} {w : World} {base : Nat} {spare : Nat → Bool} {held : Bool} {r : Reach} {b0 : Nat} {v : Value} {d : DataW H} {p : List MemPlace}
/-- A slice of structs of floats. -/
theorem openRow {t e s : Nat} (ht : Try.prog.underlying t = some (.slice e)) (hC : Try.prog.cellsOf e = s) (hs : 0 < s)
    (hel : ∀ {fuel cs} {x : DataW H × List MemPlace}, DataW.trod enc Try.prog w base spare held fuel e cs = some x → ∃ L : List Nat, L.length = s ∧ cs = L.map (Value.float .f32) ∧ ∀ j, j < s → Fb .f32 (can .f32 (L.getD j 0)) (L.getD j 0))
    (hv : Value.okWide Try.prog w r b0 t v) (h : DataW.Trod enc Try.prog w base spare held t v d p) : ∃ A n c X, v = .slice A n c ∧ n ≤ c ∧ Rd w w.heap.size s A n X ∧ n ≤ maxLen := by
  obtain ⟨A, n, c, rfl⟩ := okWide_slice ht hv
  obtain ⟨fuel, hf⟩ := h
  rcases Go.Deep.open_slice ht hf with ⟨e, _⟩ | ⟨a, len, cap, m, n2, D, Pl, e, _, hl, hm, hmm, _, hx⟩
  · have e' : [Value.slice A n c] = _ := e
    injection e' with e1
    injection e1 with e2 e3 e4
    subst e2; subst e3; subst e4
    exact ⟨none, 0, 0, [], rfl, Nat.le_refl _, ⟨by simp, fun h => absurd h (by omega)⟩, by simp [maxLen]⟩
  · have e' : [Value.slice A n c] = _ := e
    injection e' with e1
    injection e1 with e2 e3 e4
    subst e2; subst e3; subst e4
    have hmn : n ≤ m := by rw [hmm]; split <;> omega
    obtain ⟨X, hX⟩ := list_of_cells (w := w) (a := a) n s (fun i hi => by
      obtain ⟨cs', h1, h2⟩ := hx i (by omega)
      rw [hC] at h1
      obtain ⟨_, hlen, hat⟩ := World.cells?_some h1
      obtain ⟨L, hL, rfl, hfb⟩ := hel h2
      refine ⟨L, hL, fun j hj => ⟨_, ?_, hfb j hj⟩⟩
      have := hat j hj
      rw [this]
      simp [hL, hj, List.getD_eq_getElem?_getD])
    exact ⟨some a, n, c, X, rfl, hl, rd_of_cells hs hX, by omega⟩

theorem openF32A (hv : Value.okWide Try.prog w r b0 22 v) (h : DataW.Trod enc Try.prog w base spare held 22 v d p) : ∃ X, (fl .f32 X).R w v := by
  obtain ⟨X, x, rfl, hx⟩ := openF32 hv h
  exact ⟨X, x, rfl, hx⟩
theorem openI64A (hv : Value.okWide Try.prog w r b0 2 v) (_ : DataW.Trod enc Try.prog w base spare held 2 v d p) : ∃ x, (vv (.int .i64 x)).R w v := by
  obtain ⟨x, rfl⟩ := okWide_int Try.underlying2 hv
  exact ⟨x, rfl⟩
end
end Go.Proofs.Ytokhbfbanofchaa
