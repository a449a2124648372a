/-
  Meshes and wires opened. Conditions: none.
-/
import Derived.Test.YtokhbfbanofchaaOs
import Derived.Test.YtokhbfbanofchaaBB
namespace Go.Proofs.Ytokhbfbanofchaa
open Go Go.RowKit Go.ChangeShapes Go.WideShapes
set_option maxRecDepth 100000

section
variable {H : Type} {enc : TypeId × Value → H} {P : Program} {w : World} {base : Nat} {spare : Nat → Bool} {held : Bool}
theorem trod_fields {t : TypeId} {fs : Array Field} {fuel : Nat} {cs : List Value} {x : DataW H × List MemPlace} (hs : P.underlying t = some (.struct fs)) (h : DataW.trod enc P w base spare held fuel t cs = some x) :
    cs.length = P.cellsOf t ∧ ∀ {j : Nat} {fd : Field} {f o s : Nat}, fs[j]? = some fd → fd.type = f → fd.offset = o → P.cellsOf f = s → ∃ n y, DataW.trod enc P w base spare held n f ((cs.drop o).take s) = some y := by
  obtain ⟨xs, n, _, _, hl, hlen, hg⟩ := DataW.trod_struct hs h
  refine ⟨hl, fun {j fd f o s} hj ht ho hc => ?_⟩
  have hj2 : j < xs.length := by
    have := (Array.getElem?_eq_some_iff.1 hj).1
    rw [hlen]; simpa using this
  have := hg j fd (by simpa using hj)
  subst ht; subst ho; subst hc
  exact ⟨n, xs[j], this.trans (List.getElem?_eq_getElem hj2)⟩
end
section
variable {H : Type} {enc : TypeId × Value → H} {w : World} {base : Nat} {spare : Nat → Bool} {held : Bool} {r : Reach} {b0 : Nat} {v : Value} {d : DataW H} {p : List MemPlace}
theorem cells_VecL : Opens enc Try.prog w base spare held 24 3 fun l => ∃ A : V3, l = [fl .f32 A.x, fl .f32 A.y, fl .f32 A.z] := by
  intro fuel cs x hf
  obtain ⟨a, b, c, rfl, ha, hb, hc⟩ := trodVec hf
  exact ⟨_, rfl, ⟨⟨can .f32 a, can .f32 b, can .f32 c⟩, rfl⟩, ⟨⟨a, rfl, ha⟩, ⟨b, rfl, hb⟩, ⟨c, rfl, hc⟩, trivial⟩, fun u hu => by simp at hu; rcases hu with rfl | rfl | rfl <;> rfl⟩
end
end Go.Proofs.Ytokhbfbanofchaa
