/-
  Meshes: copies, comparisons, marks; whether one is valid, on both sides: contracts. Conditions: none.
-/
import Derived.Test.YtokhbfbanofchaaFv
import Derived.Test.YtokhbfbanofchaaLw
import Derived.Test.YtokhbfbanofchaaRl
import Derived.Test.YtokhbfbanofchaaSu
namespace Go.Proofs.Ytokhbfbanofchaa
open Go Go.RowKit

section
variable {P : Program} {w0 : World} {s : AS}
theorem aex_ret1_rowG {fn : Func} {r : ResultVar} {v : Value} {T size n : Nat} {c : Nat → List AV} {mk : Value → AV} (hf : fn.results = #[r]) (h : ResV P s r (mk v)) (hp : (mk v).p = true) (hm : HE.row v T size n c ∈ s.heap) : AEx w0 s .ret (bodyPost P fn (RetQ w0 (RetRow T size n c mk))) := by
  refine ⟨fun a w hs => ?_⟩
  obtain ⟨u, hr, hv⟩ := h w0 a w hs
  refine ⟨hs.defers, u, ?_, u, rfl, hs.below, v, hs.heap.get _ hm, fun g hg => hs.heap.foot _ hm g hg, fun _ => AV.pure _ hp hv⟩
  rw [results_eq, hf]
  simp [hr]
theorem aex_ret2_rowG {fn : Func} {r r' : ResultVar} {v : Value} {B : AV} {T size n : Nat} {c : Nat → List AV} {mk : Value → AV} (hf : fn.results = #[r, r']) (h : ResV P s r (mk v)) (hp : (mk v).p = true) (h' : ResV P s r' B) (hp' : B.p = true) (hm : HE.row v T size n c ∈ s.heap) : AEx w0 s .ret (bodyPost P fn (RetQ w0 (RetRow T size n c fun sv => tup [mk sv, B]))) := by
  refine ⟨fun a w hs => ?_⟩
  obtain ⟨u, hr, hv⟩ := h w0 a w hs
  obtain ⟨v', hr', hv'⟩ := h' w0 a w hs
  refine ⟨hs.defers, .tuple #[u, v'], ?_, _, rfl, hs.below, v, hs.heap.get _ hm, fun g hg => hs.heap.foot _ hm g hg, fun wx => ⟨[u, v'], rfl, AV.pure _ hp hv, B.pure hp' hv', trivial⟩⟩
  rw [results_eq, hf]
  simp [hr, hr']
end

def validB (M : MH) (n : Nat) : Bool := finV M.F && lengthB M.S && sizesB M.a M.b M.c && decide ((n : Int) = M.a * M.b * M.c)
end Go.Proofs.Ytokhbfbanofchaa
