/-
  Slices of floats opened. Conditions: none.
-/
import Derived.Test.YtokhbfbanofchaaOp
import Derived.Test.YtokhbfbanofchaaFs
namespace Go.Proofs.Ytokhbfbanofchaa
open Go Go.RowKit Go.ChangeShapes Go.WideShapes
set_option maxRecDepth 100000

theorem flat_floL {X : List Nat} {n : Nat} (h : X.length = n * 1) : Flat 1 n (floC fun k => X.getD (k * 1) 0) X := ⟨by omega, h, fun k hk => ⟨rfl, fun r hr => by
  match r, hr with
  | 0, _ => exact ⟨_, rfl, getD_some (by omega)⟩⟩⟩
section
variable {H : Type} {enc : TypeId × Value → H} {w : World} {base : Nat} {spare : Nat → Bool} {held : Bool} {r : Reach} {b0 : Nat} {v : Value} {d : DataW H} {p : List MemPlace}
theorem openFloR (hv : Value.okWide Try.prog w r b0 63 v) (h : DataW.Trod enc Try.prog w base spare held 63 v d p) : ∃ n F, (rs 1 n (floC F)).R w v ∧ n ≤ maxLen := by
  obtain ⟨A, n, c, X, rfl, hc, hr, hn⟩ := openRow Try.underlying63 (s := 1) (by kernel_rfl) (by omega) (fun hf => by
    obtain ⟨b, rfl, hb⟩ := trodF Try.underlying22 hf
    exact ⟨[b], rfl, rfl, fun j hj => by match j, hj with | 0, _ => exact hb⟩) hv h
  exact ⟨n, _, rs_of_Rd (flat_floL hr.len) hr hc, hn⟩
end
end Go.Proofs.Ytokhbfbanofchaa
