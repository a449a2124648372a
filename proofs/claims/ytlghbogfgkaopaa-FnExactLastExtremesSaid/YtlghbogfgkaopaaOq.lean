/-
  Slices of floats opened. Conditions: none.
-/
import Derived.Test.YtlghbogfgkaopaaOp
import Derived.Test.YtlghbogfgkaopaaFs
namespace Go.Proofs.Ytlghbogfgkaopaa
open Go Go.RowKit Go.ChangeShapes Go.WideShapes

theorem flat_floL {X : List Nat} {n : Nat} (h : X.length = n * 1) : Flat 1 n (floC fun k => X.getD (k * 1) 0) X := ⟨by omega, h, fun k hk => ⟨rfl, fun r hr => by
  match r, hr with
  | 0, _ => exact ⟨_, rfl, getD_some (by omega)⟩⟩⟩
section
variable {H : Type} {enc : TypeId × Value → H} {w : World} {base : Nat} {spare : Nat → Bool} {held : Bool} {r : Reach} {b0 : Nat} {v : Value} {d : DataW H} {p : List MemPlace}
theorem openFloR (hv : Value.okWide Try.prog w r b0 22 v) (h : DataW.Trod enc Try.prog w base spare held 22 v d p) : ∃ n F, (rs 1 n (floC F)).R w v ∧ n ≤ maxLen := by
  obtain ⟨A, n, c, X, rfl, hc, hr, hn⟩ := openRow Try.underlying22 (s := 1) (by kernel_rfl) (by omega) (fun hf => by
    obtain ⟨b, rfl, hb⟩ := trodF Try.underlying23 hf
    exact ⟨[b], rfl, rfl, fun j hj => by match j, hj with | 0, _ => exact hb⟩) hv h
  exact ⟨n, _, rs_of_Rd (flat_floL hr.len) hr hc, hn⟩
end
end Go.Proofs.Ytlghbogfgkaopaa
