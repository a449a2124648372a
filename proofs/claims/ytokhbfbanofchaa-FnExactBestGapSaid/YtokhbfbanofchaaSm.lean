/-
  Whether numbers and vectors are the same, on both sides: contracts. Conditions: none.
-/
import Derived.Test.YtokhbfbanofchaaSn
import Derived.Test.YtokhbfbanofchaaCon
import Derived.Test.YtokhbfbanofchaaBr
import Derived.Test.YtokhbfbanofchaaSu
import Derived.Laws.Externs
namespace Go.Proofs.Ytokhbfbanofchaa
open Go Go.RowKit

theorem bits_eq {k : FloatKind} {X b : Nat} (h : Fb k X b) (nx : isNan k X = false) : b = X := by
  have h2 := h.can
  unfold Go.Proofs.Ytokhbfbanofchaa.can at h2
  split at h2
  · rw [← h2, isNan_nanOf] at nx
    cases nx
  · exact h2
/-- What is known of canonical bits. -/
structure CanF (k : FloatKind) (X : Nat) : Prop where
  lt : isNan k X = false → X < 2 ^ k.format.width
  nan : isNan k X = true → X = nanOf k
section
variable {P : Program} {w0 : World} {s : AS} {o : Oper} {Q : Exit → Act → World → Prop}
theorem ev_bits {f : FuncId} {k : FloatKind} {q : IntKind} {x : Operand} {X : Nat} {ts : Array TypeId} (hrun : ∀ b w, (callFunc f #[.float k b]).run P w = .ok (.value (.int q (b : Int))) w) (ho : o.op = .call { callee := .value (.func f), args := #[x], argTypes := ts }) (hx : OpF s x k X) (nx : isNan k X = false) : Ev P s o (vv (.int q (X : Int))) := by
  refine ⟨fun w0 a w hs => ?_⟩
  obtain ⟨b, e, hb⟩ := hx w0 a w hs
  have := bits_eq hb nx
  subst this
  have hr : (execOp a.eval o).run P w = .ok (.value (.int q (b : Int))) w := by
    simp only [execOp, ho, resolve, Sem.run_bind, List.map_toArray, List.map_cons, List.map_nil, e, invoke]
    simp only [Act.eval, Deferred.ofValue, Sem.run_pure, Result.andThen_ok, Array.empty_append, Array.append_empty]
    exact hrun b w
  rw [hr]
  exact .of_val rfl
end
theorem run_bits64 (b : Nat) (w : World) : (callFunc 149 #[.float .f64 b]).run Try.prog w = .ok (.value (.int .u64 (b : Int))) w := by
  rw [run_callFunc_extern (e := Extern.MathFloatBits.float64bits) Try.func149 (by decide) (by kernel_rfl) (by kernel_rfl) (by kernel_rfl)]
  rfl
def sameB (X Y : Nat) : Bool := decide (X = Y)
def sameV (A B : V3) : Bool := sameB A.x B.x && (sameB A.y B.y && sameB A.z B.z)
def bitsI (X : Nat) : Int := if isNan .f32 X = true then 2143289344 else (X : Int)
end Go.Proofs.Ytokhbfbanofchaa
