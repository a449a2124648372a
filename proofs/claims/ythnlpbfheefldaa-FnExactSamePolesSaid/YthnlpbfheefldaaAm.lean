/-
  Remainders of integers. Conditions: none.
-/
import Derived.Test.YthnlpbfheefldaaAl
namespace Go.Proofs.Ythnlpbfheefldaa
open Go Go.RowKit
section
variable {P : Program} {s : AS} {o : Oper}
theorem ev_irem64 {t t' : TypeId} {x y : Operand} {a b : Int} (ho : o.op = .binOp .rem t x y t') (hx : Opd s x (vv (.int .i64 a))) (hy : Opd s y (vv (.int .i64 b))) (ha : 0 ≤ a) (ha' : a ≤ 9223372036854775807) (hb : 0 < b) : Ev P s o (vv (.int .i64 (a.tmod b))) := by
  refine ⟨fun w0 ac w hs => ?_⟩
  have e : ac.eval x = .int .i64 a := hx w0 ac w hs
  have e2 : ac.eval y = .int .i64 b := hy w0 ac w hs
  have hb0 : b ≠ 0 := by omega
  have h0 : 0 ≤ a.tmod b := by rw [Int.tmod_eq_emod_of_nonneg ha]; exact Int.emod_nonneg _ hb0
  have h1 : a.tmod b ≤ a := by
    rw [Int.tmod_eq_emod_of_nonneg ha, Int.emod_def]
    have h2 := Int.mul_nonneg (Int.le_of_lt hb) (Int.ediv_nonneg ha (Int.le_of_lt hb))
    omega
  have hw : IntKind.wrap .i64 (a.tmod b) = a.tmod b := IntWalk.i64_in _ (by omega)
  have : (binOp .rem t (.int .i64 a) (.int .i64 b)).run P w = .ok (.int .i64 (a.tmod b)) w := by
    simp [binOp, Op.intArith, Op.intDiv, hw, hb0]
  simp only [execOp, ho, e, e2, run_eqGuard_int, this, Sem.run_bind, Sem.run_pure, Result.andThen_ok]
  exact .of_val rfl
end
end Go.Proofs.Ythnlpbfheefldaa
