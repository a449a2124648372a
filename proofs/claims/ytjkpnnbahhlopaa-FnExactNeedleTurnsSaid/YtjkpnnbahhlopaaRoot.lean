/-
  The square root of a float32 by way of float64: it never overflows. Conditions: none.
-/
import Derived.Test.YtjkpnnbahhlopaaBA
namespace Go.Proofs.Ytjkpnnbahhlopaa
open Go Go.RowKit

/-- The square root on canonical bits. -/
def fsqrt (X : Nat) : Nat := (FloatKind.f64.format.sqrt X).getD (nanOf .f64)
def rootF (X : Nat) : Nat := fcvt .f64 .f32 (fsqrt (fcvt .f32 .f64 X))
def longV (A : V3) : Nat := rootF (innerV A A)

theorem log2_lt {m k : Nat} (h0 : m ≠ 0) (h : m < 2 ^ k) : m.log2 < k := by rw [Nat.log2_lt h0]; exact h

theorem nearest_zero (f : Ieee.Format) (neg : Bool) (e : Int) : f.nearest neg 0 e = f.word neg 0 := by unfold Ieee.Format.nearest; rw [if_pos rfl]
theorem sqrt_nan {x : Nat} (h : isNan .f64 x = true) : FloatKind.f64.format.sqrt x = none := by
  obtain ⟨s, t, e⟩ := nan_form h
  unfold Ieee.Format.sqrt
  rw [e]
  rfl
theorem sqrt_can (x : Nat) : FloatKind.f64.format.sqrt (can .f64 x) = FloatKind.f64.format.sqrt x := by
  unfold can
  by_cases hx : isNan .f64 x = true
  · rw [if_pos hx, sqrt_nan hx, sqrt_nan (isNan_nanOf _)]
  · rw [if_neg hx]

theorem sqrt_eq (x : Nat) : Extern.MathSqrt.sqrt #[.float .f64 x] = (match FloatKind.f64.format.sqrt x with | some r => pure (.float .f64 r) | none => do pure (.float .f64 (← choose (.nanBits .f64 x x)))) := rfl
theorem run_sqrt {P : Program} (x : Nat) (w : World) : ∃ r n, (Extern.MathSqrt.sqrt #[.float .f64 x]).run P w = .ok (.float .f64 r) (w.drewN n) ∧ ∀ X, Fb .f64 X x → Fb .f64 (fsqrt X) r := by
  cases h : FloatKind.f64.format.sqrt x with
  | some r =>
    refine ⟨r, 0, by rw [sqrt_eq, h]; rfl, fun X hX => ⟨FloatKind.f64.format.sqrt_lt h, ?_⟩⟩
    unfold fsqrt
    rw [← hX.can, sqrt_can, h]
    exact can_num (map_num _ (fun _ => root_num) h)
  | none =>
    have hc := nanBits_cut .f64 x x (w.tape w.drawn (.nanBits .f64 x x))
    refine ⟨(Question.nanBits .f64 x x).cut (w.tape w.drawn (.nanBits .f64 x x)), 1, by rw [sqrt_eq, h]; rfl, fun X hX => ⟨hc.2, ?_⟩⟩
    unfold fsqrt
    rw [← hX.can, sqrt_can, h]
    unfold Go.Proofs.Ytjkpnnbahhlopaa.can
    rw [if_pos hc.1]
    rfl

theorem wpList_extern {P : Program} (w : World) {ops : Array Oper} {rest : List Oper} {o : Oper} {a : Act} {Q : Exit → Act → World → Prop} (hg : o.guard = none) {f : FuncId} {args : Array Operand} {ts : Array TypeId}
    (ho : o.op = .call { callee := .value (.func f), args := args, argTypes := ts }) {vs : Array Value} (hv : args.map a.eval = vs) {v : Value} {w' : World} (hrun : (callFunc f vs).run P w = .ok (.value v) w')
    (h : wpList P ops Q rest (a.put o.dst v) w') : wpList P ops Q (o :: rest) a w := by
  refine wpList_plain hg fun K hK => ?_
  unfold Oper.wp
  simp only [execOp, ho, resolve, Sem.run_bind, hv, invoke]
  simp only [Act.eval, Deferred.ofValue, Sem.run_pure, Result.andThen_ok, Array.empty_append, Array.append_empty]
  rw [hrun]
  exact hK _ _ h

end Go.Proofs.Ytjkpnnbahhlopaa
