/-
  Comparison of vectors. Conditions: none.
-/
import Derived.Test.YtjkpnnbahhlopaaSu
import Derived.Laws.StructEq
namespace Go.Proofs.Ytjkpnnbahhlopaa
open Go Go.RowKit

def vneB (A B : V3) : Bool := !(cmpB .eql .f32 A.x B.x && (cmpB .eql .f32 A.y B.y && cmpB .eql .f32 A.z B.z))
theorem run_equalIn_f32 {P : Program} (w : World) (d : Nat) (t : TypeId) (a b : Nat) (h : P.underlying t = some (.float .f32)) : (Op.equalIn (d + 1) t (.float .f32 a) (.float .f32 b)).run P w = .ok (FloatKind.f32.format.order a b == some .eq) w := by
  simp [Op.equalIn, run_underlying h]
  rfl
theorem run_neq_vec (w : World) (a b c a' b' c' : Nat) : (binOp .neq 26 (.agg #[.float .f32 a, .float .f32 b, .float .f32 c]) (.agg #[.float .f32 a', .float .f32 b', .float .f32 c'])).run Try.prog w = .ok (.bool (!(FloatKind.f32.format.order a a' == some .eq && (FloatKind.f32.format.order b b' == some .eq && FloatKind.f32.format.order c c' == some .eq)))) w := by
  rw [run_neq_struct, show (10000 : Nat) = 9999 + 1 from rfl, run_equalIn_struct (ht := by rw [Program.fieldsOf, Try.underlying26]) (hp := by kernel_rfl)]
  rw [Program.fieldsOf, Try.underlying26]
  simp [Op.eqFields, run_equalIn_f32 (P := Try.prog) (h := Try.underlying22), go_sem]
  by_cases h1 : FloatKind.f32.format.order a a' = some Ordering.eq <;> by_cases h2 : FloatKind.f32.format.order b b' = some Ordering.eq <;> by_cases h3 : FloatKind.f32.format.order c c' = some Ordering.eq <;> simp [h1, h2, h3]
theorem fcmp_eql {a b X Y : Nat} (hx : Fb .f32 X a) (hy : Fb .f32 Y b) : (FloatKind.f32.format.order a b == some .eq) = cmpB .eql .f32 X Y := by
  have h := run_fcmp (P := Try.prog) (w := default) .eql rfl 22 .f32 a b X Y hx hy
  simpa [binOp, Op.floatCmp] using h
section
variable {s : AS} {o : Oper}
theorem ev_vneq {t' : TypeId} {x y : Operand} {A B : V3} (ho : o.op = .binOp .neq 26 x y t') (hx : Opd s x (vec A)) (hy : Opd s y (vec B)) : Ev Try.prog s o (vv (.bool (vneB A B))) := by
  refine ⟨fun w0 a w hs => ?_⟩
  obtain ⟨cs, e1, h1, _⟩ := hx w0 a w hs
  obtain ⟨cs', e2, h2, _⟩ := hy w0 a w hs
  match cs, h1 with
  | [_, _, _], ⟨⟨a1, rfl, k1⟩, ⟨a2, rfl, k2⟩, ⟨a3, rfl, k3⟩, _⟩ =>
    match cs', h2 with
    | [_, _, _], ⟨⟨b1, rfl, j1⟩, ⟨b2, rfl, j2⟩, ⟨b3, rfl, j3⟩, _⟩ =>
      have hg : (eqGuard .neq 26 x y (.agg #[.float .f32 a1, .float .f32 a2, .float .f32 a3]) (.agg #[.float .f32 b1, .float .f32 b2, .float .f32 b3])).run Try.prog w = .ok () w := run_eqGuard_agg w .neq _ x y _ _ (by kernel_rfl)
      simp only [execOp, ho, e1, e2, Sem.run_bind, hg, Result.andThen_ok, run_neq_vec, Sem.run_pure, fcmp_eql k1 j1, fcmp_eql k2 j2, fcmp_eql k3 j3]
      exact .of_val rfl
end
section
variable {w0 : World} {nt : Nat} {env : List (Nat × AV)} {H : List HE} {ops : Array Oper} {rest : List Oper} {Q : Exit → Act → World → Prop} {ty : TypeId} {pos : String} {after : Array Edge} {ns : NS} {K : AS → NS → Prop}
theorem sVq {d : Nat} {t' : TypeId} {x y : Operand} {A B : V3} (k : AOps Try.prog w0 ops ⟨nt, (d, vv (.bool (vneB A B))) :: env, H⟩ rest Q)
    (hx : Opd ⟨nt, env, H⟩ x (vec A) := by exact Opd.tmp rfl) (hy : Opd ⟨nt, env, H⟩ y (vec B) := by exact Opd.tmp rfl) (hd : Nat.blt d nt = true := by exact rfl)
    : AOps Try.prog w0 ops ⟨nt, env, H⟩ (⟨some d, .binOp .neq 26 x y t', ty, pos, after, none⟩ :: rest) Q := aops_ev (ev_vneq rfl hx hy) hd k
theorem uVq {d j : Nat} {t' : TypeId} {x y : Operand} {A B : V3} (k : DWU Try.prog ops ⟨nt, (d, vv (.bool (vneB A B))) :: env, H⟩ ns.up j rest K)
    (hx : Opd ⟨nt, env, H⟩ x (vec A) := by exact Opd.tmp rfl) (hy : Opd ⟨nt, env, H⟩ y (vec B) := by exact Opd.tmp rfl) (hd : Nat.blt d nt = true := by exact rfl)
    : DWU Try.prog ops ⟨nt, env, H⟩ ns (j + 1) (⟨some d, .binOp .neq 26 x y t', ty, pos, after, none⟩ :: rest) K := du_ev (ev_vneq rfl hx hy) hd k
end
end Go.Proofs.Ytjkpnnbahhlopaa
