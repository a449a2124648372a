/-
  The rules of the new walk over regions that draw. Conditions: none.
-/
import Derived.Test.YtebjdijlaaipdaaSt
import Derived.Test.YtebjdijlaaipdaaBB
namespace Go.Proofs.Ytebjdijlaaipdaa
open Go Go.RowKit
section
variable {P : Program} {w0 : World} {ops : Array Oper} {nt : Nat} {env : List (Nat × AV)} {H : List HE} {s : AS} {rest : List Oper} {Q : Exit → Act → World → Prop} {d : Option Tmp} {ty : TypeId} {pos : String} {after : Array Edge} {ns : NS} {K : AS → NS → Prop}
theorem gU_move {j1 : Nat} {x : Operand} (h : DWU P ops s ns (j1 + 1) (⟨d, .move x, ty, pos, after, none⟩ :: rest) K) : DWU P ops s ns (j1 + 1) (⟨d, .move x, ty, pos, after, none⟩ :: rest) K := h
theorem gU_assign {j1 : Nat} {x : Operand} (h : DWU P ops s ns (j1 + 1) (⟨d, .assign x, ty, pos, after, none⟩ :: rest) K) : DWU P ops s ns (j1 + 1) (⟨d, .assign x, ty, pos, after, none⟩ :: rest) K := h
theorem gU_pick {j1 : Nat} {x y z : Operand} (h : DWU P ops s ns (j1 + 1) (⟨d, .pick x y z, ty, pos, after, none⟩ :: rest) K) : DWU P ops s ns (j1 + 1) (⟨d, .pick x y z, ty, pos, after, none⟩ :: rest) K := h
theorem gU_load {j1 : Nat} {t : TypeId} {x : Operand} (h : DWU P ops s ns (j1 + 1) (⟨d, .load t x, ty, pos, after, none⟩ :: rest) K) : DWU P ops s ns (j1 + 1) (⟨d, .load t x, ty, pos, after, none⟩ :: rest) K := h
theorem gU_field {j1 : Nat} {t : TypeId} {x : Operand} {j : Nat} (h : DWU P ops s ns (j1 + 1) (⟨d, .fieldAddr t x j, ty, pos, after, none⟩ :: rest) K) : DWU P ops s ns (j1 + 1) (⟨d, .fieldAddr t x j, ty, pos, after, none⟩ :: rest) K := h
theorem gU_index {j1 : Nat} {t : TypeId} {x y : Operand} (h : DWU P ops s ns (j1 + 1) (⟨d, .indexAddr t x y, ty, pos, after, none⟩ :: rest) K) : DWU P ops s ns (j1 + 1) (⟨d, .indexAddr t x y, ty, pos, after, none⟩ :: rest) K := h
theorem gU_bin {j1 : Nat} {b : BinOp} {t t2 : TypeId} {x y : Operand} (h : DWU P ops s ns (j1 + 1) (⟨d, .binOp b t x y t2, ty, pos, after, none⟩ :: rest) K) : DWU P ops s ns (j1 + 1) (⟨d, .binOp b t x y t2, ty, pos, after, none⟩ :: rest) K := h
theorem gU_un {j1 : Nat} {b : UnOp} {t : TypeId} {x : Operand} (h : DWU P ops s ns (j1 + 1) (⟨d, .unOp b t x, ty, pos, after, none⟩ :: rest) K) : DWU P ops s ns (j1 + 1) (⟨d, .unOp b t x, ty, pos, after, none⟩ :: rest) K := h
theorem gU_conv {j1 : Nat} {t t2 : TypeId} {x : Operand} (h : DWU P ops s ns (j1 + 1) (⟨d, .convert t t2 x, ty, pos, after, none⟩ :: rest) K) : DWU P ops s ns (j1 + 1) (⟨d, .convert t t2 x, ty, pos, after, none⟩ :: rest) K := h
theorem gU_callf {j1 : Nat} {x : Operand} {xs : Array Operand} {ts : Array TypeId} (h : DWU P ops s ns (j1 + 1) (⟨d, .call ⟨.value x, xs, ts⟩, ty, pos, after, none⟩ :: rest) K) : DWU P ops s ns (j1 + 1) (⟨d, .call ⟨.value x, xs, ts⟩, ty, pos, after, none⟩ :: rest) K := h
theorem gU_callb {j1 : Nat} {b : Builtin} {xs : Array Operand} {ts : Array TypeId} (h : DWU P ops s ns (j1 + 1) (⟨d, .call ⟨.builtin b, xs, ts⟩, ty, pos, after, none⟩ :: rest) K) : DWU P ops s ns (j1 + 1) (⟨d, .call ⟨.builtin b, xs, ts⟩, ty, pos, after, none⟩ :: rest) K := h
theorem gU_build {j1 : Nat} {t : TypeId} {ps : Array (Nat × Operand)} (h : DWU P ops s ns (j1 + 1) (⟨d, .build t ps, ty, pos, after, none⟩ :: rest) K) : DWU P ops s ns (j1 + 1) (⟨d, .build t ps, ty, pos, after, none⟩ :: rest) K := h
theorem gU_bslice {j1 : Nat} {t n : Nat} {ps : Array (Nat × Operand)} (h : DWU P ops s ns (j1 + 1) (⟨d, .buildSlice t n ps, ty, pos, after, none⟩ :: rest) K) : DWU P ops s ns (j1 + 1) (⟨d, .buildSlice t n ps, ty, pos, after, none⟩ :: rest) K := h
theorem gU_alloc {j1 : Nat} {t : TypeId} (h : DWU P ops s ns (j1 + 1) (⟨d, .alloc t, ty, pos, after, none⟩ :: rest) K) : DWU P ops s ns (j1 + 1) (⟨d, .alloc t, ty, pos, after, none⟩ :: rest) K := h
theorem gU_ext {j1 : Nat} {x : Operand} {j : Nat} (h : DWU P ops s ns (j1 + 1) (⟨d, .extract x j, ty, pos, after, none⟩ :: rest) K) : DWU P ops s ns (j1 + 1) (⟨d, .extract x j, ty, pos, after, none⟩ :: rest) K := h
theorem gU_func {j1 : Nat} {fn : Fn} {xs ys : Array Operand} (h : DWU P ops s ns (j1 + 1) (⟨d, .makeFunc fn xs ys, ty, pos, after, none⟩ :: rest) K) : DWU P ops s ns (j1 + 1) (⟨d, .makeFunc fn xs ys, ty, pos, after, none⟩ :: rest) K := h
theorem gU_slice {j1 : Nat} {t : TypeId} {x : Operand} {l hi mx : Option Operand} (h : DWU P ops s ns (j1 + 1) (⟨d, .slice t x l hi mx, ty, pos, after, none⟩ :: rest) K) : DWU P ops s ns (j1 + 1) (⟨d, .slice t x l hi mx, ty, pos, after, none⟩ :: rest) K := h
theorem gU_nilc {j1 : Nat} {x : Operand} (h : DWU P ops s ns (j1 + 1) (⟨d, .nilCheck x, ty, pos, after, none⟩ :: rest) K) : DWU P ops s ns (j1 + 1) (⟨d, .nilCheck x, ty, pos, after, none⟩ :: rest) K := h
theorem gU {l : List Oper} {j1 : Nat} (h : DWU P ops s ns j1 l K) : DWU P ops s ns j1 l K := h
theorem gV {K1 : AS → Prop} {es : List Ent} (h : FinV K1 s es) : FinV K1 s es := h
end
section
variable {ops : Array Oper} {op : Op} {nt : Nat} {env : List (Nat × AV)} {H : List HE} {rest : List Oper} {ty : TypeId} {pos : String} {after : Array Edge} {ns : NS} {K : AS → NS → Prop}
theorem uE_move {d j : Nat} {A : AV} {x : Operand} (k : DWU Try.prog ops ⟨nt, (d, A) :: env, H⟩ ns.up j rest K)
    (h : Ev Try.prog ⟨nt, env, H⟩ ⟨some d, .move x, ty, pos, after, none⟩ A := by
      first
      | exact ev_moveF rfl (by decide +kernel)
      | exact ev_move rfl (by first | exact Opd.tmp rfl | exact Opd.c _ | exact Opd.func _)
    )
    (hd : Nat.blt d nt = true := by exact rfl
    )
    : DWU Try.prog ops ⟨nt, env, H⟩ ns (j + 1) (⟨some d, .move x, ty, pos, after, none⟩ :: rest) K := du_ev h hd k
theorem uE_assign {d j : Nat} {A : AV} {x : Operand} (k : DWU Try.prog ops ⟨nt, (d, A) :: env, H⟩ ns.up j rest K)
    (h : Ev Try.prog ⟨nt, env, H⟩ ⟨some d, .assign x, ty, pos, after, none⟩ A := by
      first
      | exact ev_assignF rfl (by decide +kernel)
      | exact ev_assign rfl (by first | exact Opd.tmp rfl | exact Opd.c _ | exact Opd.func _)
    )
    (hd : Nat.blt d nt = true := by exact rfl
    )
    : DWU Try.prog ops ⟨nt, env, H⟩ ns (j + 1) (⟨some d, .assign x, ty, pos, after, none⟩ :: rest) K := du_ev h hd k
theorem uE_pick {d j : Nat} {A : AV} {x y z : Operand} (k : DWU Try.prog ops ⟨nt, (d, A) :: env, H⟩ ns.up j rest K)
    (h : Ev Try.prog ⟨nt, env, H⟩ ⟨some d, .pick x y z, ty, pos, after, none⟩ A := by
      first
      | exact ev_pickT rfl (by first | exact Opd.tmp rfl | exact Opd.c _ | exact Opd.func _) (by first | assumption | rfl | exact decide_eq_false (by omega) | exact decide_eq_true (by omega) | exact bne_self_eq_false _) (by first | exact Opd.tmp rfl | exact Opd.c _ | exact Opd.func _)
      | exact ev_pickF rfl (by first | exact Opd.tmp rfl | exact Opd.c _ | exact Opd.func _) (by first | assumption | rfl | exact decide_eq_false (by omega) | exact decide_eq_true (by omega) | exact bne_self_eq_false _) (by first | exact Opd.tmp rfl | exact Opd.c _ | exact Opd.func _)
    )
    (hd : Nat.blt d nt = true := by exact rfl
    )
    : DWU Try.prog ops ⟨nt, env, H⟩ ns (j + 1) (⟨some d, .pick x y z, ty, pos, after, none⟩ :: rest) K := du_ev h hd k
theorem uE_load {d j : Nat} {A : AV} {t : TypeId} {x : Operand} (k : DWU Try.prog ops ⟨nt, (d, A) :: env, H⟩ ns.up j rest K)
    (h : Ev Try.prog ⟨nt, env, H⟩ ⟨some d, .load t x, ty, pos, after, none⟩ A := by
      first
      | exact ld_Vector rfl (by first | exact Opd.tmp rfl | exact Opd.c _ | exact Opd.func _) tyA_Relay (by first | ((repeat (first | exact List.Mem.head _ | apply List.Mem.tail)); done) | fail) rfl
      | exact ldR_Vector rfl (by first | exact Opd.tmp rfl | exact Opd.c _ | exact Opd.func _) tyA_Relay rfl
      | exact ld_Vector3 rfl (by first | exact Opd.tmp rfl | exact Opd.c _ | exact Opd.func _) tyA_Relay (by first | ((repeat (first | exact List.Mem.head _ | apply List.Mem.tail)); done) | fail) rfl
      | exact ldR_Vector3 rfl (by first | exact Opd.tmp rfl | exact Opd.c _ | exact Opd.func _) tyA_Relay rfl
      | exact ev_loadP rfl (by first | exact Opd.tmp rfl | exact Opd.c _ | exact Opd.func _) tyP_f32 (by first | ((repeat (first | exact List.Mem.head _ | apply List.Mem.tail)); done) | fail) rfl
      | exact ev_loadRP rfl (by first | exact Opd.tmp rfl | exact Opd.c _ | exact Opd.func _) tyP_f32 rfl
      | exact ev_loadP rfl (by first | exact Opd.tmp rfl | exact Opd.c _ | exact Opd.func _) tyP_i64 (by first | ((repeat (first | exact List.Mem.head _ | apply List.Mem.tail)); done) | fail) rfl
      | exact ev_loadRP rfl (by first | exact Opd.tmp rfl | exact Opd.c _ | exact Opd.func _) tyP_i64 rfl
      | exact ev_loadP rfl (by first | exact Opd.tmp rfl | exact Opd.c _ | exact Opd.func _) tyP_int (by first | ((repeat (first | exact List.Mem.head _ | apply List.Mem.tail)); done) | fail) rfl
      | exact ev_loadRP rfl (by first | exact Opd.tmp rfl | exact Opd.c _ | exact Opd.func _) tyP_int rfl
      | exact ev_loadP rfl (by first | exact Opd.tmp rfl | exact Opd.c _ | exact Opd.func _) tyP_bool (by first | ((repeat (first | exact List.Mem.head _ | apply List.Mem.tail)); done) | fail) rfl
      | exact ev_loadRP rfl (by first | exact Opd.tmp rfl | exact Opd.c _ | exact Opd.func _) tyP_bool rfl
      | exact ev_loadP rfl (by first | exact Opd.tmp rfl | exact Opd.c _ | exact Opd.func _) tyP_sf32 (by first | ((repeat (first | exact List.Mem.head _ | apply List.Mem.tail)); done) | fail) rfl
      | exact ev_loadRP rfl (by first | exact Opd.tmp rfl | exact Opd.c _ | exact Opd.func _) tyP_sf32 rfl
    )
    (hd : Nat.blt d nt = true := by exact rfl
    )
    : DWU Try.prog ops ⟨nt, env, H⟩ ns (j + 1) (⟨some d, .load t x, ty, pos, after, none⟩ :: rest) K := du_ev h hd k
theorem uE_field {d j : Nat} {A : AV} {t : TypeId} {x : Operand} {jj : Nat} (k : DWU Try.prog ops ⟨nt, (d, A) :: env, H⟩ ns.up j rest K)
    (h : Ev Try.prog ⟨nt, env, H⟩ ⟨some d, .fieldAddr t x jj, ty, pos, after, none⟩ A := by
      first
      | exact ev_field rfl (by first | exact Opd.tmp rfl | exact Opd.c _ | exact Opd.func _) tyF_Relay_Up
      | exact ev_fieldR rfl (by first | exact Opd.tmp rfl | exact Opd.c _ | exact Opd.func _) tyF_Relay_Up
      | exact ev_field rfl (by first | exact Opd.tmp rfl | exact Opd.c _ | exact Opd.func _) tyF_Relay_Down
      | exact ev_fieldR rfl (by first | exact Opd.tmp rfl | exact Opd.c _ | exact Opd.func _) tyF_Relay_Down
      | exact ev_field rfl (by first | exact Opd.tmp rfl | exact Opd.c _ | exact Opd.func _) tyF_Relay_Weight
      | exact ev_fieldR rfl (by first | exact Opd.tmp rfl | exact Opd.c _ | exact Opd.func _) tyF_Relay_Weight
    )
    (hd : Nat.blt d nt = true := by exact rfl
    )
    : DWU Try.prog ops ⟨nt, env, H⟩ ns (j + 1) (⟨some d, .fieldAddr t x jj, ty, pos, after, none⟩ :: rest) K := du_ev h hd k
theorem uE_index {d j : Nat} {A : AV} {t : TypeId} {x y : Operand} (k : DWU Try.prog ops ⟨nt, (d, A) :: env, H⟩ ns.up j rest K)
    (h : Ev Try.prog ⟨nt, env, H⟩ ⟨some d, .indexAddr t x y, ty, pos, after, none⟩ A := by
      first
      | exact ev_index rfl (by first | exact Opd.tmp rfl | exact Opd.c _ | exact Opd.func _) (by first | exact Opd.tmp rfl | exact Opd.c _ | exact Opd.func _) tyS_Relay (by omega)
      | exact ev_indexZ rfl (by first | exact Opd.tmp rfl | exact Opd.c _ | exact Opd.func _) (by first | exact Opd.tmp rfl | exact Opd.c _ | exact Opd.func _) tyS_Relay (by omega) (by omega)
      | exact ev_index rfl (by first | exact Opd.tmp rfl | exact Opd.c _ | exact Opd.func _) (by first | exact Opd.tmp rfl | exact Opd.c _ | exact Opd.func _) tyS_f32 (by omega)
      | exact ev_indexZ rfl (by first | exact Opd.tmp rfl | exact Opd.c _ | exact Opd.func _) (by first | exact Opd.tmp rfl | exact Opd.c _ | exact Opd.func _) tyS_f32 (by omega) (by omega)
      | exact ev_index rfl (by first | exact Opd.tmp rfl | exact Opd.c _ | exact Opd.func _) (by first | exact Opd.tmp rfl | exact Opd.c _ | exact Opd.func _) tyS_bool (by omega)
      | exact ev_indexZ rfl (by first | exact Opd.tmp rfl | exact Opd.c _ | exact Opd.func _) (by first | exact Opd.tmp rfl | exact Opd.c _ | exact Opd.func _) tyS_bool (by omega) (by omega)
    )
    (hd : Nat.blt d nt = true := by exact rfl
    )
    : DWU Try.prog ops ⟨nt, env, H⟩ ns (j + 1) (⟨some d, .indexAddr t x y, ty, pos, after, none⟩ :: rest) K := du_ev h hd k
theorem uE_bin {d j : Nat} {A : AV} {bo : BinOp} {t t2 : TypeId} {x y : Operand} (k : DWU Try.prog ops ⟨nt, (d, A) :: env, H⟩ ns.up j rest K)
    (h : Ev Try.prog ⟨nt, env, H⟩ ⟨some d, .binOp bo t x y t2, ty, pos, after, none⟩ A := by
      first
      | exact ev_fop rfl rfl (by first | exact OpF.tmp rfl | exact OpF.c (by decide +kernel)) (by first | exact OpF.tmp rfl | exact OpF.c (by decide +kernel))
      | exact ev_fcmp rfl rfl (by first | exact OpF.tmp rfl | exact OpF.c (by decide +kernel)) (by first | exact OpF.tmp rfl | exact OpF.c (by decide +kernel))
      | exact ev_icmp rfl (by first | exact Opd.tmp rfl | exact Opd.c _ | exact Opd.func _) (by first | exact Opd.tmp rfl | exact Opd.c _ | exact Opd.func _) rfl
      | exact ev_beq rfl (by first | exact Opd.tmp rfl | exact Opd.c _ | exact Opd.func _) (by first | exact Opd.tmp rfl | exact Opd.c _ | exact Opd.func _) Try.underlying4 rfl
      | exact ev_iar rfl (by first | exact Opd.tmp rfl | exact Opd.c _ | exact Opd.func _) (by first | exact Opd.tmp rfl | exact Opd.c _ | exact Opd.func _) rfl (IntWalk.i64_in _ (by omega))
    )
    (hd : Nat.blt d nt = true := by exact rfl
    )
    : DWU Try.prog ops ⟨nt, env, H⟩ ns (j + 1) (⟨some d, .binOp bo t x y t2, ty, pos, after, none⟩ :: rest) K := du_ev h hd k
theorem uE_un {d j : Nat} {A : AV} {bo : UnOp} {t : TypeId} {x : Operand} (k : DWU Try.prog ops ⟨nt, (d, A) :: env, H⟩ ns.up j rest K)
    (h : Ev Try.prog ⟨nt, env, H⟩ ⟨some d, .unOp bo t x, ty, pos, after, none⟩ A := by
      first
      | exact ev_not rfl (by first | exact Opd.tmp rfl | exact Opd.c _ | exact Opd.func _)
      | exact ev_fneg rfl (by first | exact OpF.tmp rfl | exact OpF.c (by decide +kernel))
    )
    (hd : Nat.blt d nt = true := by exact rfl
    )
    : DWU Try.prog ops ⟨nt, env, H⟩ ns (j + 1) (⟨some d, .unOp bo t x, ty, pos, after, none⟩ :: rest) K := du_ev h hd k
theorem uE_conv {d j : Nat} {A : AV} {t t2 : TypeId} {x : Operand} (k : DWU Try.prog ops ⟨nt, (d, A) :: env, H⟩ ns.up j rest K)
    (h : Ev Try.prog ⟨nt, env, H⟩ ⟨some d, .convert t t2 x, ty, pos, after, none⟩ A := by
      first
      | exact ev_fcvt rfl Try.underlying28 Try.underlying44 (by decide) (by first | exact OpF.tmp rfl | exact OpF.c (by decide +kernel)) (fits_widen _)
      | exact ev_fcvt rfl Try.underlying44 Try.underlying28 (by decide) (by first | exact OpF.tmp rfl | exact OpF.c (by decide +kernel)) (by assumption)
      | exact ev_fsame rfl Try.underlying28 Try.underlying28 (by first | exact OpF.tmp rfl | exact OpF.c (by decide +kernel))
      | exact ev_itof rfl (by rw [Try.underlying3]; rfl) Try.underlying28 (by first | exact Opd.tmp rfl | exact Opd.c _ | exact Opd.func _)
      | exact ev_itof rfl (by rw [Try.underlying3]; rfl) Try.underlying44 (by first | exact Opd.tmp rfl | exact Opd.c _ | exact Opd.func _)
      | exact ev_itof rfl (by rw [Try.underlying2]; rfl) Try.underlying28 (by first | exact Opd.tmp rfl | exact Opd.c _ | exact Opd.func _)
      | exact ev_itof rfl (by rw [Try.underlying2]; rfl) Try.underlying44 (by first | exact Opd.tmp rfl | exact Opd.c _ | exact Opd.func _)
      | exact ev_itoi rfl (by rw [Try.underlying3]; rfl) Try.underlying2 (by first | exact Opd.tmp rfl | exact Opd.c _ | exact Opd.func _) (IntWalk.i64_in _ (by omega))
      | exact ev_itoi rfl (by rw [Try.underlying2]; rfl) Try.underlying3 (by first | exact Opd.tmp rfl | exact Opd.c _ | exact Opd.func _) (IntWalk.i64_in _ (by omega))
    )
    (hd : Nat.blt d nt = true := by exact rfl
    )
    : DWU Try.prog ops ⟨nt, env, H⟩ ns (j + 1) (⟨some d, .convert t t2 x, ty, pos, after, none⟩ :: rest) K := du_ev h hd k
theorem uE_callb {d j : Nat} {A : AV} {bo : Builtin} {xs : Array Operand} {ts : Array TypeId} (k : DWU Try.prog ops ⟨nt, (d, A) :: env, H⟩ ns.up j rest K)
    (h : Ev Try.prog ⟨nt, env, H⟩ ⟨some d, .call ⟨.builtin bo, xs, ts⟩, ty, pos, after, none⟩ A := by
      first
      | exact ev_len rfl (by first | exact Opd.tmp rfl | exact Opd.c _ | exact Opd.func _) tyS_Relay
      | exact ev_lenO rfl (by first | exact Opd.tmp rfl | exact Opd.c _ | exact Opd.func _) (by first | ((repeat (first | exact List.Mem.head _ | apply List.Mem.tail)); done) | fail) tyS_Relay
      | exact ev_len rfl (by first | exact Opd.tmp rfl | exact Opd.c _ | exact Opd.func _) tyS_f32
      | exact ev_lenO rfl (by first | exact Opd.tmp rfl | exact Opd.c _ | exact Opd.func _) (by first | ((repeat (first | exact List.Mem.head _ | apply List.Mem.tail)); done) | fail) tyS_f32
      | exact ev_len rfl (by first | exact Opd.tmp rfl | exact Opd.c _ | exact Opd.func _) tyS_bool
      | exact ev_lenO rfl (by first | exact Opd.tmp rfl | exact Opd.c _ | exact Opd.func _) (by first | ((repeat (first | exact List.Mem.head _ | apply List.Mem.tail)); done) | fail) tyS_bool
    )
    (hd : Nat.blt d nt = true := by exact rfl
    )
    : DWU Try.prog ops ⟨nt, env, H⟩ ns (j + 1) (⟨some d, .call ⟨.builtin bo, xs, ts⟩, ty, pos, after, none⟩ :: rest) K := du_ev h hd k
theorem uE_build {d j : Nat} {A : AV} {t : TypeId} {ps : Array (Nat × Operand)} (k : DWU Try.prog ops ⟨nt, (d, A) :: env, H⟩ ns.up j rest K)
    (h : Ev Try.prog ⟨nt, env, H⟩ ⟨some d, .build t ps, ty, pos, after, none⟩ A := by
      first
      | exact bd_Vector rfl tyB_Relay (by first | exact Parts.nil | exact (Parts.cons (by first | exact Opd.tmp rfl | exact Opd.c _ | exact Opd.func _) (by first | exact cellsOf_agg _ | exact cellsOf_fl _ _ | exact cellsOf_vv rfl | exact cellsOf_rs _ _ _ | exact cellsOf_rp _ _ | exact cellsOf_vv (by assumption)) Parts.nil) | exact (Parts.cons (by first | exact Opd.tmp rfl | exact Opd.c _ | exact Opd.func _) (by first | exact cellsOf_agg _ | exact cellsOf_fl _ _ | exact cellsOf_vv rfl | exact cellsOf_rs _ _ _ | exact cellsOf_rp _ _ | exact cellsOf_vv (by assumption)) (Parts.cons (by first | exact Opd.tmp rfl | exact Opd.c _ | exact Opd.func _) (by first | exact cellsOf_agg _ | exact cellsOf_fl _ _ | exact cellsOf_vv rfl | exact cellsOf_rs _ _ _ | exact cellsOf_rp _ _ | exact cellsOf_vv (by assumption)) Parts.nil)) | exact (Parts.cons (by first | exact Opd.tmp rfl | exact Opd.c _ | exact Opd.func _) (by first | exact cellsOf_agg _ | exact cellsOf_fl _ _ | exact cellsOf_vv rfl | exact cellsOf_rs _ _ _ | exact cellsOf_rp _ _ | exact cellsOf_vv (by assumption)) (Parts.cons (by first | exact Opd.tmp rfl | exact Opd.c _ | exact Opd.func _) (by first | exact cellsOf_agg _ | exact cellsOf_fl _ _ | exact cellsOf_vv rfl | exact cellsOf_rs _ _ _ | exact cellsOf_rp _ _ | exact cellsOf_vv (by assumption)) (Parts.cons (by first | exact Opd.tmp rfl | exact Opd.c _ | exact Opd.func _) (by first | exact cellsOf_agg _ | exact cellsOf_fl _ _ | exact cellsOf_vv rfl | exact cellsOf_rs _ _ _ | exact cellsOf_rp _ _ | exact cellsOf_vv (by assumption)) Parts.nil))) | exact (Parts.cons (by first | exact Opd.tmp rfl | exact Opd.c _ | exact Opd.func _) (by first | exact cellsOf_agg _ | exact cellsOf_fl _ _ | exact cellsOf_vv rfl | exact cellsOf_rs _ _ _ | exact cellsOf_rp _ _ | exact cellsOf_vv (by assumption)) (Parts.cons (by first | exact Opd.tmp rfl | exact Opd.c _ | exact Opd.func _) (by first | exact cellsOf_agg _ | exact cellsOf_fl _ _ | exact cellsOf_vv rfl | exact cellsOf_rs _ _ _ | exact cellsOf_rp _ _ | exact cellsOf_vv (by assumption)) (Parts.cons (by first | exact Opd.tmp rfl | exact Opd.c _ | exact Opd.func _) (by first | exact cellsOf_agg _ | exact cellsOf_fl _ _ | exact cellsOf_vv rfl | exact cellsOf_rs _ _ _ | exact cellsOf_rp _ _ | exact cellsOf_vv (by assumption)) (Parts.cons (by first | exact Opd.tmp rfl | exact Opd.c _ | exact Opd.func _) (by first | exact cellsOf_agg _ | exact cellsOf_fl _ _ | exact cellsOf_vv rfl | exact cellsOf_rs _ _ _ | exact cellsOf_rp _ _ | exact cellsOf_vv (by assumption)) Parts.nil)))) | exact (Parts.cons (by first | exact Opd.tmp rfl | exact Opd.c _ | exact Opd.func _) (by first | exact cellsOf_agg _ | exact cellsOf_fl _ _ | exact cellsOf_vv rfl | exact cellsOf_rs _ _ _ | exact cellsOf_rp _ _ | exact cellsOf_vv (by assumption)) (Parts.cons (by first | exact Opd.tmp rfl | exact Opd.c _ | exact Opd.func _) (by first | exact cellsOf_agg _ | exact cellsOf_fl _ _ | exact cellsOf_vv rfl | exact cellsOf_rs _ _ _ | exact cellsOf_rp _ _ | exact cellsOf_vv (by assumption)) (Parts.cons (by first | exact Opd.tmp rfl | exact Opd.c _ | exact Opd.func _) (by first | exact cellsOf_agg _ | exact cellsOf_fl _ _ | exact cellsOf_vv rfl | exact cellsOf_rs _ _ _ | exact cellsOf_rp _ _ | exact cellsOf_vv (by assumption)) (Parts.cons (by first | exact Opd.tmp rfl | exact Opd.c _ | exact Opd.func _) (by first | exact cellsOf_agg _ | exact cellsOf_fl _ _ | exact cellsOf_vv rfl | exact cellsOf_rs _ _ _ | exact cellsOf_rp _ _ | exact cellsOf_vv (by assumption)) (Parts.cons (by first | exact Opd.tmp rfl | exact Opd.c _ | exact Opd.func _) (by first | exact cellsOf_agg _ | exact cellsOf_fl _ _ | exact cellsOf_vv rfl | exact cellsOf_rs _ _ _ | exact cellsOf_rp _ _ | exact cellsOf_vv (by assumption)) Parts.nil))))) | exact (Parts.cons (by first | exact Opd.tmp rfl | exact Opd.c _ | exact Opd.func _) (by first | exact cellsOf_agg _ | exact cellsOf_fl _ _ | exact cellsOf_vv rfl | exact cellsOf_rs _ _ _ | exact cellsOf_rp _ _ | exact cellsOf_vv (by assumption)) (Parts.cons (by first | exact Opd.tmp rfl | exact Opd.c _ | exact Opd.func _) (by first | exact cellsOf_agg _ | exact cellsOf_fl _ _ | exact cellsOf_vv rfl | exact cellsOf_rs _ _ _ | exact cellsOf_rp _ _ | exact cellsOf_vv (by assumption)) (Parts.cons (by first | exact Opd.tmp rfl | exact Opd.c _ | exact Opd.func _) (by first | exact cellsOf_agg _ | exact cellsOf_fl _ _ | exact cellsOf_vv rfl | exact cellsOf_rs _ _ _ | exact cellsOf_rp _ _ | exact cellsOf_vv (by assumption)) (Parts.cons (by first | exact Opd.tmp rfl | exact Opd.c _ | exact Opd.func _) (by first | exact cellsOf_agg _ | exact cellsOf_fl _ _ | exact cellsOf_vv rfl | exact cellsOf_rs _ _ _ | exact cellsOf_rp _ _ | exact cellsOf_vv (by assumption)) (Parts.cons (by first | exact Opd.tmp rfl | exact Opd.c _ | exact Opd.func _) (by first | exact cellsOf_agg _ | exact cellsOf_fl _ _ | exact cellsOf_vv rfl | exact cellsOf_rs _ _ _ | exact cellsOf_rp _ _ | exact cellsOf_vv (by assumption)) (Parts.cons (by first | exact Opd.tmp rfl | exact Opd.c _ | exact Opd.func _) (by first | exact cellsOf_agg _ | exact cellsOf_fl _ _ | exact cellsOf_vv rfl | exact cellsOf_rs _ _ _ | exact cellsOf_rp _ _ | exact cellsOf_vv (by assumption)) Parts.nil))))))) rfl
      | exact bd_Vector3 rfl tyB_Relay (by first | exact Parts.nil | exact (Parts.cons (by first | exact Opd.tmp rfl | exact Opd.c _ | exact Opd.func _) (by first | exact cellsOf_agg _ | exact cellsOf_fl _ _ | exact cellsOf_vv rfl | exact cellsOf_rs _ _ _ | exact cellsOf_rp _ _ | exact cellsOf_vv (by assumption)) Parts.nil) | exact (Parts.cons (by first | exact Opd.tmp rfl | exact Opd.c _ | exact Opd.func _) (by first | exact cellsOf_agg _ | exact cellsOf_fl _ _ | exact cellsOf_vv rfl | exact cellsOf_rs _ _ _ | exact cellsOf_rp _ _ | exact cellsOf_vv (by assumption)) (Parts.cons (by first | exact Opd.tmp rfl | exact Opd.c _ | exact Opd.func _) (by first | exact cellsOf_agg _ | exact cellsOf_fl _ _ | exact cellsOf_vv rfl | exact cellsOf_rs _ _ _ | exact cellsOf_rp _ _ | exact cellsOf_vv (by assumption)) Parts.nil)) | exact (Parts.cons (by first | exact Opd.tmp rfl | exact Opd.c _ | exact Opd.func _) (by first | exact cellsOf_agg _ | exact cellsOf_fl _ _ | exact cellsOf_vv rfl | exact cellsOf_rs _ _ _ | exact cellsOf_rp _ _ | exact cellsOf_vv (by assumption)) (Parts.cons (by first | exact Opd.tmp rfl | exact Opd.c _ | exact Opd.func _) (by first | exact cellsOf_agg _ | exact cellsOf_fl _ _ | exact cellsOf_vv rfl | exact cellsOf_rs _ _ _ | exact cellsOf_rp _ _ | exact cellsOf_vv (by assumption)) (Parts.cons (by first | exact Opd.tmp rfl | exact Opd.c _ | exact Opd.func _) (by first | exact cellsOf_agg _ | exact cellsOf_fl _ _ | exact cellsOf_vv rfl | exact cellsOf_rs _ _ _ | exact cellsOf_rp _ _ | exact cellsOf_vv (by assumption)) Parts.nil))) | exact (Parts.cons (by first | exact Opd.tmp rfl | exact Opd.c _ | exact Opd.func _) (by first | exact cellsOf_agg _ | exact cellsOf_fl _ _ | exact cellsOf_vv rfl | exact cellsOf_rs _ _ _ | exact cellsOf_rp _ _ | exact cellsOf_vv (by assumption)) (Parts.cons (by first | exact Opd.tmp rfl | exact Opd.c _ | exact Opd.func _) (by first | exact cellsOf_agg _ | exact cellsOf_fl _ _ | exact cellsOf_vv rfl | exact cellsOf_rs _ _ _ | exact cellsOf_rp _ _ | exact cellsOf_vv (by assumption)) (Parts.cons (by first | exact Opd.tmp rfl | exact Opd.c _ | exact Opd.func _) (by first | exact cellsOf_agg _ | exact cellsOf_fl _ _ | exact cellsOf_vv rfl | exact cellsOf_rs _ _ _ | exact cellsOf_rp _ _ | exact cellsOf_vv (by assumption)) (Parts.cons (by first | exact Opd.tmp rfl | exact Opd.c _ | exact Opd.func _) (by first | exact cellsOf_agg _ | exact cellsOf_fl _ _ | exact cellsOf_vv rfl | exact cellsOf_rs _ _ _ | exact cellsOf_rp _ _ | exact cellsOf_vv (by assumption)) Parts.nil)))) | exact (Parts.cons (by first | exact Opd.tmp rfl | exact Opd.c _ | exact Opd.func _) (by first | exact cellsOf_agg _ | exact cellsOf_fl _ _ | exact cellsOf_vv rfl | exact cellsOf_rs _ _ _ | exact cellsOf_rp _ _ | exact cellsOf_vv (by assumption)) (Parts.cons (by first | exact Opd.tmp rfl | exact Opd.c _ | exact Opd.func _) (by first | exact cellsOf_agg _ | exact cellsOf_fl _ _ | exact cellsOf_vv rfl | exact cellsOf_rs _ _ _ | exact cellsOf_rp _ _ | exact cellsOf_vv (by assumption)) (Parts.cons (by first | exact Opd.tmp rfl | exact Opd.c _ | exact Opd.func _) (by first | exact cellsOf_agg _ | exact cellsOf_fl _ _ | exact cellsOf_vv rfl | exact cellsOf_rs _ _ _ | exact cellsOf_rp _ _ | exact cellsOf_vv (by assumption)) (Parts.cons (by first | exact Opd.tmp rfl | exact Opd.c _ | exact Opd.func _) (by first | exact cellsOf_agg _ | exact cellsOf_fl _ _ | exact cellsOf_vv rfl | exact cellsOf_rs _ _ _ | exact cellsOf_rp _ _ | exact cellsOf_vv (by assumption)) (Parts.cons (by first | exact Opd.tmp rfl | exact Opd.c _ | exact Opd.func _) (by first | exact cellsOf_agg _ | exact cellsOf_fl _ _ | exact cellsOf_vv rfl | exact cellsOf_rs _ _ _ | exact cellsOf_rp _ _ | exact cellsOf_vv (by assumption)) Parts.nil))))) | exact (Parts.cons (by first | exact Opd.tmp rfl | exact Opd.c _ | exact Opd.func _) (by first | exact cellsOf_agg _ | exact cellsOf_fl _ _ | exact cellsOf_vv rfl | exact cellsOf_rs _ _ _ | exact cellsOf_rp _ _ | exact cellsOf_vv (by assumption)) (Parts.cons (by first | exact Opd.tmp rfl | exact Opd.c _ | exact Opd.func _) (by first | exact cellsOf_agg _ | exact cellsOf_fl _ _ | exact cellsOf_vv rfl | exact cellsOf_rs _ _ _ | exact cellsOf_rp _ _ | exact cellsOf_vv (by assumption)) (Parts.cons (by first | exact Opd.tmp rfl | exact Opd.c _ | exact Opd.func _) (by first | exact cellsOf_agg _ | exact cellsOf_fl _ _ | exact cellsOf_vv rfl | exact cellsOf_rs _ _ _ | exact cellsOf_rp _ _ | exact cellsOf_vv (by assumption)) (Parts.cons (by first | exact Opd.tmp rfl | exact Opd.c _ | exact Opd.func _) (by first | exact cellsOf_agg _ | exact cellsOf_fl _ _ | exact cellsOf_vv rfl | exact cellsOf_rs _ _ _ | exact cellsOf_rp _ _ | exact cellsOf_vv (by assumption)) (Parts.cons (by first | exact Opd.tmp rfl | exact Opd.c _ | exact Opd.func _) (by first | exact cellsOf_agg _ | exact cellsOf_fl _ _ | exact cellsOf_vv rfl | exact cellsOf_rs _ _ _ | exact cellsOf_rp _ _ | exact cellsOf_vv (by assumption)) (Parts.cons (by first | exact Opd.tmp rfl | exact Opd.c _ | exact Opd.func _) (by first | exact cellsOf_agg _ | exact cellsOf_fl _ _ | exact cellsOf_vv rfl | exact cellsOf_rs _ _ _ | exact cellsOf_rp _ _ | exact cellsOf_vv (by assumption)) Parts.nil))))))) rfl
    )
    (hd : Nat.blt d nt = true := by exact rfl
    )
    : DWU Try.prog ops ⟨nt, env, H⟩ ns (j + 1) (⟨some d, .build t ps, ty, pos, after, none⟩ :: rest) K := du_ev h hd k
theorem uE_ext {d j : Nat} {A : AV} {x : Operand} {jj : Nat} (k : DWU Try.prog ops ⟨nt, (d, A) :: env, H⟩ ns.up j rest K)
    (h : Ev Try.prog ⟨nt, env, H⟩ ⟨some d, .extract x jj, ty, pos, after, none⟩ A := by
      first
      | exact ev_extract rfl (by first | exact Opd.tmp rfl | exact Opd.c _ | exact Opd.func _) rfl
    )
    (hd : Nat.blt d nt = true := by exact rfl
    )
    : DWU Try.prog ops ⟨nt, env, H⟩ ns (j + 1) (⟨some d, .extract x jj, ty, pos, after, none⟩ :: rest) K := du_ev h hd k
theorem uE_slice {d j : Nat} {A : AV} {t : TypeId} {x : Operand} {l hi mx : Option Operand} (k : DWU Try.prog ops ⟨nt, (d, A) :: env, H⟩ ns.up j rest K)
    (h : Ev Try.prog ⟨nt, env, H⟩ ⟨some d, .slice t x l hi mx, ty, pos, after, none⟩ A := by
      first
      | exact ev_sliceLo rfl (by first | exact Opd.tmp rfl | exact Opd.c _ | exact Opd.func _) (by first | exact Opd.tmp rfl | exact Opd.c _ | exact Opd.func _) tyS_Relay (by omega)
      | exact ev_sliceLoZ rfl (by first | exact Opd.tmp rfl | exact Opd.c _ | exact Opd.func _) (by first | exact Opd.tmp rfl | exact Opd.c _ | exact Opd.func _) tyS_Relay (by omega) (by omega)
      | exact ev_sliceLo rfl (by first | exact Opd.tmp rfl | exact Opd.c _ | exact Opd.func _) (by first | exact Opd.tmp rfl | exact Opd.c _ | exact Opd.func _) tyS_f32 (by omega)
      | exact ev_sliceLoZ rfl (by first | exact Opd.tmp rfl | exact Opd.c _ | exact Opd.func _) (by first | exact Opd.tmp rfl | exact Opd.c _ | exact Opd.func _) tyS_f32 (by omega) (by omega)
      | exact ev_sliceLo rfl (by first | exact Opd.tmp rfl | exact Opd.c _ | exact Opd.func _) (by first | exact Opd.tmp rfl | exact Opd.c _ | exact Opd.func _) tyS_bool (by omega)
      | exact ev_sliceLoZ rfl (by first | exact Opd.tmp rfl | exact Opd.c _ | exact Opd.func _) (by first | exact Opd.tmp rfl | exact Opd.c _ | exact Opd.func _) tyS_bool (by omega) (by omega)
    )
    (hd : Nat.blt d nt = true := by exact rfl
    )
    : DWU Try.prog ops ⟨nt, env, H⟩ ns (j + 1) (⟨some d, .slice t x l hi mx, ty, pos, after, none⟩ :: rest) K := du_ev h hd k
theorem uE_nilc {d j : Nat} {A : AV} {x : Operand} (k : DWU Try.prog ops ⟨nt, (d, A) :: env, H⟩ ns.up j rest K)
    (h : Ev Try.prog ⟨nt, env, H⟩ ⟨some d, .nilCheck x, ty, pos, after, none⟩ A := by
      first
      | exact ev_nilc rfl (by first | exact Opd.tmp rfl | exact Opd.c _ | exact Opd.func _)
      | exact ev_nilcR rfl (by first | exact Opd.tmp rfl | exact Opd.c _ | exact Opd.func _)
    )
    (hd : Nat.blt d nt = true := by exact rfl
    )
    : DWU Try.prog ops ⟨nt, env, H⟩ ns (j + 1) (⟨some d, .nilCheck x, ty, pos, after, none⟩ :: rest) K := du_ev h hd k
theorem uE_func {d j : Nat} {A : AV} {fn : Fn} {xs ys : Array Operand} (k : DWU Try.prog ops ⟨nt, (d, A) :: env, H⟩ ns.up j rest K)
    (h : Ev Try.prog ⟨nt, env, H⟩ ⟨some d, .makeFunc fn xs ys, ty, pos, after, none⟩ A := by
      first
      | exact ev_makeFunc rfl (by first | exact Opds.nil | exact (Opds.cons (by first | exact Opd.tmp rfl | exact Opd.c _ | exact Opd.func _) Opds.nil) | exact (Opds.cons (by first | exact Opd.tmp rfl | exact Opd.c _ | exact Opd.func _) (Opds.cons (by first | exact Opd.tmp rfl | exact Opd.c _ | exact Opd.func _) Opds.nil)) | exact (Opds.cons (by first | exact Opd.tmp rfl | exact Opd.c _ | exact Opd.func _) (Opds.cons (by first | exact Opd.tmp rfl | exact Opd.c _ | exact Opd.func _) (Opds.cons (by first | exact Opd.tmp rfl | exact Opd.c _ | exact Opd.func _) Opds.nil))) | exact (Opds.cons (by first | exact Opd.tmp rfl | exact Opd.c _ | exact Opd.func _) (Opds.cons (by first | exact Opd.tmp rfl | exact Opd.c _ | exact Opd.func _) (Opds.cons (by first | exact Opd.tmp rfl | exact Opd.c _ | exact Opd.func _) (Opds.cons (by first | exact Opd.tmp rfl | exact Opd.c _ | exact Opd.func _) Opds.nil)))) | exact (Opds.cons (by first | exact Opd.tmp rfl | exact Opd.c _ | exact Opd.func _) (Opds.cons (by first | exact Opd.tmp rfl | exact Opd.c _ | exact Opd.func _) (Opds.cons (by first | exact Opd.tmp rfl | exact Opd.c _ | exact Opd.func _) (Opds.cons (by first | exact Opd.tmp rfl | exact Opd.c _ | exact Opd.func _) (Opds.cons (by first | exact Opd.tmp rfl | exact Opd.c _ | exact Opd.func _) Opds.nil))))) | exact (Opds.cons (by first | exact Opd.tmp rfl | exact Opd.c _ | exact Opd.func _) (Opds.cons (by first | exact Opd.tmp rfl | exact Opd.c _ | exact Opd.func _) (Opds.cons (by first | exact Opd.tmp rfl | exact Opd.c _ | exact Opd.func _) (Opds.cons (by first | exact Opd.tmp rfl | exact Opd.c _ | exact Opd.func _) (Opds.cons (by first | exact Opd.tmp rfl | exact Opd.c _ | exact Opd.func _) (Opds.cons (by first | exact Opd.tmp rfl | exact Opd.c _ | exact Opd.func _) Opds.nil)))))))
    )
    (hd : Nat.blt d nt = true := by exact rfl
    )
    : DWU Try.prog ops ⟨nt, env, H⟩ ns (j + 1) (⟨some d, .makeFunc fn xs ys, ty, pos, after, none⟩ :: rest) K := du_ev h hd k
theorem uA {d t j : Nat} {zl : List AV} (k : DWU Try.prog ops ⟨nt, (d, top) :: env, H⟩ (ns.add d (.box zl)) j rest K)
    (hz : TyZ Try.prog t zl := by
      first
      | exact tyZ_Relay
      | exact tyZ_f32
      | exact tyZ_i64
      | exact tyZ_int
      | exact tyZ_bool
    )
    (hd : Nat.blt d nt = true := by exact rfl
    )
    : DWU Try.prog ops ⟨nt, env, H⟩ ns (j + 1) (⟨some d, .alloc t, ty, pos, after, none⟩ :: rest) K := du_alloc hz hd k
theorem uC {d f j : Nat} {A : AV} {As : List AV} {args : List Operand} {ts : Array TypeId} (hc : Con Try.prog f As (RetA A)) (k : DWU Try.prog ops ⟨nt, (d, A) :: env, H⟩ ns.up j rest K)
    (hg : GivsE ⟨nt, env, H⟩ ns.es after args As := by first | ((repeat (first | exact GivsE.nil | refine GivsE.cons (by first | exact GivE.of (Giv.of (Opd.tmp rfl)) | exact GivE.row (by first | ((repeat (first | exact List.Mem.head _ | apply List.Mem.tail)); done) | fail) (by rfl) (by first | exact turns_vv | exact turns_mesh | exact turns_wire) | exact GivE.of (Giv.of (OpF.c (by decide +kernel))) | exact GivE.of (Giv.of (Opd.c _)) | exact GivE.of (Giv.box (Opd.tmp rfl) (by first | ((repeat (first | exact List.Mem.head _ | apply List.Mem.tail)); done) | fail)) | exact GivE.of (Giv.row (Opd.tmp rfl) (by first | ((repeat (first | exact List.Mem.head _ | apply List.Mem.tail)); done) | fail) (fun _ _ => rfl)) | exact GivE.of (Giv.mesh (Opd.tmp rfl) (by first | ((repeat (first | exact List.Mem.head _ | apply List.Mem.tail)); done) | fail)) | exact GivE.of (Giv.wire (Opd.tmp rfl) (by first | ((repeat (first | exact List.Mem.head _ | apply List.Mem.tail)); done) | fail)) | exact GivE.of (Giv.boxmesh (Opd.tmp rfl) (by first | ((repeat (first | exact List.Mem.head _ | apply List.Mem.tail)); done) | fail) (by first | ((repeat (first | exact List.Mem.head _ | apply List.Mem.tail)); done) | fail)) | exact GivE.late (by first | ((repeat (first | exact List.Mem.head _ | apply List.Mem.tail)); done) | fail) (by rfl) | exact GivE.of (Giv.fresh (Opd.tmp rfl) (by assumption) (by first | ((repeat (first | exact List.Mem.head _ | apply List.Mem.tail)); done) | fail))) ?_)); done) | fail)
    (hd : Nat.blt d nt = true := by exact rfl)
    : DWU Try.prog ops ⟨nt, env, H⟩ ns (j + 1) (⟨some d, .call ⟨.value (.func f), args.toArray, ts⟩, ty, pos, after, none⟩ :: rest) K := du_call (Opd.func f) hc hg hd k
theorem uS {d t e size bytes j : Nat} (c : Nat → List AV) (k : DWU Try.prog ops ⟨nt, (d, top) :: env, H⟩ (ns.add d (.row e size 0 c fun sv => vv sv)) j rest K)
    (ht : TyE Try.prog t e size bytes := by
      first
      | exact tyE_Relay
      | exact tyE_f32
      | exact tyE_bool
    )
    (hd : Nat.blt d nt = true := by exact rfl)
    : DWU Try.prog ops ⟨nt, env, H⟩ ns (j + 1) (⟨some d, .buildSlice t 0 #[], ty, pos, after, none⟩ :: rest) K := du_slice0 ht hd k
theorem gU_gd {j1 : Nat} {s : AS} {d : Option Tmp} {g : Nat × Bool} (h : DWU Try.prog ops s ns (j1 + 1) (⟨d, op, ty, pos, after, some g⟩ :: rest) K) : DWU Try.prog ops s ns (j1 + 1) (⟨d, op, ty, pos, after, some g⟩ :: rest) K := h
theorem uY {d : Option Tmp} {j dj j1 : Nat} {want b : Bool} {s : AS} (k : DWU Try.prog ops s ns (j1 + 1) (⟨d, op, ty, pos, after, none⟩ :: rest) K)
    (hj : (ops[j]?).bind (·.dst) = some dj := by exact rfl)
    (hb : look dj s.env = some (vv (.bool b)) := by exact rfl)
    (he : b = want := by first | assumption | rfl)
    : DWU Try.prog ops s ns (j1 + 1) (⟨d, op, ty, pos, after, some (j, want)⟩ :: rest) K := du_gyes hj hb he k
theorem uN {d j dj j1 : Nat} {want b : Bool} (k : DWU Try.prog ops ⟨nt, (d, vv undef) :: env, H⟩ ns.up j1 rest K)
    (hj : (ops[j]?).bind (·.dst) = some dj := by exact rfl)
    (hb : look dj env = some (vv (.bool b)) := by exact rfl)
    (he : b = !want := by first | assumption | rfl)
    (hd : Nat.blt d nt = true := by exact rfl)
    : DWU Try.prog ops ⟨nt, env, H⟩ ns (j1 + 1) (⟨some d, op, ty, pos, after, some (j, want)⟩ :: rest) K := du_gno hj hb he hd k
end
end Go.Proofs.Ytebjdijlaaipdaa
