/-
  The steps of the abstract walk. Conditions: none.
-/
import Derived.Test.YtebjdijlaaipdaaBB
namespace Go.Proofs.Ytebjdijlaaipdaa
open Go Go.RowKit

section
variable {P : Program} {s : AS} {ty : TypeId} {pos : String} {after : Array Edge} {d : Option Tmp} {A : AV} {gg : Option (Nat × Bool)}
end

section
variable {w0 : World} {ops : Array Oper} {nt : Nat} {env : List (Nat × AV)} {H : List HE} {rest : List Oper} {Q : Exit → Act → World → Prop} {op : Op} {ty : TypeId} {pos : String} {after : Array Edge} {ns : Option (Nat × List AV)} {K : AS → Option (Nat × List AV) → Prop}
theorem sE_move {d : Nat} {A : AV} {x : Operand} (k : AOps Try.prog w0 ops ⟨nt, (d, A) :: env, H⟩ rest Q)
    (h : Ev Try.prog ⟨nt, env, H⟩ ⟨some d, .move x, ty, pos, after, none⟩ A := by
      first
      | exact ev_moveF rfl (by decide +kernel)
      | exact ev_move rfl (by first | exact Opd.tmp rfl | exact Opd.c _ | exact Opd.func _)
    )
    (hd : Nat.blt d nt = true := by exact rfl
    )
    : AOps Try.prog w0 ops ⟨nt, env, H⟩ (⟨some d, .move x, ty, pos, after, none⟩ :: rest) Q := aops_ev h hd k
theorem sE_assign {d : Nat} {A : AV} {x : Operand} (k : AOps Try.prog w0 ops ⟨nt, (d, A) :: env, H⟩ rest Q)
    (h : Ev Try.prog ⟨nt, env, H⟩ ⟨some d, .assign x, ty, pos, after, none⟩ A := by
      first
      | exact ev_assignF rfl (by decide +kernel)
      | exact ev_assign rfl (by first | exact Opd.tmp rfl | exact Opd.c _ | exact Opd.func _)
    )
    (hd : Nat.blt d nt = true := by exact rfl
    )
    : AOps Try.prog w0 ops ⟨nt, env, H⟩ (⟨some d, .assign x, ty, pos, after, none⟩ :: rest) Q := aops_ev h hd k
theorem sE_pick {d : Nat} {A : AV} {x y z : Operand} (k : AOps Try.prog w0 ops ⟨nt, (d, A) :: env, H⟩ rest Q)
    (h : Ev Try.prog ⟨nt, env, H⟩ ⟨some d, .pick x y z, ty, pos, after, none⟩ A := by
      first
      | exact ev_pickT rfl (by first | exact Opd.tmp rfl | exact Opd.c _ | exact Opd.func _) (by first | assumption | rfl | exact decide_eq_false (by omega) | exact decide_eq_true (by omega) | exact bne_self_eq_false _) (by first | exact Opd.tmp rfl | exact Opd.c _ | exact Opd.func _)
      | exact ev_pickF rfl (by first | exact Opd.tmp rfl | exact Opd.c _ | exact Opd.func _) (by first | assumption | rfl | exact decide_eq_false (by omega) | exact decide_eq_true (by omega) | exact bne_self_eq_false _) (by first | exact Opd.tmp rfl | exact Opd.c _ | exact Opd.func _)
    )
    (hd : Nat.blt d nt = true := by exact rfl
    )
    : AOps Try.prog w0 ops ⟨nt, env, H⟩ (⟨some d, .pick x y z, ty, pos, after, none⟩ :: rest) Q := aops_ev h hd k
theorem sE_load {d : Nat} {A : AV} {t : TypeId} {x : Operand} (k : AOps Try.prog w0 ops ⟨nt, (d, A) :: env, H⟩ rest Q)
    (h : Ev Try.prog ⟨nt, env, H⟩ ⟨some d, .load t x, ty, pos, after, none⟩ A := by
      first
      | exact ld_Vector rfl (by first | exact Opd.tmp rfl | exact Opd.c _ | exact Opd.func _) tyA_Relay (by first | ((repeat (first | exact List.Mem.head _ | apply List.Mem.tail)); done) | fail) rfl
      | exact ldR_Vector rfl (by first | exact Opd.tmp rfl | exact Opd.c _ | exact Opd.func _) tyA_Relay rfl
      | exact ld_Vector3 rfl (by first | exact Opd.tmp rfl | exact Opd.c _ | exact Opd.func _) tyA_Relay (by first | ((repeat (first | exact List.Mem.head _ | apply List.Mem.tail)); done) | fail) rfl
      | exact ldR_Vector3 rfl (by first | exact Opd.tmp rfl | exact Opd.c _ | exact Opd.func _) tyA_Relay rfl
      | exact ev_loadP rfl (by first | exact Opd.tmp rfl | exact Opd.c _ | exact Opd.func _) tyP_f32 (by first | ((repeat (first | exact List.Mem.head _ | apply List.Mem.tail)); done) | fail) rfl
      | exact ev_loadRP rfl (by first | exact Opd.tmp rfl | exact Opd.c _ | exact Opd.func _) tyP_f32 rfl
      | exact ev_loadP rfl (by first | exact Opd.tmp rfl | exact Opd.c _ | exact Opd.func _) tyP_i64 (by first | ((repeat (first | exact List.Mem.head _ | apply List.Mem.tail)); done) | fail) rfl
      | exact ev_loadRP rfl (by first | exact Opd.tmp rfl | exact Opd.c _ | exact Opd.func _) tyP_i64 rfl
      | exact ev_loadP rfl (by first | exact Opd.tmp rfl | exact Opd.c _ | exact Opd.func _) tyP_int (by first | ((repeat (first | exact List.Mem.head _ | apply List.Mem.tail)); done) | fail) rfl
      | exact ev_loadRP rfl (by first | exact Opd.tmp rfl | exact Opd.c _ | exact Opd.func _) tyP_int rfl
      | exact ev_loadP rfl (by first | exact Opd.tmp rfl | exact Opd.c _ | exact Opd.func _) tyP_bool (by first | ((repeat (first | exact List.Mem.head _ | apply List.Mem.tail)); done) | fail) rfl
      | exact ev_loadRP rfl (by first | exact Opd.tmp rfl | exact Opd.c _ | exact Opd.func _) tyP_bool rfl
      | exact ev_loadP rfl (by first | exact Opd.tmp rfl | exact Opd.c _ | exact Opd.func _) tyP_sf32 (by first | ((repeat (first | exact List.Mem.head _ | apply List.Mem.tail)); done) | fail) rfl
      | exact ev_loadRP rfl (by first | exact Opd.tmp rfl | exact Opd.c _ | exact Opd.func _) tyP_sf32 rfl
    )
    (hd : Nat.blt d nt = true := by exact rfl
    )
    : AOps Try.prog w0 ops ⟨nt, env, H⟩ (⟨some d, .load t x, ty, pos, after, none⟩ :: rest) Q := aops_ev h hd k
theorem sE_field {d : Nat} {A : AV} {t : TypeId} {x : Operand} {jj : Nat} (k : AOps Try.prog w0 ops ⟨nt, (d, A) :: env, H⟩ rest Q)
    (h : Ev Try.prog ⟨nt, env, H⟩ ⟨some d, .fieldAddr t x jj, ty, pos, after, none⟩ A := by
      first
      | exact ev_field rfl (by first | exact Opd.tmp rfl | exact Opd.c _ | exact Opd.func _) tyF_Relay_Up
      | exact ev_fieldR rfl (by first | exact Opd.tmp rfl | exact Opd.c _ | exact Opd.func _) tyF_Relay_Up
      | exact ev_field rfl (by first | exact Opd.tmp rfl | exact Opd.c _ | exact Opd.func _) tyF_Relay_Down
      | exact ev_fieldR rfl (by first | exact Opd.tmp rfl | exact Opd.c _ | exact Opd.func _) tyF_Relay_Down
      | exact ev_field rfl (by first | exact Opd.tmp rfl | exact Opd.c _ | exact Opd.func _) tyF_Relay_Weight
      | exact ev_fieldR rfl (by first | exact Opd.tmp rfl | exact Opd.c _ | exact Opd.func _) tyF_Relay_Weight
    )
    (hd : Nat.blt d nt = true := by exact rfl
    )
    : AOps Try.prog w0 ops ⟨nt, env, H⟩ (⟨some d, .fieldAddr t x jj, ty, pos, after, none⟩ :: rest) Q := aops_ev h hd k
theorem sE_index {d : Nat} {A : AV} {t : TypeId} {x y : Operand} (k : AOps Try.prog w0 ops ⟨nt, (d, A) :: env, H⟩ rest Q)
    (h : Ev Try.prog ⟨nt, env, H⟩ ⟨some d, .indexAddr t x y, ty, pos, after, none⟩ A := by
      first
      | exact ev_index rfl (by first | exact Opd.tmp rfl | exact Opd.c _ | exact Opd.func _) (by first | exact Opd.tmp rfl | exact Opd.c _ | exact Opd.func _) tyS_Relay (by omega)
      | exact ev_indexZ rfl (by first | exact Opd.tmp rfl | exact Opd.c _ | exact Opd.func _) (by first | exact Opd.tmp rfl | exact Opd.c _ | exact Opd.func _) tyS_Relay (by omega) (by omega)
      | exact ev_index rfl (by first | exact Opd.tmp rfl | exact Opd.c _ | exact Opd.func _) (by first | exact Opd.tmp rfl | exact Opd.c _ | exact Opd.func _) tyS_f32 (by omega)
      | exact ev_indexZ rfl (by first | exact Opd.tmp rfl | exact Opd.c _ | exact Opd.func _) (by first | exact Opd.tmp rfl | exact Opd.c _ | exact Opd.func _) tyS_f32 (by omega) (by omega)
      | exact ev_index rfl (by first | exact Opd.tmp rfl | exact Opd.c _ | exact Opd.func _) (by first | exact Opd.tmp rfl | exact Opd.c _ | exact Opd.func _) tyS_bool (by omega)
      | exact ev_indexZ rfl (by first | exact Opd.tmp rfl | exact Opd.c _ | exact Opd.func _) (by first | exact Opd.tmp rfl | exact Opd.c _ | exact Opd.func _) tyS_bool (by omega) (by omega)
    )
    (hd : Nat.blt d nt = true := by exact rfl
    )
    : AOps Try.prog w0 ops ⟨nt, env, H⟩ (⟨some d, .indexAddr t x y, ty, pos, after, none⟩ :: rest) Q := aops_ev h hd k
theorem sE_bin {d : Nat} {A : AV} {bo : BinOp} {t t2 : TypeId} {x y : Operand} (k : AOps Try.prog w0 ops ⟨nt, (d, A) :: env, H⟩ rest Q)
    (h : Ev Try.prog ⟨nt, env, H⟩ ⟨some d, .binOp bo t x y t2, ty, pos, after, none⟩ A := by
      first
      | exact ev_fop rfl rfl (by first | exact OpF.tmp rfl | exact OpF.c (by decide +kernel)) (by first | exact OpF.tmp rfl | exact OpF.c (by decide +kernel))
      | exact ev_fcmp rfl rfl (by first | exact OpF.tmp rfl | exact OpF.c (by decide +kernel)) (by first | exact OpF.tmp rfl | exact OpF.c (by decide +kernel))
      | exact ev_icmp rfl (by first | exact Opd.tmp rfl | exact Opd.c _ | exact Opd.func _) (by first | exact Opd.tmp rfl | exact Opd.c _ | exact Opd.func _) rfl
      | exact ev_beq rfl (by first | exact Opd.tmp rfl | exact Opd.c _ | exact Opd.func _) (by first | exact Opd.tmp rfl | exact Opd.c _ | exact Opd.func _) Try.underlying4 rfl
      | exact ev_iar rfl (by first | exact Opd.tmp rfl | exact Opd.c _ | exact Opd.func _) (by first | exact Opd.tmp rfl | exact Opd.c _ | exact Opd.func _) rfl (IntWalk.i64_in _ (by omega))
    )
    (hd : Nat.blt d nt = true := by exact rfl
    )
    : AOps Try.prog w0 ops ⟨nt, env, H⟩ (⟨some d, .binOp bo t x y t2, ty, pos, after, none⟩ :: rest) Q := aops_ev h hd k
theorem sE_un {d : Nat} {A : AV} {bo : UnOp} {t : TypeId} {x : Operand} (k : AOps Try.prog w0 ops ⟨nt, (d, A) :: env, H⟩ rest Q)
    (h : Ev Try.prog ⟨nt, env, H⟩ ⟨some d, .unOp bo t x, ty, pos, after, none⟩ A := by
      first
      | exact ev_not rfl (by first | exact Opd.tmp rfl | exact Opd.c _ | exact Opd.func _)
      | exact ev_fneg rfl (by first | exact OpF.tmp rfl | exact OpF.c (by decide +kernel))
    )
    (hd : Nat.blt d nt = true := by exact rfl
    )
    : AOps Try.prog w0 ops ⟨nt, env, H⟩ (⟨some d, .unOp bo t x, ty, pos, after, none⟩ :: rest) Q := aops_ev h hd k
theorem sE_conv {d : Nat} {A : AV} {t t2 : TypeId} {x : Operand} (k : AOps Try.prog w0 ops ⟨nt, (d, A) :: env, H⟩ rest Q)
    (h : Ev Try.prog ⟨nt, env, H⟩ ⟨some d, .convert t t2 x, ty, pos, after, none⟩ A := by
      first
      | exact ev_fcvt rfl Try.underlying28 Try.underlying44 (by decide) (by first | exact OpF.tmp rfl | exact OpF.c (by decide +kernel)) (fits_widen _)
      | exact ev_fcvt rfl Try.underlying44 Try.underlying28 (by decide) (by first | exact OpF.tmp rfl | exact OpF.c (by decide +kernel)) (by assumption)
      | exact ev_fsame rfl Try.underlying28 Try.underlying28 (by first | exact OpF.tmp rfl | exact OpF.c (by decide +kernel))
      | exact ev_itof rfl (by rw [Try.underlying3]; rfl) Try.underlying28 (by first | exact Opd.tmp rfl | exact Opd.c _ | exact Opd.func _)
      | exact ev_itof rfl (by rw [Try.underlying3]; rfl) Try.underlying44 (by first | exact Opd.tmp rfl | exact Opd.c _ | exact Opd.func _)
      | exact ev_itof rfl (by rw [Try.underlying2]; rfl) Try.underlying28 (by first | exact Opd.tmp rfl | exact Opd.c _ | exact Opd.func _)
      | exact ev_itof rfl (by rw [Try.underlying2]; rfl) Try.underlying44 (by first | exact Opd.tmp rfl | exact Opd.c _ | exact Opd.func _)
      | exact ev_itoi rfl (by rw [Try.underlying3]; rfl) Try.underlying2 (by first | exact Opd.tmp rfl | exact Opd.c _ | exact Opd.func _) (IntWalk.i64_in _ (by omega))
      | exact ev_itoi rfl (by rw [Try.underlying2]; rfl) Try.underlying3 (by first | exact Opd.tmp rfl | exact Opd.c _ | exact Opd.func _) (IntWalk.i64_in _ (by omega))
    )
    (hd : Nat.blt d nt = true := by exact rfl
    )
    : AOps Try.prog w0 ops ⟨nt, env, H⟩ (⟨some d, .convert t t2 x, ty, pos, after, none⟩ :: rest) Q := aops_ev h hd k
theorem sE_callb {d : Nat} {A : AV} {bo : Builtin} {xs : Array Operand} {ts : Array TypeId} (k : AOps Try.prog w0 ops ⟨nt, (d, A) :: env, H⟩ rest Q)
    (h : Ev Try.prog ⟨nt, env, H⟩ ⟨some d, .call ⟨.builtin bo, xs, ts⟩, ty, pos, after, none⟩ A := by
      first
      | exact ev_len rfl (by first | exact Opd.tmp rfl | exact Opd.c _ | exact Opd.func _) tyS_Relay
      | exact ev_lenO rfl (by first | exact Opd.tmp rfl | exact Opd.c _ | exact Opd.func _) (by first | ((repeat (first | exact List.Mem.head _ | apply List.Mem.tail)); done) | fail) tyS_Relay
      | exact ev_len rfl (by first | exact Opd.tmp rfl | exact Opd.c _ | exact Opd.func _) tyS_f32
      | exact ev_lenO rfl (by first | exact Opd.tmp rfl | exact Opd.c _ | exact Opd.func _) (by first | ((repeat (first | exact List.Mem.head _ | apply List.Mem.tail)); done) | fail) tyS_f32
      | exact ev_len rfl (by first | exact Opd.tmp rfl | exact Opd.c _ | exact Opd.func _) tyS_bool
      | exact ev_lenO rfl (by first | exact Opd.tmp rfl | exact Opd.c _ | exact Opd.func _) (by first | ((repeat (first | exact List.Mem.head _ | apply List.Mem.tail)); done) | fail) tyS_bool
    )
    (hd : Nat.blt d nt = true := by exact rfl
    )
    : AOps Try.prog w0 ops ⟨nt, env, H⟩ (⟨some d, .call ⟨.builtin bo, xs, ts⟩, ty, pos, after, none⟩ :: rest) Q := aops_ev h hd k
theorem sE_build {d : Nat} {A : AV} {t : TypeId} {ps : Array (Nat × Operand)} (k : AOps Try.prog w0 ops ⟨nt, (d, A) :: env, H⟩ rest Q)
    (h : Ev Try.prog ⟨nt, env, H⟩ ⟨some d, .build t ps, ty, pos, after, none⟩ A := by
      first
      | exact bd_Vector rfl tyB_Relay (by first | exact Parts.nil | exact (Parts.cons (by first | exact Opd.tmp rfl | exact Opd.c _ | exact Opd.func _) (by first | exact cellsOf_agg _ | exact cellsOf_fl _ _ | exact cellsOf_vv rfl | exact cellsOf_rs _ _ _ | exact cellsOf_rp _ _ | exact cellsOf_vv (by assumption)) Parts.nil) | exact (Parts.cons (by first | exact Opd.tmp rfl | exact Opd.c _ | exact Opd.func _) (by first | exact cellsOf_agg _ | exact cellsOf_fl _ _ | exact cellsOf_vv rfl | exact cellsOf_rs _ _ _ | exact cellsOf_rp _ _ | exact cellsOf_vv (by assumption)) (Parts.cons (by first | exact Opd.tmp rfl | exact Opd.c _ | exact Opd.func _) (by first | exact cellsOf_agg _ | exact cellsOf_fl _ _ | exact cellsOf_vv rfl | exact cellsOf_rs _ _ _ | exact cellsOf_rp _ _ | exact cellsOf_vv (by assumption)) Parts.nil)) | exact (Parts.cons (by first | exact Opd.tmp rfl | exact Opd.c _ | exact Opd.func _) (by first | exact cellsOf_agg _ | exact cellsOf_fl _ _ | exact cellsOf_vv rfl | exact cellsOf_rs _ _ _ | exact cellsOf_rp _ _ | exact cellsOf_vv (by assumption)) (Parts.cons (by first | exact Opd.tmp rfl | exact Opd.c _ | exact Opd.func _) (by first | exact cellsOf_agg _ | exact cellsOf_fl _ _ | exact cellsOf_vv rfl | exact cellsOf_rs _ _ _ | exact cellsOf_rp _ _ | exact cellsOf_vv (by assumption)) (Parts.cons (by first | exact Opd.tmp rfl | exact Opd.c _ | exact Opd.func _) (by first | exact cellsOf_agg _ | exact cellsOf_fl _ _ | exact cellsOf_vv rfl | exact cellsOf_rs _ _ _ | exact cellsOf_rp _ _ | exact cellsOf_vv (by assumption)) Parts.nil))) | exact (Parts.cons (by first | exact Opd.tmp rfl | exact Opd.c _ | exact Opd.func _) (by first | exact cellsOf_agg _ | exact cellsOf_fl _ _ | exact cellsOf_vv rfl | exact cellsOf_rs _ _ _ | exact cellsOf_rp _ _ | exact cellsOf_vv (by assumption)) (Parts.cons (by first | exact Opd.tmp rfl | exact Opd.c _ | exact Opd.func _) (by first | exact cellsOf_agg _ | exact cellsOf_fl _ _ | exact cellsOf_vv rfl | exact cellsOf_rs _ _ _ | exact cellsOf_rp _ _ | exact cellsOf_vv (by assumption)) (Parts.cons (by first | exact Opd.tmp rfl | exact Opd.c _ | exact Opd.func _) (by first | exact cellsOf_agg _ | exact cellsOf_fl _ _ | exact cellsOf_vv rfl | exact cellsOf_rs _ _ _ | exact cellsOf_rp _ _ | exact cellsOf_vv (by assumption)) (Parts.cons (by first | exact Opd.tmp rfl | exact Opd.c _ | exact Opd.func _) (by first | exact cellsOf_agg _ | exact cellsOf_fl _ _ | exact cellsOf_vv rfl | exact cellsOf_rs _ _ _ | exact cellsOf_rp _ _ | exact cellsOf_vv (by assumption)) Parts.nil)))) | exact (Parts.cons (by first | exact Opd.tmp rfl | exact Opd.c _ | exact Opd.func _) (by first | exact cellsOf_agg _ | exact cellsOf_fl _ _ | exact cellsOf_vv rfl | exact cellsOf_rs _ _ _ | exact cellsOf_rp _ _ | exact cellsOf_vv (by assumption)) (Parts.cons (by first | exact Opd.tmp rfl | exact Opd.c _ | exact Opd.func _) (by first | exact cellsOf_agg _ | exact cellsOf_fl _ _ | exact cellsOf_vv rfl | exact cellsOf_rs _ _ _ | exact cellsOf_rp _ _ | exact cellsOf_vv (by assumption)) (Parts.cons (by first | exact Opd.tmp rfl | exact Opd.c _ | exact Opd.func _) (by first | exact cellsOf_agg _ | exact cellsOf_fl _ _ | exact cellsOf_vv rfl | exact cellsOf_rs _ _ _ | exact cellsOf_rp _ _ | exact cellsOf_vv (by assumption)) (Parts.cons (by first | exact Opd.tmp rfl | exact Opd.c _ | exact Opd.func _) (by first | exact cellsOf_agg _ | exact cellsOf_fl _ _ | exact cellsOf_vv rfl | exact cellsOf_rs _ _ _ | exact cellsOf_rp _ _ | exact cellsOf_vv (by assumption)) (Parts.cons (by first | exact Opd.tmp rfl | exact Opd.c _ | exact Opd.func _) (by first | exact cellsOf_agg _ | exact cellsOf_fl _ _ | exact cellsOf_vv rfl | exact cellsOf_rs _ _ _ | exact cellsOf_rp _ _ | exact cellsOf_vv (by assumption)) Parts.nil))))) | exact (Parts.cons (by first | exact Opd.tmp rfl | exact Opd.c _ | exact Opd.func _) (by first | exact cellsOf_agg _ | exact cellsOf_fl _ _ | exact cellsOf_vv rfl | exact cellsOf_rs _ _ _ | exact cellsOf_rp _ _ | exact cellsOf_vv (by assumption)) (Parts.cons (by first | exact Opd.tmp rfl | exact Opd.c _ | exact Opd.func _) (by first | exact cellsOf_agg _ | exact cellsOf_fl _ _ | exact cellsOf_vv rfl | exact cellsOf_rs _ _ _ | exact cellsOf_rp _ _ | exact cellsOf_vv (by assumption)) (Parts.cons (by first | exact Opd.tmp rfl | exact Opd.c _ | exact Opd.func _) (by first | exact cellsOf_agg _ | exact cellsOf_fl _ _ | exact cellsOf_vv rfl | exact cellsOf_rs _ _ _ | exact cellsOf_rp _ _ | exact cellsOf_vv (by assumption)) (Parts.cons (by first | exact Opd.tmp rfl | exact Opd.c _ | exact Opd.func _) (by first | exact cellsOf_agg _ | exact cellsOf_fl _ _ | exact cellsOf_vv rfl | exact cellsOf_rs _ _ _ | exact cellsOf_rp _ _ | exact cellsOf_vv (by assumption)) (Parts.cons (by first | exact Opd.tmp rfl | exact Opd.c _ | exact Opd.func _) (by first | exact cellsOf_agg _ | exact cellsOf_fl _ _ | exact cellsOf_vv rfl | exact cellsOf_rs _ _ _ | exact cellsOf_rp _ _ | exact cellsOf_vv (by assumption)) (Parts.cons (by first | exact Opd.tmp rfl | exact Opd.c _ | exact Opd.func _) (by first | exact cellsOf_agg _ | exact cellsOf_fl _ _ | exact cellsOf_vv rfl | exact cellsOf_rs _ _ _ | exact cellsOf_rp _ _ | exact cellsOf_vv (by assumption)) Parts.nil))))))) rfl
      | exact bd_Vector3 rfl tyB_Relay (by first | exact Parts.nil | exact (Parts.cons (by first | exact Opd.tmp rfl | exact Opd.c _ | exact Opd.func _) (by first | exact cellsOf_agg _ | exact cellsOf_fl _ _ | exact cellsOf_vv rfl | exact cellsOf_rs _ _ _ | exact cellsOf_rp _ _ | exact cellsOf_vv (by assumption)) Parts.nil) | exact (Parts.cons (by first | exact Opd.tmp rfl | exact Opd.c _ | exact Opd.func _) (by first | exact cellsOf_agg _ | exact cellsOf_fl _ _ | exact cellsOf_vv rfl | exact cellsOf_rs _ _ _ | exact cellsOf_rp _ _ | exact cellsOf_vv (by assumption)) (Parts.cons (by first | exact Opd.tmp rfl | exact Opd.c _ | exact Opd.func _) (by first | exact cellsOf_agg _ | exact cellsOf_fl _ _ | exact cellsOf_vv rfl | exact cellsOf_rs _ _ _ | exact cellsOf_rp _ _ | exact cellsOf_vv (by assumption)) Parts.nil)) | exact (Parts.cons (by first | exact Opd.tmp rfl | exact Opd.c _ | exact Opd.func _) (by first | exact cellsOf_agg _ | exact cellsOf_fl _ _ | exact cellsOf_vv rfl | exact cellsOf_rs _ _ _ | exact cellsOf_rp _ _ | exact cellsOf_vv (by assumption)) (Parts.cons (by first | exact Opd.tmp rfl | exact Opd.c _ | exact Opd.func _) (by first | exact cellsOf_agg _ | exact cellsOf_fl _ _ | exact cellsOf_vv rfl | exact cellsOf_rs _ _ _ | exact cellsOf_rp _ _ | exact cellsOf_vv (by assumption)) (Parts.cons (by first | exact Opd.tmp rfl | exact Opd.c _ | exact Opd.func _) (by first | exact cellsOf_agg _ | exact cellsOf_fl _ _ | exact cellsOf_vv rfl | exact cellsOf_rs _ _ _ | exact cellsOf_rp _ _ | exact cellsOf_vv (by assumption)) Parts.nil))) | exact (Parts.cons (by first | exact Opd.tmp rfl | exact Opd.c _ | exact Opd.func _) (by first | exact cellsOf_agg _ | exact cellsOf_fl _ _ | exact cellsOf_vv rfl | exact cellsOf_rs _ _ _ | exact cellsOf_rp _ _ | exact cellsOf_vv (by assumption)) (Parts.cons (by first | exact Opd.tmp rfl | exact Opd.c _ | exact Opd.func _) (by first | exact cellsOf_agg _ | exact cellsOf_fl _ _ | exact cellsOf_vv rfl | exact cellsOf_rs _ _ _ | exact cellsOf_rp _ _ | exact cellsOf_vv (by assumption)) (Parts.cons (by first | exact Opd.tmp rfl | exact Opd.c _ | exact Opd.func _) (by first | exact cellsOf_agg _ | exact cellsOf_fl _ _ | exact cellsOf_vv rfl | exact cellsOf_rs _ _ _ | exact cellsOf_rp _ _ | exact cellsOf_vv (by assumption)) (Parts.cons (by first | exact Opd.tmp rfl | exact Opd.c _ | exact Opd.func _) (by first | exact cellsOf_agg _ | exact cellsOf_fl _ _ | exact cellsOf_vv rfl | exact cellsOf_rs _ _ _ | exact cellsOf_rp _ _ | exact cellsOf_vv (by assumption)) Parts.nil)))) | exact (Parts.cons (by first | exact Opd.tmp rfl | exact Opd.c _ | exact Opd.func _) (by first | exact cellsOf_agg _ | exact cellsOf_fl _ _ | exact cellsOf_vv rfl | exact cellsOf_rs _ _ _ | exact cellsOf_rp _ _ | exact cellsOf_vv (by assumption)) (Parts.cons (by first | exact Opd.tmp rfl | exact Opd.c _ | exact Opd.func _) (by first | exact cellsOf_agg _ | exact cellsOf_fl _ _ | exact cellsOf_vv rfl | exact cellsOf_rs _ _ _ | exact cellsOf_rp _ _ | exact cellsOf_vv (by assumption)) (Parts.cons (by first | exact Opd.tmp rfl | exact Opd.c _ | exact Opd.func _) (by first | exact cellsOf_agg _ | exact cellsOf_fl _ _ | exact cellsOf_vv rfl | exact cellsOf_rs _ _ _ | exact cellsOf_rp _ _ | exact cellsOf_vv (by assumption)) (Parts.cons (by first | exact Opd.tmp rfl | exact Opd.c _ | exact Opd.func _) (by first | exact cellsOf_agg _ | exact cellsOf_fl _ _ | exact cellsOf_vv rfl | exact cellsOf_rs _ _ _ | exact cellsOf_rp _ _ | exact cellsOf_vv (by assumption)) (Parts.cons (by first | exact Opd.tmp rfl | exact Opd.c _ | exact Opd.func _) (by first | exact cellsOf_agg _ | exact cellsOf_fl _ _ | exact cellsOf_vv rfl | exact cellsOf_rs _ _ _ | exact cellsOf_rp _ _ | exact cellsOf_vv (by assumption)) Parts.nil))))) | exact (Parts.cons (by first | exact Opd.tmp rfl | exact Opd.c _ | exact Opd.func _) (by first | exact cellsOf_agg _ | exact cellsOf_fl _ _ | exact cellsOf_vv rfl | exact cellsOf_rs _ _ _ | exact cellsOf_rp _ _ | exact cellsOf_vv (by assumption)) (Parts.cons (by first | exact Opd.tmp rfl | exact Opd.c _ | exact Opd.func _) (by first | exact cellsOf_agg _ | exact cellsOf_fl _ _ | exact cellsOf_vv rfl | exact cellsOf_rs _ _ _ | exact cellsOf_rp _ _ | exact cellsOf_vv (by assumption)) (Parts.cons (by first | exact Opd.tmp rfl | exact Opd.c _ | exact Opd.func _) (by first | exact cellsOf_agg _ | exact cellsOf_fl _ _ | exact cellsOf_vv rfl | exact cellsOf_rs _ _ _ | exact cellsOf_rp _ _ | exact cellsOf_vv (by assumption)) (Parts.cons (by first | exact Opd.tmp rfl | exact Opd.c _ | exact Opd.func _) (by first | exact cellsOf_agg _ | exact cellsOf_fl _ _ | exact cellsOf_vv rfl | exact cellsOf_rs _ _ _ | exact cellsOf_rp _ _ | exact cellsOf_vv (by assumption)) (Parts.cons (by first | exact Opd.tmp rfl | exact Opd.c _ | exact Opd.func _) (by first | exact cellsOf_agg _ | exact cellsOf_fl _ _ | exact cellsOf_vv rfl | exact cellsOf_rs _ _ _ | exact cellsOf_rp _ _ | exact cellsOf_vv (by assumption)) (Parts.cons (by first | exact Opd.tmp rfl | exact Opd.c _ | exact Opd.func _) (by first | exact cellsOf_agg _ | exact cellsOf_fl _ _ | exact cellsOf_vv rfl | exact cellsOf_rs _ _ _ | exact cellsOf_rp _ _ | exact cellsOf_vv (by assumption)) Parts.nil))))))) rfl
    )
    (hd : Nat.blt d nt = true := by exact rfl
    )
    : AOps Try.prog w0 ops ⟨nt, env, H⟩ (⟨some d, .build t ps, ty, pos, after, none⟩ :: rest) Q := aops_ev h hd k
theorem sE_ext {d : Nat} {A : AV} {x : Operand} {jj : Nat} (k : AOps Try.prog w0 ops ⟨nt, (d, A) :: env, H⟩ rest Q)
    (h : Ev Try.prog ⟨nt, env, H⟩ ⟨some d, .extract x jj, ty, pos, after, none⟩ A := by
      first
      | exact ev_extract rfl (by first | exact Opd.tmp rfl | exact Opd.c _ | exact Opd.func _) rfl
    )
    (hd : Nat.blt d nt = true := by exact rfl
    )
    : AOps Try.prog w0 ops ⟨nt, env, H⟩ (⟨some d, .extract x jj, ty, pos, after, none⟩ :: rest) Q := aops_ev h hd k
theorem sE_slice {d : Nat} {A : AV} {t : TypeId} {x : Operand} {l hi mx : Option Operand} (k : AOps Try.prog w0 ops ⟨nt, (d, A) :: env, H⟩ rest Q)
    (h : Ev Try.prog ⟨nt, env, H⟩ ⟨some d, .slice t x l hi mx, ty, pos, after, none⟩ A := by
      first
      | exact ev_sliceLo rfl (by first | exact Opd.tmp rfl | exact Opd.c _ | exact Opd.func _) (by first | exact Opd.tmp rfl | exact Opd.c _ | exact Opd.func _) tyS_Relay (by omega)
      | exact ev_sliceLoZ rfl (by first | exact Opd.tmp rfl | exact Opd.c _ | exact Opd.func _) (by first | exact Opd.tmp rfl | exact Opd.c _ | exact Opd.func _) tyS_Relay (by omega) (by omega)
      | exact ev_sliceLo rfl (by first | exact Opd.tmp rfl | exact Opd.c _ | exact Opd.func _) (by first | exact Opd.tmp rfl | exact Opd.c _ | exact Opd.func _) tyS_f32 (by omega)
      | exact ev_sliceLoZ rfl (by first | exact Opd.tmp rfl | exact Opd.c _ | exact Opd.func _) (by first | exact Opd.tmp rfl | exact Opd.c _ | exact Opd.func _) tyS_f32 (by omega) (by omega)
      | exact ev_sliceLo rfl (by first | exact Opd.tmp rfl | exact Opd.c _ | exact Opd.func _) (by first | exact Opd.tmp rfl | exact Opd.c _ | exact Opd.func _) tyS_bool (by omega)
      | exact ev_sliceLoZ rfl (by first | exact Opd.tmp rfl | exact Opd.c _ | exact Opd.func _) (by first | exact Opd.tmp rfl | exact Opd.c _ | exact Opd.func _) tyS_bool (by omega) (by omega)
    )
    (hd : Nat.blt d nt = true := by exact rfl
    )
    : AOps Try.prog w0 ops ⟨nt, env, H⟩ (⟨some d, .slice t x l hi mx, ty, pos, after, none⟩ :: rest) Q := aops_ev h hd k
theorem sE_nilc {d : Nat} {A : AV} {x : Operand} (k : AOps Try.prog w0 ops ⟨nt, (d, A) :: env, H⟩ rest Q)
    (h : Ev Try.prog ⟨nt, env, H⟩ ⟨some d, .nilCheck x, ty, pos, after, none⟩ A := by
      first
      | exact ev_nilc rfl (by first | exact Opd.tmp rfl | exact Opd.c _ | exact Opd.func _)
      | exact ev_nilcR rfl (by first | exact Opd.tmp rfl | exact Opd.c _ | exact Opd.func _)
    )
    (hd : Nat.blt d nt = true := by exact rfl
    )
    : AOps Try.prog w0 ops ⟨nt, env, H⟩ (⟨some d, .nilCheck x, ty, pos, after, none⟩ :: rest) Q := aops_ev h hd k
theorem sE_func {d : Nat} {A : AV} {fn : Fn} {xs ys : Array Operand} (k : AOps Try.prog w0 ops ⟨nt, (d, A) :: env, H⟩ rest Q)
    (h : Ev Try.prog ⟨nt, env, H⟩ ⟨some d, .makeFunc fn xs ys, ty, pos, after, none⟩ A := by
      first
      | exact ev_makeFunc rfl (by first | exact Opds.nil | exact (Opds.cons (by first | exact Opd.tmp rfl | exact Opd.c _ | exact Opd.func _) Opds.nil) | exact (Opds.cons (by first | exact Opd.tmp rfl | exact Opd.c _ | exact Opd.func _) (Opds.cons (by first | exact Opd.tmp rfl | exact Opd.c _ | exact Opd.func _) Opds.nil)) | exact (Opds.cons (by first | exact Opd.tmp rfl | exact Opd.c _ | exact Opd.func _) (Opds.cons (by first | exact Opd.tmp rfl | exact Opd.c _ | exact Opd.func _) (Opds.cons (by first | exact Opd.tmp rfl | exact Opd.c _ | exact Opd.func _) Opds.nil))) | exact (Opds.cons (by first | exact Opd.tmp rfl | exact Opd.c _ | exact Opd.func _) (Opds.cons (by first | exact Opd.tmp rfl | exact Opd.c _ | exact Opd.func _) (Opds.cons (by first | exact Opd.tmp rfl | exact Opd.c _ | exact Opd.func _) (Opds.cons (by first | exact Opd.tmp rfl | exact Opd.c _ | exact Opd.func _) Opds.nil)))) | exact (Opds.cons (by first | exact Opd.tmp rfl | exact Opd.c _ | exact Opd.func _) (Opds.cons (by first | exact Opd.tmp rfl | exact Opd.c _ | exact Opd.func _) (Opds.cons (by first | exact Opd.tmp rfl | exact Opd.c _ | exact Opd.func _) (Opds.cons (by first | exact Opd.tmp rfl | exact Opd.c _ | exact Opd.func _) (Opds.cons (by first | exact Opd.tmp rfl | exact Opd.c _ | exact Opd.func _) Opds.nil))))) | exact (Opds.cons (by first | exact Opd.tmp rfl | exact Opd.c _ | exact Opd.func _) (Opds.cons (by first | exact Opd.tmp rfl | exact Opd.c _ | exact Opd.func _) (Opds.cons (by first | exact Opd.tmp rfl | exact Opd.c _ | exact Opd.func _) (Opds.cons (by first | exact Opd.tmp rfl | exact Opd.c _ | exact Opd.func _) (Opds.cons (by first | exact Opd.tmp rfl | exact Opd.c _ | exact Opd.func _) (Opds.cons (by first | exact Opd.tmp rfl | exact Opd.c _ | exact Opd.func _) Opds.nil)))))))
    )
    (hd : Nat.blt d nt = true := by exact rfl
    )
    : AOps Try.prog w0 ops ⟨nt, env, H⟩ (⟨some d, .makeFunc fn xs ys, ty, pos, after, none⟩ :: rest) Q := aops_ev h hd k
theorem sC {d f : Nat} {A : AV} {As : List AV} {args : List Operand} {ts : Array TypeId} (hc : Con Try.prog f As (RetA A)) (k : AOps Try.prog w0 ops ⟨nt, (d, A) :: env, H⟩ rest Q)
    (hg : Givs ⟨nt, env, H⟩ args As := by first | ((repeat (first | exact Givs.nil | refine Givs.cons (by first | exact Giv.of (Opd.tmp rfl) | exact Giv.of (OpF.c (by decide +kernel)) | exact Giv.of (Opd.c _) | exact Giv.box (Opd.tmp rfl) (by first | ((repeat (first | exact List.Mem.head _ | apply List.Mem.tail)); done) | fail) | exact Giv.row (Opd.tmp rfl) (by first | ((repeat (first | exact List.Mem.head _ | apply List.Mem.tail)); done) | fail) (fun _ _ => rfl) | exact Giv.mesh (Opd.tmp rfl) (by first | ((repeat (first | exact List.Mem.head _ | apply List.Mem.tail)); done) | fail) | exact Giv.wire (Opd.tmp rfl) (by first | ((repeat (first | exact List.Mem.head _ | apply List.Mem.tail)); done) | fail) | exact Giv.boxmesh (Opd.tmp rfl) (by first | ((repeat (first | exact List.Mem.head _ | apply List.Mem.tail)); done) | fail) (by first | ((repeat (first | exact List.Mem.head _ | apply List.Mem.tail)); done) | fail) | exact Giv.clo (Opd.tmp rfl) (by first | ((repeat (first | exact Cvs.refl | exact Cvs.nil | refine Cvs.cons (by first | exact Cv.box (by first | ((repeat (first | exact List.Mem.head _ | apply List.Mem.tail)); done) | fail) | exact Cv.row (by first | ((repeat (first | exact List.Mem.head _ | apply List.Mem.tail)); done) | fail) | exact Cv.same) ?_)); done) | fail) | exact Giv.fresh (Opd.tmp rfl) (by assumption) (by first | ((repeat (first | exact List.Mem.head _ | apply List.Mem.tail)); done) | fail)) ?_)); done) | fail
    )
    (hd : Nat.blt d nt = true := by exact rfl
    )
    : AOps Try.prog w0 ops ⟨nt, env, H⟩ (⟨some d, .call ⟨.value (.func f), args.toArray, ts⟩, ty, pos, after, none⟩ :: rest) Q := aops_ev (ev_call rfl (Opd.func f) hc hg) hd k
theorem sCr {d f T size n : Nat} {c : Nat → List AV} {mk : Value → AV} {As : List AV} {args : List Operand} {ts : Array TypeId} (hc : Con Try.prog f As (RetRow T size n c mk)) (k : ∀ sv, AOps Try.prog w0 ops ⟨nt, (d, mk sv) :: env, .row sv T size n c :: H⟩ rest Q)
    (hg : Givs ⟨nt, env, H⟩ args As := by first | ((repeat (first | exact Givs.nil | refine Givs.cons (by first | exact Giv.of (Opd.tmp rfl) | exact Giv.of (OpF.c (by decide +kernel)) | exact Giv.of (Opd.c _) | exact Giv.box (Opd.tmp rfl) (by first | ((repeat (first | exact List.Mem.head _ | apply List.Mem.tail)); done) | fail) | exact Giv.row (Opd.tmp rfl) (by first | ((repeat (first | exact List.Mem.head _ | apply List.Mem.tail)); done) | fail) (fun _ _ => rfl) | exact Giv.mesh (Opd.tmp rfl) (by first | ((repeat (first | exact List.Mem.head _ | apply List.Mem.tail)); done) | fail) | exact Giv.wire (Opd.tmp rfl) (by first | ((repeat (first | exact List.Mem.head _ | apply List.Mem.tail)); done) | fail) | exact Giv.boxmesh (Opd.tmp rfl) (by first | ((repeat (first | exact List.Mem.head _ | apply List.Mem.tail)); done) | fail) (by first | ((repeat (first | exact List.Mem.head _ | apply List.Mem.tail)); done) | fail) | exact Giv.clo (Opd.tmp rfl) (by first | ((repeat (first | exact Cvs.refl | exact Cvs.nil | refine Cvs.cons (by first | exact Cv.box (by first | ((repeat (first | exact List.Mem.head _ | apply List.Mem.tail)); done) | fail) | exact Cv.row (by first | ((repeat (first | exact List.Mem.head _ | apply List.Mem.tail)); done) | fail) | exact Cv.same) ?_)); done) | fail) | exact Giv.fresh (Opd.tmp rfl) (by assumption) (by first | ((repeat (first | exact List.Mem.head _ | apply List.Mem.tail)); done) | fail)) ?_)); done) | fail
    )
    (hp : ∀ k, (c k).all (·.p) = true := by exact fun _ => rfl
    )
    (hd : Nat.blt d nt = true := by exact rfl
    )
    : AOps Try.prog w0 ops ⟨nt, env, H⟩ (⟨some d, .call ⟨.value (.func f), args.toArray, ts⟩, ty, pos, after, none⟩ :: rest) Q := aops_call1 (Opd.func f) hc hg hp hd k
theorem sA {d t : Nat} {zl : List AV} (k : ∀ b, AOps Try.prog w0 ops ⟨nt, (d, ptr b 0) :: env, .cells b zl :: H⟩ rest Q)
    (hz : TyZ Try.prog t zl := by
      first
      | exact tyZ_Relay
      | exact tyZ_f32
      | exact tyZ_i64
      | exact tyZ_int
      | exact tyZ_bool
    )
    (hd : Nat.blt d nt = true := by exact rfl
    )
    : AOps Try.prog w0 ops ⟨nt, env, H⟩ (⟨some d, .alloc t, ty, pos, after, none⟩ :: rest) Q := aops_alloc hz hd k
theorem sB {d t : Nat} {x : Operand} {A : AV} {l : List AV} (k : ∀ b, AOps Try.prog w0 ops ⟨nt, (d, ptr b 0) :: env, .cells b l :: H⟩ rest Q)
    (hx : Opd ⟨nt, env, H⟩ x A := by first | exact Opd.tmp rfl | exact Opd.c _ | exact Opd.func _
    )
    (hc : CellsOf A l := by first | exact cellsOf_agg _ | exact cellsOf_fl _ _ | exact cellsOf_vv rfl | exact cellsOf_rs _ _ _ | exact cellsOf_rp _ _ | exact cellsOf_vv (by assumption)
    )
    (hd : Nat.blt d nt = true := by exact rfl
    )
    : AOps Try.prog w0 ops ⟨nt, env, H⟩ (⟨some d, .box t x, ty, pos, after, none⟩ :: rest) Q := aops_box hx hc hd k
theorem sS {t b i : Nat} {x y : Operand} {l la : List AV} {A : AV} {H2 : List HE} (k : AOps Try.prog w0 ops ⟨nt, env, H2⟩ rest Q)
    (hx : Opd ⟨nt, env, H⟩ x (ptr b i) := by first | exact Opd.tmp rfl | exact Opd.c _ | exact Opd.func _
    )
    (hy : Opd ⟨nt, env, H⟩ y A := by first | exact Opd.tmp rfl | exact Opd.c _ | exact Opd.func _
    )
    (hc : CellsOf A la := by first | exact cellsOf_agg _ | exact cellsOf_fl _ _ | exact cellsOf_vv rfl | exact cellsOf_rs _ _ _ | exact cellsOf_rp _ _ | exact cellsOf_vv (by assumption)
    )
    (ht : (Try.prog.info? t).map (·.size) = some la.length := by
      first
      | exact sz_Relay
      | exact sz_f32
      | exact sz_i64
      | exact sz_int
      | exact sz_bool
      | exact sz_sf32
    )
    (hp : HPut H b l (splice l i la) H2 := by first | ((repeat (first | exact HPut.here | apply HPut.there)); done) | fail
    )
    (hb : i + la.length ≤ l.length := by exact Nat.le_of_ble_eq_true rfl
    )
    : AOps Try.prog w0 ops ⟨nt, env, H⟩ (⟨none, .store t x y, ty, pos, after, none⟩ :: rest) Q := aops_store hx hy hc ht hp rfl hb k
theorem sSr {t b i T size n : Nat} {x y : Operand} {l : List AV} {v : Value} {c : Nat → List AV} {H2 : List HE} (k : AOps Try.prog w0 ops ⟨nt, env, H2⟩ rest Q)
    (hx : Opd ⟨nt, env, H⟩ x (ptr b i) := by first | exact Opd.tmp rfl | exact Opd.c _ | exact Opd.func _
    )
    (hy : Opd ⟨nt, env, H⟩ y (vv v) := by first | exact Opd.tmp rfl | exact Opd.c _ | exact Opd.func _
    )
    (hm : HE.row v T size n c ∈ H := by first | ((repeat (first | exact List.Mem.head _ | apply List.Mem.tail)); done) | fail
    )
    (ht : (Try.prog.info? t).map (·.size) = some 1 := by
      first
      | exact sz_sf32
    )
    (hp : HPut H b l (splice l i [vv v]) H2 := by first | ((repeat (first | exact HPut.here | apply HPut.there)); done) | fail
    )
    (hb : i + 1 ≤ l.length := by exact Nat.le_of_ble_eq_true rfl
    )
    : AOps Try.prog w0 ops ⟨nt, env, H⟩ (⟨none, .store t x y, ty, pos, after, none⟩ :: rest) Q := aops_rowone (s := ⟨nt, env, H⟩) hm fun h1 => aops_store hx hy (cellsOf_vv h1) ht hp rfl hb k
theorem s0 {d t e size bytes : Nat} (c : Nat → List AV) (k : ∀ v, AOps Try.prog w0 ops ⟨nt, (d, vv v) :: env, .row v e size 0 c :: H⟩ rest Q)
    (ht : TyE Try.prog t e size bytes := by
      first
      | exact tyE_Relay
      | exact tyE_f32
      | exact tyE_bool
    )
    (hd : Nat.blt d nt = true := by exact rfl
    )
    : AOps Try.prog w0 ops ⟨nt, env, H⟩ (⟨some d, .buildSlice t 0 #[], ty, pos, after, none⟩ :: rest) Q := aops_slice0 ht hd k
theorem sN {d t e n size bytes : Nat} {parts : List (Nat × Operand)} {pl : List (Nat × List AV)} {l2 : List AV} (k : ∀ b, AOps Try.prog w0 ops ⟨nt, (d, vv (.slice (some ⟨b, 0, none⟩) n n)) :: env, .cells b l2 :: H⟩ rest Q)
    (ht : TyE Try.prog t e size bytes := by
      first
      | exact tyE_Relay
      | exact tyE_f32
      | exact tyE_bool
    )
    (hn : 0 < n ∧ n ≤ 100 := by decide
    )
    (hp : Parts ⟨nt, env, H⟩ parts pl := by first | exact Parts.nil | exact (Parts.cons (by first | exact Opd.tmp rfl | exact Opd.c _ | exact Opd.func _) (by first | exact cellsOf_agg _ | exact cellsOf_fl _ _ | exact cellsOf_vv rfl | exact cellsOf_rs _ _ _ | exact cellsOf_rp _ _ | exact cellsOf_vv (by assumption)) Parts.nil) | exact (Parts.cons (by first | exact Opd.tmp rfl | exact Opd.c _ | exact Opd.func _) (by first | exact cellsOf_agg _ | exact cellsOf_fl _ _ | exact cellsOf_vv rfl | exact cellsOf_rs _ _ _ | exact cellsOf_rp _ _ | exact cellsOf_vv (by assumption)) (Parts.cons (by first | exact Opd.tmp rfl | exact Opd.c _ | exact Opd.func _) (by first | exact cellsOf_agg _ | exact cellsOf_fl _ _ | exact cellsOf_vv rfl | exact cellsOf_rs _ _ _ | exact cellsOf_rp _ _ | exact cellsOf_vv (by assumption)) Parts.nil)) | exact (Parts.cons (by first | exact Opd.tmp rfl | exact Opd.c _ | exact Opd.func _) (by first | exact cellsOf_agg _ | exact cellsOf_fl _ _ | exact cellsOf_vv rfl | exact cellsOf_rs _ _ _ | exact cellsOf_rp _ _ | exact cellsOf_vv (by assumption)) (Parts.cons (by first | exact Opd.tmp rfl | exact Opd.c _ | exact Opd.func _) (by first | exact cellsOf_agg _ | exact cellsOf_fl _ _ | exact cellsOf_vv rfl | exact cellsOf_rs _ _ _ | exact cellsOf_rp _ _ | exact cellsOf_vv (by assumption)) (Parts.cons (by first | exact Opd.tmp rfl | exact Opd.c _ | exact Opd.func _) (by first | exact cellsOf_agg _ | exact cellsOf_fl _ _ | exact cellsOf_vv rfl | exact cellsOf_rs _ _ _ | exact cellsOf_rp _ _ | exact cellsOf_vv (by assumption)) Parts.nil))) | exact (Parts.cons (by first | exact Opd.tmp rfl | exact Opd.c _ | exact Opd.func _) (by first | exact cellsOf_agg _ | exact cellsOf_fl _ _ | exact cellsOf_vv rfl | exact cellsOf_rs _ _ _ | exact cellsOf_rp _ _ | exact cellsOf_vv (by assumption)) (Parts.cons (by first | exact Opd.tmp rfl | exact Opd.c _ | exact Opd.func _) (by first | exact cellsOf_agg _ | exact cellsOf_fl _ _ | exact cellsOf_vv rfl | exact cellsOf_rs _ _ _ | exact cellsOf_rp _ _ | exact cellsOf_vv (by assumption)) (Parts.cons (by first | exact Opd.tmp rfl | exact Opd.c _ | exact Opd.func _) (by first | exact cellsOf_agg _ | exact cellsOf_fl _ _ | exact cellsOf_vv rfl | exact cellsOf_rs _ _ _ | exact cellsOf_rp _ _ | exact cellsOf_vv (by assumption)) (Parts.cons (by first | exact Opd.tmp rfl | exact Opd.c _ | exact Opd.func _) (by first | exact cellsOf_agg _ | exact cellsOf_fl _ _ | exact cellsOf_vv rfl | exact cellsOf_rs _ _ _ | exact cellsOf_rp _ _ | exact cellsOf_vv (by assumption)) Parts.nil)))) | exact (Parts.cons (by first | exact Opd.tmp rfl | exact Opd.c _ | exact Opd.func _) (by first | exact cellsOf_agg _ | exact cellsOf_fl _ _ | exact cellsOf_vv rfl | exact cellsOf_rs _ _ _ | exact cellsOf_rp _ _ | exact cellsOf_vv (by assumption)) (Parts.cons (by first | exact Opd.tmp rfl | exact Opd.c _ | exact Opd.func _) (by first | exact cellsOf_agg _ | exact cellsOf_fl _ _ | exact cellsOf_vv rfl | exact cellsOf_rs _ _ _ | exact cellsOf_rp _ _ | exact cellsOf_vv (by assumption)) (Parts.cons (by first | exact Opd.tmp rfl | exact Opd.c _ | exact Opd.func _) (by first | exact cellsOf_agg _ | exact cellsOf_fl _ _ | exact cellsOf_vv rfl | exact cellsOf_rs _ _ _ | exact cellsOf_rp _ _ | exact cellsOf_vv (by assumption)) (Parts.cons (by first | exact Opd.tmp rfl | exact Opd.c _ | exact Opd.func _) (by first | exact cellsOf_agg _ | exact cellsOf_fl _ _ | exact cellsOf_vv rfl | exact cellsOf_rs _ _ _ | exact cellsOf_rp _ _ | exact cellsOf_vv (by assumption)) (Parts.cons (by first | exact Opd.tmp rfl | exact Opd.c _ | exact Opd.func _) (by first | exact cellsOf_agg _ | exact cellsOf_fl _ _ | exact cellsOf_vv rfl | exact cellsOf_rs _ _ _ | exact cellsOf_rp _ _ | exact cellsOf_vv (by assumption)) Parts.nil))))) | exact (Parts.cons (by first | exact Opd.tmp rfl | exact Opd.c _ | exact Opd.func _) (by first | exact cellsOf_agg _ | exact cellsOf_fl _ _ | exact cellsOf_vv rfl | exact cellsOf_rs _ _ _ | exact cellsOf_rp _ _ | exact cellsOf_vv (by assumption)) (Parts.cons (by first | exact Opd.tmp rfl | exact Opd.c _ | exact Opd.func _) (by first | exact cellsOf_agg _ | exact cellsOf_fl _ _ | exact cellsOf_vv rfl | exact cellsOf_rs _ _ _ | exact cellsOf_rp _ _ | exact cellsOf_vv (by assumption)) (Parts.cons (by first | exact Opd.tmp rfl | exact Opd.c _ | exact Opd.func _) (by first | exact cellsOf_agg _ | exact cellsOf_fl _ _ | exact cellsOf_vv rfl | exact cellsOf_rs _ _ _ | exact cellsOf_rp _ _ | exact cellsOf_vv (by assumption)) (Parts.cons (by first | exact Opd.tmp rfl | exact Opd.c _ | exact Opd.func _) (by first | exact cellsOf_agg _ | exact cellsOf_fl _ _ | exact cellsOf_vv rfl | exact cellsOf_rs _ _ _ | exact cellsOf_rp _ _ | exact cellsOf_vv (by assumption)) (Parts.cons (by first | exact Opd.tmp rfl | exact Opd.c _ | exact Opd.func _) (by first | exact cellsOf_agg _ | exact cellsOf_fl _ _ | exact cellsOf_vv rfl | exact cellsOf_rs _ _ _ | exact cellsOf_rp _ _ | exact cellsOf_vv (by assumption)) (Parts.cons (by first | exact Opd.tmp rfl | exact Opd.c _ | exact Opd.func _) (by first | exact cellsOf_agg _ | exact cellsOf_fl _ _ | exact cellsOf_vv rfl | exact cellsOf_rs _ _ _ | exact cellsOf_rp _ _ | exact cellsOf_vv (by assumption)) Parts.nil))))))
    )
    (hf : fillA (fun i => some (i * size, size)) pl (List.replicate (n * size) top) = some l2 := by exact rfl
    )
    (hd : Nat.blt d nt = true := by exact rfl
    )
    : AOps Try.prog w0 ops ⟨nt, env, H⟩ (⟨some d, .buildSlice t n parts.toArray, ty, pos, after, none⟩ :: rest) Q := aops_sliceN ht hn hp hf hd k
theorem sP {d t e size bytes n m g c1 : Nat} {xs xx : Operand} {v : Value} {c : Nat → List AV} {l : List AV} {H2 : List HE} (c2 : Nat → List AV) (k : ∀ v2, AOps Try.prog w0 ops ⟨nt, (d, vv v2) :: env, .row v2 e size (n + m) c2 :: H2⟩ rest Q)
    (ht : TyE Try.prog t e size bytes := by
      first
      | exact tyE_Relay
      | exact tyE_f32
      | exact tyE_bool
    )
    (hs : Opd ⟨nt, env, H⟩ xs (vv v) := by first | exact Opd.tmp rfl | exact Opd.c _ | exact Opd.func _
    )
    (hx : Opd ⟨nt, env, H⟩ xx (vv (.slice (some ⟨g, 0, none⟩) m c1)) := by first | exact Opd.tmp rfl | exact Opd.c _ | exact Opd.func _
    )
    (htk : HTake H (.row v e size n c) H2 := by first | ((repeat (first | exact HTake.here | apply HTake.there)); done) | fail
    )
    (hm : HE.cells g l ∈ H := by first | ((repeat (first | exact List.Mem.head _ | apply List.Mem.tail)); done) | fail
    )
    (hlen : l.length = m * size := by exact rfl
    )
    (hn : n + m ≤ 1048576 := by omega
    )
    (hc1 : ∀ k, k < n → c2 k = c k := by exact fun _ _ => rfl
    )
    (hc2 : ∀ k, k < m → c2 (n + k) = (l.drop (k * size)).take size := by exact fun j hj => by obtain rfl : j = 0 := (by omega); rfl
    )
    (hd : Nat.blt d nt = true := by exact rfl
    )
    : AOps Try.prog w0 ops ⟨nt, env, H⟩ (⟨some d, .call ⟨.builtin .append, #[xs, xx], #[t, t]⟩, ty, pos, after, none⟩ :: rest) Q := aops_append ht hs hx htk hm hlen hn hc1 hc2 hd k
theorem gY {d : Option Tmp} {j dj : Nat} {want b : Bool} {s : AS} (k : AOps Try.prog w0 ops s (⟨d, op, ty, pos, after, none⟩ :: rest) Q)
    (hj : (ops[j]?).bind (·.dst) = some dj := by exact rfl
    )
    (hb : look dj s.env = some (vv (.bool b)) := by exact rfl
    )
    (he : b = want := by first | assumption | rfl | exact decide_eq_false (by omega) | exact decide_eq_true (by omega) | exact bne_self_eq_false _
    )
    : AOps Try.prog w0 ops s (⟨d, op, ty, pos, after, some (j, want)⟩ :: rest) Q := aops_gyes hj hb he k
theorem gN {d j dj : Nat} {want b : Bool} (k : AOps Try.prog w0 ops ⟨nt, (d, vv undef) :: env, H⟩ rest Q)
    (hj : (ops[j]?).bind (·.dst) = some dj := by exact rfl
    )
    (hb : look dj env = some (vv (.bool b)) := by exact rfl
    )
    (he : b = !want := by first | assumption | rfl | exact decide_eq_false (by omega) | exact decide_eq_true (by omega) | exact bne_self_eq_false _
    )
    (hd : Nat.blt d nt = true := by exact rfl
    )
    : AOps Try.prog w0 ops ⟨nt, env, H⟩ (⟨some d, op, ty, pos, after, some (j, want)⟩ :: rest) Q := aops_gno hj hb he hd k
theorem gS {d j dj : Nat} {want : Bool} (k : AOps Try.prog w0 ops ⟨nt, (d, vv undef) :: env, H⟩ rest Q)
    (hj : (ops[j]?).bind (·.dst) = some dj := by exact rfl
    )
    (hb : look dj env = some (vv undef) := by exact rfl
    )
    (hd : Nat.blt d nt = true := by exact rfl
    )
    : AOps Try.prog w0 ops ⟨nt, env, H⟩ (⟨some d, op, ty, pos, after, some (j, want)⟩ :: rest) Q := aops_gskip hj hb hd k
theorem cT {s : AS} {c : Operand} {x y : Code} {b : Bool} (k : AWp Try.prog w0 s x Q)
    (hc : Opd s c (vv (.bool b)) := by first | exact Opd.tmp rfl | exact Opd.c _ | exact Opd.func _
    )
    (hb : b = true := by first | assumption | rfl | exact decide_eq_false (by omega) | exact decide_eq_true (by omega) | exact bne_self_eq_false _
    )
    : AWp Try.prog w0 s (.cond c x y) Q := awp_cond_t hc hb k
theorem cF {s : AS} {c : Operand} {x y : Code} {b : Bool} (k : AWp Try.prog w0 s y Q)
    (hc : Opd s c (vv (.bool b)) := by first | exact Opd.tmp rfl | exact Opd.c _ | exact Opd.func _
    )
    (hb : b = false := by first | assumption | rfl | exact decide_eq_false (by omega) | exact decide_eq_true (by omega) | exact bne_self_eq_false _
    )
    : AWp Try.prog w0 s (.cond c x y) Q := awp_cond_f hc hb k
theorem cC {s : AS} {c : Operand} {x y : Code} {b : Bool} (ht : b = true → AWp Try.prog w0 s x Q) (hf : b = false → AWp Try.prog w0 s y Q)
    (hc : Opd s c (vv (.bool b)) := by first | exact Opd.tmp rfl | exact Opd.c _ | exact Opd.func _
    )
    : AWp Try.prog w0 s (.cond c x y) Q := awp_cond hc ht hf
end
end Go.Proofs.Ytebjdijlaaipdaa
