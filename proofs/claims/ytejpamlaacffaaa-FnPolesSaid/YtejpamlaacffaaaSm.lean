/-
  Whether numbers and vectors are the same, on both sides: contracts. Conditions: none.
-/
import Derived.Test.YtejpamlaacffaaaSn
import Derived.Test.YtejpamlaacffaaaCon
import Derived.Test.YtejpamlaacffaaaBr
import Derived.Test.YtejpamlaacffaaaSu
import Derived.Laws.Externs
namespace Go.Proofs.Ytejpamlaacffaaa
open Go Go.RowKit

theorem bits_eq {k : FloatKind} {X b : Nat} (h : Fb k X b) (nx : isNan k X = false) : b = X := by
  have h2 := h.can
  unfold Go.Proofs.Ytejpamlaacffaaa.can at h2
  split at h2
  · rw [← h2, isNan_nanOf] at nx
    cases nx
  · exact h2
/-- What is known of canonical bits. -/
structure CanF (k : FloatKind) (X : Nat) : Prop where
  lt : isNan k X = false → X < 2 ^ k.format.width
  nan : isNan k X = true → X = nanOf k
section
variable {P : Program} {w0 : World} {s : AS} {o : Oper} {Q : Exit → Act → World → Prop}
theorem awp_can {cd : Code} {t : Nat} {k : FloatKind} {X : Nat} (h : look t s.env = some (fl k X)) (kk : CanF k X → AWp P w0 s cd Q) : AWp P w0 s cd Q := by
  refine ⟨fun a w hs => (kk ?_).out a w hs⟩
  obtain ⟨b, _, hb⟩ := hs.env t _ h
  refine ⟨fun nx => ?_, fun nx => ?_⟩
  · have := bits_eq hb nx
    subst this
    exact hb.lt
  · have h2 := hb.can
    unfold Go.Proofs.Ytejpamlaacffaaa.can at h2
    split at h2
    · exact h2.symm
    · rename_i hn
      subst h2
      exact absurd nx hn
theorem ev_bits {f : FuncId} {k : FloatKind} {q : IntKind} {x : Operand} {X : Nat} {ts : Array TypeId} (hrun : ∀ b w, (callFunc f #[.float k b]).run P w = .ok (.value (.int q (b : Int))) w) (ho : o.op = .call { callee := .value (.func f), args := #[x], argTypes := ts }) (hx : OpF s x k X) (nx : isNan k X = false) : Ev P s o (vv (.int q (X : Int))) := by
  refine ⟨fun w0 a w hs => ?_⟩
  obtain ⟨b, e, hb⟩ := hx w0 a w hs
  have := bits_eq hb nx
  subst this
  have hr : (execOp a.eval o).run P w = .ok (.value (.int q (b : Int))) w := by
    simp only [execOp, ho, resolve, Sem.run_bind, List.map_toArray, List.map_cons, List.map_nil, e, invoke]
    simp only [Act.eval, Deferred.ofValue, Sem.run_pure, Result.andThen_ok, Array.empty_append, Array.append_empty]
    exact hrun b w
  rw [hr]
  exact .of_val rfl
theorem ev_itoi2 {src dst : TypeId} {x : Operand} {q1 q : IntKind} {n m : Int} (ho : o.op = .convert src dst x) (hs' : (P.underlying src).isSome = true) (hd : P.underlying dst = some (.int q)) (hx : Opd s x (vv (.int q1 n))) (hn : q.wrap n = m) : Ev P s o (vv (.int q m)) := by
  refine ⟨fun w0 a w hs => ?_⟩
  have e : a.eval x = .int q1 n := hx w0 a w hs
  have hk : P.intKind dst = q := by unfold Program.intKind; rw [hd]
  have hr := run_convert_int (P := P) w src dst q1 n hs' (by rw [hk]; exact hd)
  rw [hk, hn] at hr
  simp only [execOp, ho, e, Sem.run_bind, Result.andThen_ok, hr, Sem.run_pure]
  exact .of_val rfl
end
theorem run_bits32 (b : Nat) (w : World) : (callFunc 75 #[.float .f32 b]).run Try.prog w = .ok (.value (.int .u32 (b : Int))) w := by
  rw [run_callFunc_extern (e := Extern.MathFloatBits.float32bits) Try.func75 (by decide) (by kernel_rfl) (by kernel_rfl) (by kernel_rfl)]
  rfl
theorem neq_self {X : Nat} : cmpB .neq .f32 X X = isNan .f32 X := by
  have h : cmpB .neq .f32 X X = !cmpB .eql .f32 X X := rfl
  rw [h]
  cases nx : isNan .f32 X
  · rw [eql_rk nx nx]; simp
  · cases h2 : cmpB .eql .f32 X X
    · rfl
    · rw [eql_iff] at h2
      rw [h2.1] at nx
      cases nx
def sameB (X Y : Nat) : Bool := decide (X = Y)
def sameV (A B : V3) : Bool := sameB A.x B.x && (sameB A.y B.y && sameB A.z B.z)
def bitsI (X : Nat) : Int := if isNan .f32 X = true then 2143289344 else (X : Int)
theorem bitsI_eq {X Y : Nat} (hx : CanF .f32 X) (hy : CanF .f32 Y) : decide (bitsI X = bitsI Y) = sameB X Y := by
  have hn : isNan .f32 2143289344 = true := by decide +kernel
  unfold bitsI sameB
  cases nx : isNan .f32 X <;> cases ny : isNan .f32 Y
  · simp
    constructor
    · intro h; omega
    · intro h; omega
  · simp
    have : X ≠ Y := fun h => by rw [h, ny] at nx; cases nx
    have h2 : X ≠ 2143289344 := fun h => by rw [h, hn] at nx; cases nx
    constructor
    · intro h; omega
    · intro h; exact absurd h this
  · simp
    have : X ≠ Y := fun h => by rw [h, ny] at nx; cases nx
    have h2 : Y ≠ 2143289344 := fun h => by rw [h, hn] at ny; cases ny
    constructor
    · intro h; omega
    · intro h; exact absurd h this
  · simp
    rw [hx.nan nx, hy.nan ny]
set_option maxRecDepth 100000 in
set_option maxHeartbeats 2000000 in
theorem c_specBits {X : Nat} : Con Try.prog 71 [fl .f32 X] (RetA (vv (.int .i64 (bitsI X)))) := by
  refine con_enter Try.func71 rfl (by kernel_rfl) Try.ntmps71 rfl fun w0 => ?_
  refine awp_can (t := 0) rfl (fun hx => ?_)
  have qx := neq_self (X := X)
  cases nx : isNan .f32 X
  · rw [nx] at qx
    have hlt : X < 4294967296 := hx.lt nx
    rw [show bitsI X = (X : Int) from if_neg (by rw [nx]; simp)]
    (repeat (first | (refine gA ?_; first | refine aops_nil ?_ | (refine gA_gd ?_; first | refine gY ?_ | refine gN ?_ | refine gS ?_) | (refine gA_alloc ?_; refine sA ?_; intro _) | (refine gA_store ?_; first | refine sS ?_ | refine sSr ?_) | (refine gA_box ?_; refine sB ?_; intro _) | (refine gA_move ?_; refine sE_move ?_) | (refine gA_load ?_; refine sE_load ?_) | (refine gA_assign ?_; refine sE_assign ?_) | (refine gA_field ?_; refine sE_field ?_) | (refine gA_bin ?_; refine sE_bin ?_) | (refine gA_index ?_; refine sE_index ?_) | (refine gA_callb ?_; refine sE_callb ?_) | (refine gA_un ?_; refine sE_un ?_) | (refine gA_conv ?_; refine sE_conv ?_) | (refine gA_build ?_; refine sE_build ?_) | (refine gA_ext ?_; refine sE_ext ?_) | (refine gA_slice ?_; refine sE_slice ?_) | (refine gA_nilc ?_; refine sE_nilc ?_) | (refine gA_pick ?_; refine sE_pick ?_) | (refine gA_func ?_; refine sE_func ?_)) | (refine gW ?_; first | refine awp_seq ?_ | refine awp_region ?_ | refine awp_block ?_ | refine awp_skip ?_ | refine awp_ret ?_ | refine awp_exit ?_ | refine awp_label ?_ | refine cF ?_ | refine cT ?_) | (refine gX ?_; first | refine aex_then ?_ | refine aex_normal_block ?_ | refine aex_ret_then ?_ | refine aex_ret_block ?_ | refine aex_exit_then ?_ | refine aex_exit_here ?_ | refine aex_exit_out rfl ?_ | refine aex_nop ?_)))
    refine aops_ev (ev_bits run_bits32 rfl (OpF.tmp rfl) nx) rfl ?_
    (repeat (first | (refine gA ?_; first | refine aops_nil ?_ | (refine gA_gd ?_; first | refine gY ?_ | refine gN ?_ | refine gS ?_) | (refine gA_alloc ?_; refine sA ?_; intro _) | (refine gA_store ?_; first | refine sS ?_ | refine sSr ?_) | (refine gA_box ?_; refine sB ?_; intro _) | (refine gA_move ?_; refine sE_move ?_) | (refine gA_load ?_; refine sE_load ?_) | (refine gA_assign ?_; refine sE_assign ?_) | (refine gA_field ?_; refine sE_field ?_) | (refine gA_bin ?_; refine sE_bin ?_) | (refine gA_index ?_; refine sE_index ?_) | (refine gA_callb ?_; refine sE_callb ?_) | (refine gA_un ?_; refine sE_un ?_) | (refine gA_conv ?_; refine sE_conv ?_) | (refine gA_build ?_; refine sE_build ?_) | (refine gA_ext ?_; refine sE_ext ?_) | (refine gA_slice ?_; refine sE_slice ?_) | (refine gA_nilc ?_; refine sE_nilc ?_) | (refine gA_pick ?_; refine sE_pick ?_) | (refine gA_func ?_; refine sE_func ?_)) | (refine gW ?_; first | refine awp_seq ?_ | refine awp_region ?_ | refine awp_block ?_ | refine awp_skip ?_ | refine awp_ret ?_ | refine awp_exit ?_ | refine awp_label ?_ | refine cF ?_ | refine cT ?_) | (refine gX ?_; first | refine aex_then ?_ | refine aex_normal_block ?_ | refine aex_ret_then ?_ | refine aex_ret_block ?_ | refine aex_exit_then ?_ | refine aex_exit_here ?_ | refine aex_exit_out rfl ?_ | refine aex_nop ?_)))
    refine aops_ev (ev_itoi2 rfl (by rw [Try.underlying90]; rfl) Try.underlying2 (Opd.tmp rfl) (IntWalk.i64_in _ (by omega))) rfl ?_
    (repeat (first | (refine gA ?_; first | refine aops_nil ?_ | (refine gA_gd ?_; first | refine gY ?_ | refine gN ?_ | refine gS ?_) | (refine gA_alloc ?_; refine sA ?_; intro _) | (refine gA_store ?_; first | refine sS ?_ | refine sSr ?_) | (refine gA_box ?_; refine sB ?_; intro _) | (refine gA_move ?_; refine sE_move ?_) | (refine gA_load ?_; refine sE_load ?_) | (refine gA_assign ?_; refine sE_assign ?_) | (refine gA_field ?_; refine sE_field ?_) | (refine gA_bin ?_; refine sE_bin ?_) | (refine gA_index ?_; refine sE_index ?_) | (refine gA_callb ?_; refine sE_callb ?_) | (refine gA_un ?_; refine sE_un ?_) | (refine gA_conv ?_; refine sE_conv ?_) | (refine gA_build ?_; refine sE_build ?_) | (refine gA_ext ?_; refine sE_ext ?_) | (refine gA_slice ?_; refine sE_slice ?_) | (refine gA_nilc ?_; refine sE_nilc ?_) | (refine gA_pick ?_; refine sE_pick ?_) | (refine gA_func ?_; refine sE_func ?_)) | (refine gW ?_; first | refine awp_seq ?_ | refine awp_region ?_ | refine awp_block ?_ | refine awp_skip ?_ | refine awp_ret ?_ | refine awp_exit ?_ | refine awp_label ?_ | refine cF ?_ | refine cT ?_) | (refine gX ?_; first | refine aex_then ?_ | refine aex_normal_block ?_ | refine aex_ret_then ?_ | refine aex_ret_block ?_ | refine aex_exit_then ?_ | refine aex_exit_here ?_ | refine aex_exit_out rfl ?_ | refine aex_nop ?_)))
    exact aex_ret1 rfl (resV_tmp (Opd.tmp rfl)) (by exact rfl)
  · rw [nx] at qx
    rw [show bitsI X = 2143289344 from if_pos nx]
    (repeat (first | (refine gA ?_; first | refine aops_nil ?_ | (refine gA_gd ?_; first | refine gY ?_ | refine gN ?_ | refine gS ?_) | (refine gA_alloc ?_; refine sA ?_; intro _) | (refine gA_store ?_; first | refine sS ?_ | refine sSr ?_) | (refine gA_box ?_; refine sB ?_; intro _) | (refine gA_move ?_; refine sE_move ?_) | (refine gA_load ?_; refine sE_load ?_) | (refine gA_assign ?_; refine sE_assign ?_) | (refine gA_field ?_; refine sE_field ?_) | (refine gA_bin ?_; refine sE_bin ?_) | (refine gA_index ?_; refine sE_index ?_) | (refine gA_callb ?_; refine sE_callb ?_) | (refine gA_un ?_; refine sE_un ?_) | (refine gA_conv ?_; refine sE_conv ?_) | (refine gA_build ?_; refine sE_build ?_) | (refine gA_ext ?_; refine sE_ext ?_) | (refine gA_slice ?_; refine sE_slice ?_) | (refine gA_nilc ?_; refine sE_nilc ?_) | (refine gA_pick ?_; refine sE_pick ?_) | (refine gA_func ?_; refine sE_func ?_)) | (refine gW ?_; first | refine awp_seq ?_ | refine awp_region ?_ | refine awp_block ?_ | refine awp_skip ?_ | refine awp_ret ?_ | refine awp_exit ?_ | refine awp_label ?_ | refine cF ?_ | refine cT ?_) | (refine gX ?_; first | refine aex_then ?_ | refine aex_normal_block ?_ | refine aex_ret_then ?_ | refine aex_ret_block ?_ | refine aex_exit_then ?_ | refine aex_exit_here ?_ | refine aex_exit_out rfl ?_ | refine aex_nop ?_)))
    exact aex_ret1 rfl (resV_tmp (Opd.tmp rfl)) (by exact rfl)
set_option maxRecDepth 100000 in
set_option maxHeartbeats 2000000 in
theorem c_specSame {X Y : Nat} : Con Try.prog 64 [fl .f32 X, fl .f32 Y] (RetA (vv (.bool (sameB X Y)))) := by
  refine con_enter Try.func64 rfl (by kernel_rfl) Try.ntmps64 rfl fun w0 => ?_
  refine awp_can (t := 0) rfl (fun hx => ?_)
  refine awp_can (t := 1) rfl (fun hy => ?_)
  rw [← bitsI_eq hx hy]
  (repeat (first | (refine gA ?_; first | refine aops_nil ?_ | (refine gA_gd ?_; first | refine gY ?_ | refine gN ?_ | refine gS ?_) | (refine gA_callf ?_; refine sC (c_specBits) ?_) | (refine gA_alloc ?_; refine sA ?_; intro _) | (refine gA_store ?_; first | refine sS ?_ | refine sSr ?_) | (refine gA_box ?_; refine sB ?_; intro _) | (refine gA_move ?_; refine sE_move ?_) | (refine gA_load ?_; refine sE_load ?_) | (refine gA_assign ?_; refine sE_assign ?_) | (refine gA_field ?_; refine sE_field ?_) | (refine gA_bin ?_; refine sE_bin ?_) | (refine gA_index ?_; refine sE_index ?_) | (refine gA_callb ?_; refine sE_callb ?_) | (refine gA_un ?_; refine sE_un ?_) | (refine gA_conv ?_; refine sE_conv ?_) | (refine gA_build ?_; refine sE_build ?_) | (refine gA_ext ?_; refine sE_ext ?_) | (refine gA_slice ?_; refine sE_slice ?_) | (refine gA_nilc ?_; refine sE_nilc ?_) | (refine gA_pick ?_; refine sE_pick ?_) | (refine gA_func ?_; refine sE_func ?_)) | (refine gW ?_; first | refine awp_seq ?_ | refine awp_region ?_ | refine awp_block ?_ | refine awp_skip ?_ | refine awp_ret ?_ | refine awp_exit ?_ | refine awp_label ?_) | (refine gX ?_; first | refine aex_then ?_ | refine aex_normal_block ?_ | refine aex_ret_then ?_ | refine aex_ret_block ?_ | refine aex_exit_then ?_ | refine aex_exit_here ?_ | refine aex_exit_out rfl ?_ | refine aex_nop ?_)))
  exact aex_ret1 rfl (resV_tmp (Opd.tmp rfl)) (by exact rfl)
set_option maxRecDepth 100000 in
set_option maxHeartbeats 2000000 in
theorem c_specVSame {A B : V3} : Con Try.prog 54 [vec A, vec B] (RetA (vv (.bool (sameV A B)))) := by
  refine con_enter Try.func54 rfl (by kernel_rfl) Try.ntmps54 rfl fun w0 => ?_
  cases h1 : sameB A.x B.x
  · rw [show sameV A B = false by simp only [sameV, h1, Bool.false_and]]
    (repeat (first | (refine gA ?_; first | refine aops_nil ?_ | (refine gA_gd ?_; first | refine gY ?_ | refine gN ?_ | refine gS ?_) | (refine gA_callf ?_; refine sC (c_specSame) ?_) | (refine gA_alloc ?_; refine sA ?_; intro _) | (refine gA_store ?_; first | refine sS ?_ | refine sSr ?_) | (refine gA_box ?_; refine sB ?_; intro _) | (refine gA_move ?_; refine sE_move ?_) | (refine gA_load ?_; refine sE_load ?_) | (refine gA_assign ?_; refine sE_assign ?_) | (refine gA_field ?_; refine sE_field ?_) | (refine gA_bin ?_; refine sE_bin ?_) | (refine gA_index ?_; refine sE_index ?_) | (refine gA_callb ?_; refine sE_callb ?_) | (refine gA_un ?_; refine sE_un ?_) | (refine gA_conv ?_; refine sE_conv ?_) | (refine gA_build ?_; refine sE_build ?_) | (refine gA_ext ?_; refine sE_ext ?_) | (refine gA_slice ?_; refine sE_slice ?_) | (refine gA_nilc ?_; refine sE_nilc ?_) | (refine gA_pick ?_; refine sE_pick ?_) | (refine gA_func ?_; refine sE_func ?_)) | (refine gW ?_; first | refine awp_seq ?_ | refine awp_region ?_ | refine awp_block ?_ | refine awp_skip ?_ | refine awp_ret ?_ | refine awp_exit ?_ | refine awp_label ?_ | refine cF ?_ | refine cT ?_) | (refine gX ?_; first | refine aex_then ?_ | refine aex_normal_block ?_ | refine aex_ret_then ?_ | refine aex_ret_block ?_ | refine aex_exit_then ?_ | refine aex_exit_here ?_ | refine aex_exit_out rfl ?_ | refine aex_nop ?_)))
    exact aex_ret1 rfl (resV_tmp (Opd.tmp rfl)) (by exact rfl)
  cases h2 : sameB A.y B.y
  · rw [show sameV A B = false by simp only [sameV, h1, h2, Bool.false_and, Bool.and_false]]
    (repeat (first | (refine gA ?_; first | refine aops_nil ?_ | (refine gA_gd ?_; first | refine gY ?_ | refine gN ?_ | refine gS ?_) | (refine gA_callf ?_; refine sC (c_specSame) ?_) | (refine gA_alloc ?_; refine sA ?_; intro _) | (refine gA_store ?_; first | refine sS ?_ | refine sSr ?_) | (refine gA_box ?_; refine sB ?_; intro _) | (refine gA_move ?_; refine sE_move ?_) | (refine gA_load ?_; refine sE_load ?_) | (refine gA_assign ?_; refine sE_assign ?_) | (refine gA_field ?_; refine sE_field ?_) | (refine gA_bin ?_; refine sE_bin ?_) | (refine gA_index ?_; refine sE_index ?_) | (refine gA_callb ?_; refine sE_callb ?_) | (refine gA_un ?_; refine sE_un ?_) | (refine gA_conv ?_; refine sE_conv ?_) | (refine gA_build ?_; refine sE_build ?_) | (refine gA_ext ?_; refine sE_ext ?_) | (refine gA_slice ?_; refine sE_slice ?_) | (refine gA_nilc ?_; refine sE_nilc ?_) | (refine gA_pick ?_; refine sE_pick ?_) | (refine gA_func ?_; refine sE_func ?_)) | (refine gW ?_; first | refine awp_seq ?_ | refine awp_region ?_ | refine awp_block ?_ | refine awp_skip ?_ | refine awp_ret ?_ | refine awp_exit ?_ | refine awp_label ?_ | refine cF ?_ | refine cT ?_) | (refine gX ?_; first | refine aex_then ?_ | refine aex_normal_block ?_ | refine aex_ret_then ?_ | refine aex_ret_block ?_ | refine aex_exit_then ?_ | refine aex_exit_here ?_ | refine aex_exit_out rfl ?_ | refine aex_nop ?_)))
    exact aex_ret1 rfl (resV_tmp (Opd.tmp rfl)) (by exact rfl)
  rw [show sameV A B = sameB A.z B.z by simp only [sameV, h1, h2, Bool.true_and]]
  (repeat (first | (refine gA ?_; first | refine aops_nil ?_ | (refine gA_gd ?_; first | refine gY ?_ | refine gN ?_ | refine gS ?_) | (refine gA_callf ?_; refine sC (c_specSame) ?_) | (refine gA_alloc ?_; refine sA ?_; intro _) | (refine gA_store ?_; first | refine sS ?_ | refine sSr ?_) | (refine gA_box ?_; refine sB ?_; intro _) | (refine gA_move ?_; refine sE_move ?_) | (refine gA_load ?_; refine sE_load ?_) | (refine gA_assign ?_; refine sE_assign ?_) | (refine gA_field ?_; refine sE_field ?_) | (refine gA_bin ?_; refine sE_bin ?_) | (refine gA_index ?_; refine sE_index ?_) | (refine gA_callb ?_; refine sE_callb ?_) | (refine gA_un ?_; refine sE_un ?_) | (refine gA_conv ?_; refine sE_conv ?_) | (refine gA_build ?_; refine sE_build ?_) | (refine gA_ext ?_; refine sE_ext ?_) | (refine gA_slice ?_; refine sE_slice ?_) | (refine gA_nilc ?_; refine sE_nilc ?_) | (refine gA_pick ?_; refine sE_pick ?_) | (refine gA_func ?_; refine sE_func ?_)) | (refine gW ?_; first | refine awp_seq ?_ | refine awp_region ?_ | refine awp_block ?_ | refine awp_skip ?_ | refine awp_ret ?_ | refine awp_exit ?_ | refine awp_label ?_ | refine cF ?_ | refine cT ?_) | (refine gX ?_; first | refine aex_then ?_ | refine aex_normal_block ?_ | refine aex_ret_then ?_ | refine aex_ret_block ?_ | refine aex_exit_then ?_ | refine aex_exit_here ?_ | refine aex_exit_out rfl ?_ | refine aex_nop ?_)))
  exact aex_ret1 rfl (resV_tmp (Opd.tmp rfl)) (by exact rfl)
end Go.Proofs.Ytejpamlaacffaaa
