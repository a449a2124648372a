/-
  Every second node of a mesh: the walk over all nodes; contracts. Conditions: none.
-/
import Derived.Test.YtfhglmdbkjbhjaaLy
import Derived.Test.YtfhglmdbkjbhjaaAp
import Derived.Test.YtfhglmdbkjbhjaaSu
namespace Go.Proofs.Ytfhglmdbkjbhjaa
open Go Go.RowKit

section
variable {P : Program} {w0 : World} {ops : Array Oper} {nt : Nat} {env : List (Nat × AV)} {H : List HE} {rest : List Oper} {Q : Exit → Act → World → Prop} {ty : TypeId} {pos : String} {after : Array Edge}
theorem conM_enter3 {f : FuncId} {fn : Func} {c : Code} {As : List AV} {nt : Nat} {e1 e2 e3 : HE} {ι : Type} {A : ι → AV} {H' : ι → List HE} (hf : P.funcs[f]? = some fn) (hb : fn.body = some c) (hn : (fn.name == "runtime.NumGoroutine") = false) (ht : fn.ntmps = nt) (hl : Nat.ble As.length nt = true)
    (h : ∀ w0 w, AWp P w0 ⟨nt, zipEnv 0 As, [e1, e2, e3, .fr w (Rest w0 w [e1, e2, e3])]⟩ c (bodyPost P fn (RetM w0 w [e1, e2, e3] A H'))) : ConM P f As [e1, e2, e3] A H' := conM_enter hf hb hn ht hl h
/-- A call of a closure that turns three entries. -/
theorem aops_call3M {d : Nat} {f : FuncId} {x : Operand} {As l : List AV} {e1 e2 e3 : HE} {g1 g2 g3 : Value → HE} {R : List HE} {A : AV} {args : List Operand} {ts : Array TypeId} (hc : ConM P f (As ++ l) [e1, e2, e3] (fun _ : Value => A) (fun v => [g1 v, g2 v, g3 v])) (hx : Opd ⟨nt, env, H⟩ x (clo f l)) (ha : Opds ⟨nt, env, H⟩ args As) (hsp : HSplit H [e1, e2, e3] R) (hd : Nat.blt d nt = true)
    (k : ∀ v, AOps P w0 ops ⟨nt, (d, A) :: env, g1 v :: g2 v :: g3 v :: R⟩ rest Q) : AOps P w0 ops ⟨nt, env, H⟩ (⟨some d, .call { callee := .value x, args := args.toArray, argTypes := ts }, ty, pos, after, none⟩ :: rest) Q :=
  aops_callM hc hx ha hsp hd k
theorem ev_as {s : AS} {o : Oper} {A B : AV} (h : Ev P s o A) (e : A = B) : Ev P s o B := e ▸ h
end

def hA (a : Int) : Nat := ((a + 1) / 2).toNat
theorem hA_div {a : Int} (h : 1 ≤ a) : (a + 1).tdiv 2 = (hA a : Int) := by
  unfold hA
  rw [Int.tdiv_eq_ediv_of_nonneg (by omega)]
  omega
def halfM (M : MH) : MH := ⟨M.F, fop .mul .f32 1073741824 M.S, (hA M.a : Int), (hA M.b : Int), (hA M.c : Int)⟩
def nidx (A B x y z : Nat) : Nat := A * (y + B * z) + x
def halfV (M : MH) (F : Nat → V3) (i : Nat) : V3 := F (nodeI M (2 * ((i % hA M.a : Nat) : Int)) (2 * ((i / hA M.a % hA M.b : Nat) : Int)) (2 * ((i / hA M.a / hA M.b : Nat) : Int))).toNat
theorem nidx_parts {A B x y z : Nat} (hx : x < A) (hy : y < B) : nidx A B x y z % A = x ∧ nidx A B x y z / A % B = y ∧ nidx A B x y z / A / B = z := by
  have e1 : nidx A B x y z % A = x := by rw [nidx, Nat.mul_add_mod]; exact Nat.mod_eq_of_lt hx
  have e2 : nidx A B x y z / A = y + B * z := by rw [nidx, Nat.mul_add_div (by omega), Nat.div_eq_of_lt hx, Nat.add_zero]
  refine ⟨e1, ?_, ?_⟩
  · rw [e2, Nat.add_mul_mod_self_left]; exact Nat.mod_eq_of_lt hy
  · rw [e2, Nat.add_mul_div_left _ _ (by omega), Nat.div_eq_of_lt hy, Nat.zero_add]
theorem nidx_lt {A B C x y z : Nat} (hx : x < A) (hy : y < B) (hz : z < C) : nidx A B x y z < A * B * C := by
  have h1 : y + B * z + 1 ≤ B * (z + 1) := by rw [Nat.mul_succ]; omega
  have h2 : B * (z + 1) ≤ B * C := Nat.mul_le_mul_left _ hz
  have h3 : A * (y + B * z + 1) ≤ A * (B * C) := Nat.mul_le_mul_left _ (by omega)
  rw [Nat.mul_succ, ← Nat.mul_assoc] at h3
  unfold nidx
  omega
theorem nidx_y {A B y z : Nat} : nidx A B A y z = nidx A B 0 (y + 1) z := by
  unfold nidx
  rw [show y + 1 + B * z = (y + B * z) + 1 by omega, Nat.mul_succ, Nat.add_zero]
theorem nidx_z {A B z : Nat} : nidx A B 0 B z = nidx A B 0 0 (z + 1) := by
  unfold nidx
  rw [show 0 + B * (z + 1) = B + B * z by rw [Nat.mul_succ]; omega]
theorem nidx_end {A B C : Nat} : nidx A B 0 0 C = A * B * C := by
  unfold nidx
  rw [Nat.zero_add, Nat.add_zero, Nat.mul_assoc]
theorem halfV_at {M : MH} {F : Nat → V3} {x y z : Nat} (hx : x < hA M.a) (hy : y < hA M.b) : halfV M F (nidx (hA M.a) (hA M.b) x y z) = F (nodeI M (2 * (x : Int)) (2 * (y : Int)) (2 * (z : Int))).toNat := by
  obtain ⟨e1, e2, e3⟩ := nidx_parts (z := z) hx hy
  unfold halfV
  rw [e1, e2, e3]
theorem half_prod {M : MH} {n : Nat} (hv : validB M n = true) : hA M.a * hA M.b * hA M.c ≤ 216 := by
  simp only [validB, Bool.and_eq_true] at hv
  obtain ⟨ha, hb, hc, h, _, _⟩ := sizes_of hv.1.2
  have k1 : (hA M.a : Int) ≤ M.a := by unfold hA; omega
  have k2 : (hA M.b : Int) ≤ M.b := by unfold hA; omega
  have k3 : (hA M.c : Int) ≤ M.c := by unfold hA; omega
  have h1 : (hA M.a : Int) * hA M.b ≤ M.a * M.b := Int.mul_le_mul k1 k2 (by omega) (by omega)
  have h2 : (hA M.a : Int) * hA M.b * hA M.c ≤ M.a * M.b * M.c := Int.mul_le_mul h1 k3 (by omega) (Int.mul_nonneg (by omega) (by omega))
  have h3 : ((hA M.a * hA M.b * hA M.c : Nat) : Int) = (hA M.a : Int) * hA M.b * hA M.c := by rw [Int.natCast_mul, Int.natCast_mul]
  omega
def hdr (M : MH) (A : AV) : List AV := [fl .f32 M.F.x, fl .f32 M.F.y, fl .f32 M.F.z, fl .f32 M.S, vv (.int .i64 M.a), vv (.int .i64 M.b), vv (.int .i64 M.c), A]
theorem half_in {M : MH} {n x y z : Nat} (hv : validB M n = true) (hx : x < hA M.a) (hy : y < hA M.b) (hz : z < hA M.c) : inB (2 * (x : Int)) 0 (M.a - 1) = true ∧ inB (2 * (y : Int)) 0 (M.b - 1) = true ∧ inB (2 * (z : Int)) 0 (M.c - 1) = true := by
  simp only [validB, Bool.and_eq_true] at hv
  have hs := sizes_of hv.1.2
  unfold hA at hx hy hz
  simp only [inB, Bool.and_eq_true, decide_eq_true_eq]
  omega
theorem half_small {M : MH} {n x y z : Nat} (hv : validB M n = true) (hx : x < hA M.a) (hy : y < hA M.b) (hz : z < hA M.c) : x ≤ 216 ∧ y ≤ 216 ∧ z ≤ 216 ∧ nidx (hA M.a) (hA M.b) x y z + 1 ≤ 1048576 := by
  have h1 := half_prod hv
  have h2 := nidx_lt hx hy hz
  simp only [validB, Bool.and_eq_true] at hv
  have hs := sizes_of hv.1.2
  have ha : hA M.a ≤ 109 := by unfold hA; omega
  have hb : hA M.b ≤ 109 := by unfold hA; omega
  have hc : hA M.c ≤ 109 := by unfold hA; omega
  exact ⟨by omega, by omega, by omega, by omega⟩
set_option maxRecDepth 100000 in
set_option maxHeartbeats 2000000 in
theorem c_halfClo {M : MH} {n : Nat} {F : Nat → V3} {v : Value} {x y z bo b1 : Nat} (hv : validB M n = true) (hx : x < hA M.a) (hy : y < hA M.b) (hz : z < hA M.c) :
    ConM Try.prog 87 ([vv (.int .i64 (x : Int)), vv (.int .i64 (y : Int)), vv (.int .i64 (z : Int))] ++ [ptr bo 0, ptr b1 0]) [.row v 38 3 (nidx (hA M.a) (hA M.b) x y z) (vecC (halfV M F)), .cells bo (hdr (halfM M) (vv v)), .cells b1 (hdr M (rs 3 n (vecC F)))]
      (fun _ : Value => vv (.tuple #[])) (fun v' => [.row v' 38 3 (nidx (hA M.a) (hA M.b) x y z + 1) (vecC (halfV M F)), .cells bo (hdr (halfM M) (vv v')), .cells b1 (hdr M (rs 3 n (vecC F)))]) := by
  refine conM_enter3 Try.func87 rfl (by kernel_rfl) Try.ntmps87 rfl fun w0 w => ?_
  obtain ⟨i1, i2, i3⟩ := half_in hv hx hy hz
  obtain ⟨s1, s2, s3, s4⟩ := half_small hv hx hy hz
  have hap : vecC (halfV M F) (nidx (hA M.a) (hA M.b) x y z) = vecC (fun _ => F (nodeI M (2 * (x : Int)) (2 * (y : Int)) (2 * (z : Int))).toNat) 0 := by
    unfold vecC
    rw [halfV_at hx hy]
  unfold hdr
  refine awp_rowone (by first | ((repeat (first | exact List.Mem.head _ | apply List.Mem.tail)); done) | fail) (fun ho => ?_)
  (repeat (first | (refine gA ?_; first | refine aops_nil ?_ | (refine gA_gd ?_; first | refine gY ?_ | refine gN ?_ | refine gS ?_) | (refine gA_callf ?_; refine sC (c_implAt (M := M) (n := n) (F := F) (x := 2 * (x : Int)) (y := 2 * (y : Int)) (z := 2 * (z : Int)) hv i1 i2 i3) ?_) | (refine gA_alloc ?_; refine sA ?_; intro _) | (refine gA_store ?_; first | refine sS ?_ | refine sSr ?_) | (refine gA_box ?_; refine sB ?_; intro _) | (refine gA_bslice ?_; (refine sN ?_; intro _)) | (refine gA_app ?_; (refine sPo (vecC (halfV M F)) tyE_Vector ?_ (hc2 := hap); intro _)) | (refine gA_move ?_; refine sE_move ?_) | (refine gA_load ?_; refine sE_load ?_) | (refine gA_assign ?_; refine sE_assign ?_) | (refine gA_field ?_; refine sE_field ?_) | (refine gA_bin ?_; refine sE_bin ?_) | (refine gA_index ?_; refine sE_index ?_) | (refine gA_callb ?_; refine sE_callb ?_) | (refine gA_un ?_; refine sE_un ?_) | (refine gA_conv ?_; refine sE_conv ?_) | (refine gA_build ?_; refine sE_build ?_) | (refine gA_ext ?_; refine sE_ext ?_) | (refine gA_slice ?_; refine sE_slice ?_) | (refine gA_nilc ?_; refine sE_nilc ?_) | (refine gA_pick ?_; refine sE_pick ?_) | (refine gA_func ?_; refine sE_func ?_)) | (refine gU ?_; first | refine du_nil ?_ | (refine gU_gd ?_; first | refine uY ?_ | refine uN ?_) | (refine gU_callf ?_; refine uC (c_implAt (M := M) (n := n) (F := F) (x := 2 * (x : Int)) (y := 2 * (y : Int)) (z := 2 * (z : Int)) hv i1 i2 i3) ?_) | (refine gU_bslice ?_; refine uL tyE_Vector ?_) | (refine gU_alloc ?_; refine uA ?_) | (refine gU_move ?_; refine uE_move ?_) | (refine gU_load ?_; refine uE_load ?_) | (refine gU_assign ?_; refine uE_assign ?_) | (refine gU_field ?_; refine uE_field ?_) | (refine gU_bin ?_; refine uE_bin ?_) | (refine gU_index ?_; refine uE_index ?_) | (refine gU_callb ?_; refine uE_callb ?_) | (refine gU_un ?_; refine uE_un ?_) | (refine gU_conv ?_; refine uE_conv ?_) | (refine gU_build ?_; refine uE_build ?_) | (refine gU_ext ?_; refine uE_ext ?_) | (refine gU_slice ?_; refine uE_slice ?_) | (refine gU_nilc ?_; refine uE_nilc ?_) | (refine gU_pick ?_; refine uE_pick ?_) | (refine gU_func ?_; refine uE_func ?_)) | (refine gR ?_; first | refine adrop_zero ?_ | refine adrop_succ ?_) | (refine gV ?_; first | refine finv_nil rfl ?_ | (refine finv_box rfl ?_; intro _) | (refine finv_row rfl ?_; intro _)) | (refine gW ?_; first | refine awp_seq ?_ | refine awp_region ?_ | refine awp_block ?_ | refine awp_skip ?_ | refine awp_ret ?_ | refine awp_exit ?_ | refine awp_label ?_ | refine awp_drawU (id := 0) 11 rfl (by kernel_rfl) ?_) | (refine gX ?_; first | refine aex_then ?_ | refine aex_normal_block ?_ | refine aex_ret_then ?_ | refine aex_ret_block ?_ | refine aex_exit_then ?_ | refine aex_exit_here ?_ | refine aex_exit_out rfl ?_ | refine aex_nop ?_)))
  rename_i s2 v2
  exact aex_end (aex_retM0 (H' := fun v' => [.row v' 38 3 (nidx (hA M.a) (hA M.b) x y z + 1) (vecC (halfV M F)), .cells bo (hdr (halfM M) (vv v')), .cells b1 (hdr M (rs 3 n (vecC F)))]) v2 rfl (by repeat (first | exact HSub.nil | refine HSub.keep ?_ | refine HSub.drop ?_)))
def hst (M : MH) (F : Nat → V3) (n bo b1 : Nat) (i : Nat) (v : Value) : List HE := [.row v 38 3 i (vecC (halfV M F)), .cells bo (hdr (halfM M) (vv v)), .cells b1 (hdr M (rs 3 n (vecC F)))]
set_option maxRecDepth 100000 in
set_option maxHeartbeats 2000000 in
theorem c_eachNode {M : MH} {n : Nat} {F : Nat → V3} {v0 : Value} {bo b1 : Nat} (hv : validB M n = true) :
    ConM Try.prog 86 [mesh (halfM M) (vv v0), clo 87 [ptr bo 0, ptr b1 0]] [.row v0 38 3 0 (vecC (halfV M F)), .cells bo (hdr (halfM M) (vv v0)), .cells b1 (hdr M (rs 3 n (vecC F)))]
      (fun _ : Value => vv (.tuple #[])) (fun v' => [.row v' 38 3 (hA M.a * hA M.b * hA M.c) (vecC (halfV M F)), .cells bo (hdr (halfM M) (vv v')), .cells b1 (hdr M (rs 3 n (vecC F)))]) := by
  refine conM_enter3 Try.func86 rfl (by kernel_rfl) Try.ntmps86 rfl fun w0 w => ?_
  generalize hW : Rest w0 w _ = W
  have hprod := half_prod hv
  have hab : 1 ≤ hA M.a ∧ hA M.a ≤ 109 ∧ 1 ≤ hA M.b ∧ hA M.b ≤ 109 ∧ 1 ≤ hA M.c ∧ hA M.c ≤ 109 := by
    have hv' := hv
    simp only [validB, Bool.and_eq_true] at hv'
    have hs := sizes_of hv'.1.2
    unfold hA
    omega
  refine awp_rowone (by first | ((repeat (first | exact List.Mem.head _ | apply List.Mem.tail)); done) | fail) (fun ho0 => ?_)
  (repeat (first | (refine gA ?_; first | refine aops_nil ?_ | (refine gA_gd ?_; first | refine gY ?_ | refine gN ?_ | refine gS ?_) | (refine gA_alloc ?_; refine sA ?_; intro _) | (refine gA_store ?_; first | refine sS ?_ | refine sSr ?_) | (refine gA_box ?_; refine sB ?_; intro _) | (refine gA_move ?_; refine sE_move ?_) | (refine gA_load ?_; refine sE_load ?_) | (refine gA_assign ?_; refine sE_assign ?_) | (refine gA_field ?_; refine sE_field ?_) | (refine gA_bin ?_; refine sE_bin ?_) | (refine gA_index ?_; refine sE_index ?_) | (refine gA_callb ?_; refine sE_callb ?_) | (refine gA_un ?_; refine sE_un ?_) | (refine gA_conv ?_; refine sE_conv ?_) | (refine gA_build ?_; refine sE_build ?_) | (refine gA_ext ?_; refine sE_ext ?_) | (refine gA_slice ?_; refine sE_slice ?_) | (refine gA_nilc ?_; refine sE_nilc ?_) | (refine gA_pick ?_; refine sE_pick ?_) | (refine gA_func ?_; refine sE_func ?_)) | (refine gW ?_; first | refine awp_seq ?_ | refine awp_region ?_ | refine awp_block ?_ | refine awp_skip ?_ | refine awp_ret ?_ | refine awp_exit ?_ | refine awp_label ?_) | (refine gX ?_; first | refine aex_then ?_ | refine aex_normal_block ?_ | refine aex_ret_then ?_ | refine aex_ret_block ?_ | refine aex_exit_then ?_ | refine aex_exit_here ?_ | refine aex_exit_out rfl ?_ | refine aex_nop ?_)))
  rename_i b2
  refine awp_front (e := .cells b1 (hdr M (rs 3 n (vecC F)))) (by first | ((repeat (first | exact HTake.here | apply HTake.there)); done) | fail) ?_
  refine awp_front (e := .cells bo (hdr (halfM M) (vv v0))) (by first | ((repeat (first | exact HTake.here | apply HTake.there)); done) | fail) ?_
  refine awp_front (e := .row v0 38 3 0 (vecC (halfV M F))) (by first | ((repeat (first | exact HTake.here | apply HTake.there)); done) | fail) ?_
  refine awp_loopV (fun z v => ⟨30, [(1, clo 87 [ptr bo 0, ptr b1 0]), (2, ptr b2 0), (8, vv (.int .i64 (hA M.c : Int))), (9, vv (.int .i64 (z : Int)))], [.row v 38 3 (nidx (hA M.a) (hA M.b) 0 0 z) (vecC (halfV M F)), .cells bo (hdr (halfM M) (vv v)), .cells b1 (hdr M (rs 3 n (vecC F))), .cells b2 (hdr (halfM M) (vv v0)), .fr w W]⟩) (hA M.c) v0 (imp_mk (by repeat (first | exact EnvImp.nil | refine EnvImp.cons (by first | exact Opd.tmp rfl | exact OpF.tmp rfl) ?_)) (by repeat (first | exact HSub.nil | refine HSub.keep ?_ | refine HSub.drop ?_))) (fun z v hz => ?_)
  (repeat (first | (refine gA ?_; first | refine aops_nil ?_ | (refine gA_gd ?_; first | refine gY ?_ | refine gN ?_ | refine gS ?_) | (refine gA_alloc ?_; refine sA ?_; intro _) | (refine gA_store ?_; first | refine sS ?_ | refine sSr ?_) | (refine gA_box ?_; refine sB ?_; intro _) | (refine gA_move ?_; refine sE_move ?_) | (refine gA_load ?_; refine sE_load ?_) | (refine gA_assign ?_; refine sE_assign ?_) | (refine gA_field ?_; refine sE_field ?_) | (refine gA_bin ?_; refine sE_bin ?_) | (refine gA_index ?_; refine sE_index ?_) | (refine gA_callb ?_; refine sE_callb ?_) | (refine gA_un ?_; refine sE_un ?_) | (refine gA_conv ?_; refine sE_conv ?_) | (refine gA_build ?_; refine sE_build ?_) | (refine gA_ext ?_; refine sE_ext ?_) | (refine gA_slice ?_; refine sE_slice ?_) | (refine gA_nilc ?_; refine sE_nilc ?_) | (refine gA_pick ?_; refine sE_pick ?_) | (refine gA_func ?_; refine sE_func ?_)) | (refine gW ?_; first | refine awp_seq ?_ | refine awp_region ?_ | refine awp_block ?_ | refine awp_skip ?_ | refine awp_ret ?_ | refine awp_exit ?_ | refine awp_label ?_) | (refine gX ?_; first | refine aex_then ?_ | refine aex_normal_block ?_ | refine aex_ret_then ?_ | refine aex_ret_block ?_ | refine aex_exit_then ?_ | refine aex_exit_here ?_ | refine aex_exit_out rfl ?_ | refine aex_nop ?_)))
  refine cC (fun hg => ?_) (fun hg => ?_)
  · have hzc : z < hA M.c := by simp at hg; omega
    clear hg
    (repeat (first | (refine gA ?_; first | refine aops_nil ?_ | (refine gA_gd ?_; first | refine gY ?_ | refine gN ?_ | refine gS ?_) | (refine gA_alloc ?_; refine sA ?_; intro _) | (refine gA_store ?_; first | refine sS ?_ | refine sSr ?_) | (refine gA_box ?_; refine sB ?_; intro _) | (refine gA_move ?_; refine sE_move ?_) | (refine gA_load ?_; refine sE_load ?_) | (refine gA_assign ?_; refine sE_assign ?_) | (refine gA_field ?_; refine sE_field ?_) | (refine gA_bin ?_; refine sE_bin ?_) | (refine gA_index ?_; refine sE_index ?_) | (refine gA_callb ?_; refine sE_callb ?_) | (refine gA_un ?_; refine sE_un ?_) | (refine gA_conv ?_; refine sE_conv ?_) | (refine gA_build ?_; refine sE_build ?_) | (refine gA_ext ?_; refine sE_ext ?_) | (refine gA_slice ?_; refine sE_slice ?_) | (refine gA_nilc ?_; refine sE_nilc ?_) | (refine gA_pick ?_; refine sE_pick ?_) | (refine gA_func ?_; refine sE_func ?_)) | (refine gW ?_; first | refine awp_seq ?_ | refine awp_region ?_ | refine awp_block ?_ | refine awp_skip ?_ | refine awp_ret ?_ | refine awp_exit ?_ | refine awp_label ?_) | (refine gX ?_; first | refine aex_then ?_ | refine aex_normal_block ?_ | refine aex_ret_then ?_ | refine aex_ret_block ?_ | refine aex_exit_then ?_ | refine aex_exit_here ?_ | refine aex_exit_out rfl ?_ | refine aex_nop ?_)))
    refine awp_loopV (fun y v => ⟨30, [(1, clo 87 [ptr bo 0, ptr b1 0]), (2, ptr b2 0), (4, vv (.int .i64 (z : Int))), (8, vv (.int .i64 (hA M.c : Int))), (9, vv (.int .i64 (z : Int))), (13, vv (.int .i64 (hA M.b : Int))), (14, vv (.int .i64 (y : Int)))], [.row v 38 3 (nidx (hA M.a) (hA M.b) 0 y z) (vecC (halfV M F)), .cells bo (hdr (halfM M) (vv v)), .cells b1 (hdr M (rs 3 n (vecC F))), .cells b2 (hdr (halfM M) (vv v0)), .fr w W]⟩) (hA M.b) v (imp_mk (by repeat (first | exact EnvImp.nil | refine EnvImp.cons (by first | exact Opd.tmp rfl | exact OpF.tmp rfl) ?_)) (by repeat (first | exact HSub.nil | refine HSub.keep ?_ | refine HSub.drop ?_))) (fun y v hy => ?_)
    (repeat (first | (refine gA ?_; first | refine aops_nil ?_ | (refine gA_gd ?_; first | refine gY ?_ | refine gN ?_ | refine gS ?_) | (refine gA_alloc ?_; refine sA ?_; intro _) | (refine gA_store ?_; first | refine sS ?_ | refine sSr ?_) | (refine gA_box ?_; refine sB ?_; intro _) | (refine gA_move ?_; refine sE_move ?_) | (refine gA_load ?_; refine sE_load ?_) | (refine gA_assign ?_; refine sE_assign ?_) | (refine gA_field ?_; refine sE_field ?_) | (refine gA_bin ?_; refine sE_bin ?_) | (refine gA_index ?_; refine sE_index ?_) | (refine gA_callb ?_; refine sE_callb ?_) | (refine gA_un ?_; refine sE_un ?_) | (refine gA_conv ?_; refine sE_conv ?_) | (refine gA_build ?_; refine sE_build ?_) | (refine gA_ext ?_; refine sE_ext ?_) | (refine gA_slice ?_; refine sE_slice ?_) | (refine gA_nilc ?_; refine sE_nilc ?_) | (refine gA_pick ?_; refine sE_pick ?_) | (refine gA_func ?_; refine sE_func ?_)) | (refine gW ?_; first | refine awp_seq ?_ | refine awp_region ?_ | refine awp_block ?_ | refine awp_skip ?_ | refine awp_ret ?_ | refine awp_exit ?_ | refine awp_label ?_) | (refine gX ?_; first | refine aex_then ?_ | refine aex_normal_block ?_ | refine aex_ret_then ?_ | refine aex_ret_block ?_ | refine aex_exit_then ?_ | refine aex_exit_here ?_ | refine aex_exit_out rfl ?_ | refine aex_nop ?_)))
    refine cC (fun hg => ?_) (fun hg => ?_)
    · have hyc : y < hA M.b := by simp at hg; omega
      clear hg
      (repeat (first | (refine gA ?_; first | refine aops_nil ?_ | (refine gA_gd ?_; first | refine gY ?_ | refine gN ?_ | refine gS ?_) | (refine gA_alloc ?_; refine sA ?_; intro _) | (refine gA_store ?_; first | refine sS ?_ | refine sSr ?_) | (refine gA_box ?_; refine sB ?_; intro _) | (refine gA_move ?_; refine sE_move ?_) | (refine gA_load ?_; refine sE_load ?_) | (refine gA_assign ?_; refine sE_assign ?_) | (refine gA_field ?_; refine sE_field ?_) | (refine gA_bin ?_; refine sE_bin ?_) | (refine gA_index ?_; refine sE_index ?_) | (refine gA_callb ?_; refine sE_callb ?_) | (refine gA_un ?_; refine sE_un ?_) | (refine gA_conv ?_; refine sE_conv ?_) | (refine gA_build ?_; refine sE_build ?_) | (refine gA_ext ?_; refine sE_ext ?_) | (refine gA_slice ?_; refine sE_slice ?_) | (refine gA_nilc ?_; refine sE_nilc ?_) | (refine gA_pick ?_; refine sE_pick ?_) | (refine gA_func ?_; refine sE_func ?_)) | (refine gW ?_; first | refine awp_seq ?_ | refine awp_region ?_ | refine awp_block ?_ | refine awp_skip ?_ | refine awp_ret ?_ | refine awp_exit ?_ | refine awp_label ?_) | (refine gX ?_; first | refine aex_then ?_ | refine aex_normal_block ?_ | refine aex_ret_then ?_ | refine aex_ret_block ?_ | refine aex_exit_then ?_ | refine aex_exit_here ?_ | refine aex_exit_out rfl ?_ | refine aex_nop ?_)))
      refine awp_loopV (fun x v => ⟨30, [(1, clo 87 [ptr bo 0, ptr b1 0]), (2, ptr b2 0), (4, vv (.int .i64 (z : Int))), (5, vv (.int .i64 (y : Int))), (8, vv (.int .i64 (hA M.c : Int))), (9, vv (.int .i64 (z : Int))), (13, vv (.int .i64 (hA M.b : Int))), (14, vv (.int .i64 (y : Int))), (18, vv (.int .i64 (hA M.a : Int))), (19, vv (.int .i64 (x : Int)))], [.row v 38 3 (nidx (hA M.a) (hA M.b) x y z) (vecC (halfV M F)), .cells bo (hdr (halfM M) (vv v)), .cells b1 (hdr M (rs 3 n (vecC F))), .cells b2 (hdr (halfM M) (vv v0)), .fr w W]⟩) (hA M.a) v (imp_mk (by repeat (first | exact EnvImp.nil | refine EnvImp.cons (by first | exact Opd.tmp rfl | exact OpF.tmp rfl) ?_)) (by repeat (first | exact HSub.nil | refine HSub.keep ?_ | refine HSub.drop ?_))) (fun x v hx => ?_)
      (repeat (first | (refine gA ?_; first | refine aops_nil ?_ | (refine gA_gd ?_; first | refine gY ?_ | refine gN ?_ | refine gS ?_) | (refine gA_alloc ?_; refine sA ?_; intro _) | (refine gA_store ?_; first | refine sS ?_ | refine sSr ?_) | (refine gA_box ?_; refine sB ?_; intro _) | (refine gA_move ?_; refine sE_move ?_) | (refine gA_load ?_; refine sE_load ?_) | (refine gA_assign ?_; refine sE_assign ?_) | (refine gA_field ?_; refine sE_field ?_) | (refine gA_bin ?_; refine sE_bin ?_) | (refine gA_index ?_; refine sE_index ?_) | (refine gA_callb ?_; refine sE_callb ?_) | (refine gA_un ?_; refine sE_un ?_) | (refine gA_conv ?_; refine sE_conv ?_) | (refine gA_build ?_; refine sE_build ?_) | (refine gA_ext ?_; refine sE_ext ?_) | (refine gA_slice ?_; refine sE_slice ?_) | (refine gA_nilc ?_; refine sE_nilc ?_) | (refine gA_pick ?_; refine sE_pick ?_) | (refine gA_func ?_; refine sE_func ?_)) | (refine gW ?_; first | refine awp_seq ?_ | refine awp_region ?_ | refine awp_block ?_ | refine awp_skip ?_ | refine awp_ret ?_ | refine awp_exit ?_ | refine awp_label ?_) | (refine gX ?_; first | refine aex_then ?_ | refine aex_normal_block ?_ | refine aex_ret_then ?_ | refine aex_ret_block ?_ | refine aex_exit_then ?_ | refine aex_exit_here ?_ | refine aex_exit_out rfl ?_ | refine aex_nop ?_)))
      refine cC (fun hg => ?_) (fun hg => ?_)
      · have hxc : x < hA M.a := by simp at hg; omega
        clear hg
        (repeat (first | (refine gA ?_; first | refine aops_nil ?_ | (refine gA_gd ?_; first | refine gY ?_ | refine gN ?_ | refine gS ?_) | (refine gA_alloc ?_; refine sA ?_; intro _) | (refine gA_store ?_; first | refine sS ?_ | refine sSr ?_) | (refine gA_box ?_; refine sB ?_; intro _) | (refine gA_move ?_; refine sE_move ?_) | (refine gA_load ?_; refine sE_load ?_) | (refine gA_assign ?_; refine sE_assign ?_) | (refine gA_field ?_; refine sE_field ?_) | (refine gA_bin ?_; refine sE_bin ?_) | (refine gA_index ?_; refine sE_index ?_) | (refine gA_callb ?_; refine sE_callb ?_) | (refine gA_un ?_; refine sE_un ?_) | (refine gA_conv ?_; refine sE_conv ?_) | (refine gA_build ?_; refine sE_build ?_) | (refine gA_ext ?_; refine sE_ext ?_) | (refine gA_slice ?_; refine sE_slice ?_) | (refine gA_nilc ?_; refine sE_nilc ?_) | (refine gA_pick ?_; refine sE_pick ?_) | (refine gA_func ?_; refine sE_func ?_)) | (refine gW ?_; first | refine awp_seq ?_ | refine awp_region ?_ | refine awp_block ?_ | refine awp_skip ?_ | refine awp_ret ?_ | refine awp_exit ?_ | refine awp_label ?_) | (refine gX ?_; first | refine aex_then ?_ | refine aex_normal_block ?_ | refine aex_ret_then ?_ | refine aex_ret_block ?_ | refine aex_exit_then ?_ | refine aex_exit_here ?_ | refine aex_exit_out rfl ?_ | refine aex_nop ?_)))
        refine aops_call3M (c_halfClo (M := M) (n := n) (F := F) (v := v) (x := x) (y := y) (z := z) (bo := bo) (b1 := b1) hv hxc hyc hzc) (Opd.tmp rfl) (Opds.cons (Opd.tmp rfl) (Opds.cons (Opd.tmp rfl) (Opds.cons (Opd.tmp rfl) Opds.nil))) (by repeat (first | exact HSplit.nil | apply HSplit.left | apply HSplit.right)) rfl (fun v2 => ?_)
        (repeat (first | (refine gA ?_; first | refine aops_nil ?_ | (refine gA_gd ?_; first | refine gY ?_ | refine gN ?_ | refine gS ?_) | (refine gA_alloc ?_; refine sA ?_; intro _) | (refine gA_store ?_; first | refine sS ?_ | refine sSr ?_) | (refine gA_box ?_; refine sB ?_; intro _) | (refine gA_move ?_; refine sE_move ?_) | (refine gA_load ?_; refine sE_load ?_) | (refine gA_assign ?_; refine sE_assign ?_) | (refine gA_field ?_; refine sE_field ?_) | (refine gA_bin ?_; refine sE_bin ?_) | (refine gA_index ?_; refine sE_index ?_) | (refine gA_callb ?_; refine sE_callb ?_) | (refine gA_un ?_; refine sE_un ?_) | (refine gA_conv ?_; refine sE_conv ?_) | (refine gA_build ?_; refine sE_build ?_) | (refine gA_ext ?_; refine sE_ext ?_) | (refine gA_slice ?_; refine sE_slice ?_) | (refine gA_nilc ?_; refine sE_nilc ?_) | (refine gA_pick ?_; refine sE_pick ?_) | (refine gA_func ?_; refine sE_func ?_)) | (refine gW ?_; first | refine awp_seq ?_ | refine awp_region ?_ | refine awp_block ?_ | refine awp_skip ?_ | refine awp_ret ?_ | refine awp_exit ?_ | refine awp_label ?_) | (refine gX ?_; first | refine aex_then ?_ | refine aex_normal_block ?_ | refine aex_ret_then ?_ | refine aex_ret_block ?_ | refine aex_exit_then ?_ | refine aex_exit_here ?_ | refine aex_exit_out rfl ?_ | refine aex_nop ?_)))
        exact aex_agV v2 (by omega) (imp_mk (by repeat (first | exact EnvImp.nil | refine EnvImp.cons (by first | exact Opd.tmp rfl | exact OpF.tmp rfl) ?_)) (by repeat (first | exact HSub.nil | refine HSub.keep ?_ | refine HSub.drop ?_)))
      · obtain rfl : x = hA M.a := by simp at hg; omega
        (repeat (first | (refine gA ?_; first | refine aops_nil ?_ | (refine gA_gd ?_; first | refine gY ?_ | refine gN ?_ | refine gS ?_) | (refine gA_alloc ?_; refine sA ?_; intro _) | (refine gA_store ?_; first | refine sS ?_ | refine sSr ?_) | (refine gA_box ?_; refine sB ?_; intro _) | (refine gA_move ?_; refine sE_move ?_) | (refine gA_load ?_; refine sE_load ?_) | (refine gA_assign ?_; refine sE_assign ?_) | (refine gA_field ?_; refine sE_field ?_) | (refine gA_bin ?_; refine sE_bin ?_) | (refine gA_index ?_; refine sE_index ?_) | (refine gA_callb ?_; refine sE_callb ?_) | (refine gA_un ?_; refine sE_un ?_) | (refine gA_conv ?_; refine sE_conv ?_) | (refine gA_build ?_; refine sE_build ?_) | (refine gA_ext ?_; refine sE_ext ?_) | (refine gA_slice ?_; refine sE_slice ?_) | (refine gA_nilc ?_; refine sE_nilc ?_) | (refine gA_pick ?_; refine sE_pick ?_) | (refine gA_func ?_; refine sE_func ?_)) | (refine gW ?_; first | refine awp_seq ?_ | refine awp_region ?_ | refine awp_block ?_ | refine awp_skip ?_ | refine awp_ret ?_ | refine awp_exit ?_ | refine awp_label ?_) | (refine gX ?_; first | refine aex_then ?_ | refine aex_normal_block ?_ | refine aex_ret_then ?_ | refine aex_ret_block ?_ | refine aex_exit_then ?_ | refine aex_exit_here ?_ | refine aex_exit_out rfl ?_ | refine aex_nop ?_)))
        refine aex_agV v (by omega) ?_
        rw [nidx_y]
        exact (imp_mk (by repeat (first | exact EnvImp.nil | refine EnvImp.cons (by first | exact Opd.tmp rfl | exact OpF.tmp rfl) ?_)) (by repeat (first | exact HSub.nil | refine HSub.keep ?_ | refine HSub.drop ?_)))
    · obtain rfl : y = hA M.b := by simp at hg; omega
      (repeat (first | (refine gA ?_; first | refine aops_nil ?_ | (refine gA_gd ?_; first | refine gY ?_ | refine gN ?_ | refine gS ?_) | (refine gA_alloc ?_; refine sA ?_; intro _) | (refine gA_store ?_; first | refine sS ?_ | refine sSr ?_) | (refine gA_box ?_; refine sB ?_; intro _) | (refine gA_move ?_; refine sE_move ?_) | (refine gA_load ?_; refine sE_load ?_) | (refine gA_assign ?_; refine sE_assign ?_) | (refine gA_field ?_; refine sE_field ?_) | (refine gA_bin ?_; refine sE_bin ?_) | (refine gA_index ?_; refine sE_index ?_) | (refine gA_callb ?_; refine sE_callb ?_) | (refine gA_un ?_; refine sE_un ?_) | (refine gA_conv ?_; refine sE_conv ?_) | (refine gA_build ?_; refine sE_build ?_) | (refine gA_ext ?_; refine sE_ext ?_) | (refine gA_slice ?_; refine sE_slice ?_) | (refine gA_nilc ?_; refine sE_nilc ?_) | (refine gA_pick ?_; refine sE_pick ?_) | (refine gA_func ?_; refine sE_func ?_)) | (refine gW ?_; first | refine awp_seq ?_ | refine awp_region ?_ | refine awp_block ?_ | refine awp_skip ?_ | refine awp_ret ?_ | refine awp_exit ?_ | refine awp_label ?_) | (refine gX ?_; first | refine aex_then ?_ | refine aex_normal_block ?_ | refine aex_ret_then ?_ | refine aex_ret_block ?_ | refine aex_exit_then ?_ | refine aex_exit_here ?_ | refine aex_exit_out rfl ?_ | refine aex_nop ?_)))
      refine aex_agV v (by omega) ?_
      rw [nidx_z]
      exact (imp_mk (by repeat (first | exact EnvImp.nil | refine EnvImp.cons (by first | exact Opd.tmp rfl | exact OpF.tmp rfl) ?_)) (by repeat (first | exact HSub.nil | refine HSub.keep ?_ | refine HSub.drop ?_)))
  · obtain rfl : z = hA M.c := by simp at hg; omega
    (repeat (first | (refine gA ?_; first | refine aops_nil ?_ | (refine gA_gd ?_; first | refine gY ?_ | refine gN ?_ | refine gS ?_) | (refine gA_alloc ?_; refine sA ?_; intro _) | (refine gA_store ?_; first | refine sS ?_ | refine sSr ?_) | (refine gA_box ?_; refine sB ?_; intro _) | (refine gA_move ?_; refine sE_move ?_) | (refine gA_load ?_; refine sE_load ?_) | (refine gA_assign ?_; refine sE_assign ?_) | (refine gA_field ?_; refine sE_field ?_) | (refine gA_bin ?_; refine sE_bin ?_) | (refine gA_index ?_; refine sE_index ?_) | (refine gA_callb ?_; refine sE_callb ?_) | (refine gA_un ?_; refine sE_un ?_) | (refine gA_conv ?_; refine sE_conv ?_) | (refine gA_build ?_; refine sE_build ?_) | (refine gA_ext ?_; refine sE_ext ?_) | (refine gA_slice ?_; refine sE_slice ?_) | (refine gA_nilc ?_; refine sE_nilc ?_) | (refine gA_pick ?_; refine sE_pick ?_) | (refine gA_func ?_; refine sE_func ?_)) | (refine gW ?_; first | refine awp_seq ?_ | refine awp_region ?_ | refine awp_block ?_ | refine awp_skip ?_ | refine awp_ret ?_ | refine awp_exit ?_ | refine awp_label ?_) | (refine gX ?_; first | refine aex_then ?_ | refine aex_normal_block ?_ | refine aex_ret_then ?_ | refine aex_ret_block ?_ | refine aex_exit_then ?_ | refine aex_exit_here ?_ | refine aex_exit_out rfl ?_ | refine aex_nop ?_)))
    rw [nidx_end]
    subst hW
    exact aex_end (aex_retM0 (H' := fun v' => [.row v' 38 3 (hA M.a * hA M.b * hA M.c) (vecC (halfV M F)), .cells bo (hdr (halfM M) (vv v')), .cells b1 (hdr M (rs 3 n (vecC F)))]) v rfl (by repeat (first | exact HSub.nil | refine HSub.keep ?_ | refine HSub.drop ?_)))
end Go.Proofs.Ytfhglmdbkjbhjaa
