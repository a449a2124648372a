/-
  Calls that hand back deep copies; marks of them: rules. Conditions: none.
-/
import Derived.Test.YtokhbfbanofchaaWm
import Derived.Test.YtokhbfbanofchaaSu
namespace Go.Proofs.Ytokhbfbanofchaa
open Go Go.RowKit

theorem HE.okrow_base {wa w0 w : World} {v : Value} {T size n : Nat} {c : Nat → List AV} (h : (HE.row v T size n c).ok wa w) (hp : ∀ k, (c k).all (·.p) = true) (hb : ∀ g, v.ownBlock = some g → w0.heap.size ≤ g) : (HE.row v T size n c).ok w0 w := by
  obtain ⟨xs, ⟨hl, h1⟩, h2, h3⟩ := h
  refine ⟨xs, ⟨hl, ?_⟩, fun k hk => (h2 k hk).pure (hp k), h3⟩
  rcases h1 with h1 | ⟨g, cap, cur, rfl, hg, r⟩
  · exact .inl h1
  · exact .inr ⟨g, cap, cur, rfl, hb g rfl, r⟩
section
variable {P : Program} {w0 : World} {ops : Array Oper} {nt : Nat} {env : List (Nat × AV)} {H : List HE} {rest : List Oper} {Q : Exit → Act → World → Prop} {ty : TypeId} {pos : String} {after : Array Edge}
theorem aops_callD {d : Nat} {f : FuncId} {n : Nat} {W : Nat → WI} {As : List AV} {args : List Operand} {ts : Array TypeId} (hc : Con P f As (RetDeep n W)) (ha : Givs ⟨nt, env, H⟩ args As) (hd : Nat.blt d nt = true)
    (k : ∀ v wa w1 sv, Fresh wa w1 v (rs 3 n (wireC W)) → WMem wa w1 v sv n W → AOps P w0 ops ⟨nt, (d, vv v) :: env, .fr w1 (Span wa w1) :: H⟩ rest Q) : AOps P w0 ops ⟨nt, env, H⟩ (⟨some d, .call { callee := .value (.func f), args := args.toArray, argTypes := ts }, ty, pos, after, none⟩ :: rest) Q := by
  refine ⟨fun a w hs => wpList_plain rfl fun K hK => ?_⟩
  unfold Oper.wp
  rw [run_call hc.1 (.func f) args.toArray ts rfl a rfl w]
  have := hc.2 w (args.map a.eval) (ha.all hs)
  simp only [Oper.upon]
  rw [show args.toArray.map a.eval = (args.map a.eval).toArray by simp]
  refine this.mono fun e w' h => ?_
  obtain ⟨v, rfl, hb, hv, sv, hD⟩ := h
  refine hK _ _ ((k v w w' sv ⟨hv⟩ hD).out _ _ (hs.step (A := vv v) (dst := some d) (hb.mono hs.below.size) rfl hd ((hs.heap.below hb).cons ⟨Nat.le_refl _, fun _ _ => rfl⟩ fun g hg => ?_)))
  exact ⟨Nat.le_trans hs.below.size hg.1, hg.2, fun e' he' hf => absurd (hs.heap.foot e' he' g hf).2 (by have := hg.1; omega)⟩
theorem aops_markW {d : Nat} {f : FuncId} {y z : Operand} {v : Value} {sv : Nat → Value} {n : Nat} {W : Nat → WI} {K : Int} {wa w1 : World} {H2 : List HE} {ts : Array TypeId} (hc : MarkC P f) (hD : WMem wa w1 v sv n W) (hbd : n + sumM W n ≤ 1048576) (h0 : 0 ≤ K) (h1 : K ≤ 1048576)
    (hy : Opd ⟨nt, env, H⟩ y (vv v)) (hz : Opd ⟨nt, env, H⟩ z (vv (.int .i64 K))) (ht : HTake H (.fr w1 (Span wa w1)) H2) (hd : Nat.blt d nt = true) (k : AOps P w0 ops ⟨nt, (d, vv (.int .i64 (K + (markN W n : Nat)))) :: env, H2⟩ rest Q) : AOps P w0 ops ⟨nt, env, H⟩ (⟨some d, .call ⟨.value (.func f), #[y, z], ts⟩, ty, pos, after, none⟩ :: rest) Q := by
  refine ⟨fun a w hs => wpList_plain rfl fun KK hK => ?_⟩
  have ey : a.eval y = v := hy w0 a w hs
  have ez : a.eval z = .int .i64 K := hz w0 a w hs
  obtain ⟨f1, f2, f3⟩ := ht.ok hs.heap
  have f3' : ∀ g, Span wa w1 g → w0.heap.size ≤ g ∧ g < w.heap.size ∧ ∀ e' ∈ H2, ¬ e'.foot g := f3
  have hD' : WMem w0 w v sv n W := by
    refine ⟨HE.okrow_base (hD.row.keep f1.1 fun g hg => f1.2 g (hD.out g hg)) (fun _ => rfl) fun g hg => (f3' g (hD.out g hg)).1, fun g hg => ⟨(f3' g (hD.out g hg)).1, (f3' g (hD.out g hg)).2.1⟩, fun j hj => HE.okrow_base ((hD.inn j hj).keep f1.1 fun g hg => f1.2 g (hD.ino j hj g hg).1) (fun _ => rfl) fun g hg => (f3' g (hD.ino j hj g hg).1).1, fun j hj g hg => ?_⟩
    obtain ⟨a1, a2, a3⟩ := hD.ino j hj g hg
    exact ⟨⟨(f3' g a1).1, (f3' g a1).2.1⟩, a2, a3⟩
  unfold Oper.wp
  rw [run_call hc.1 (.func f) #[y, z] ts rfl a rfl w]
  simp only [Oper.upon, List.map_toArray, List.map_cons, List.map_nil, ey, ez]
  refine (hc.2 w0 w v sv n W K hbd h0 h1 hs.below hD').mono fun e w' h => ?_
  obtain ⟨u, rfl, rfl, hb, hsz, hk⟩ := h
  refine hK _ _ (k.out _ _ (hs.step2 (A := vv _) (dst := some d) hb rfl hd (f2.keep hsz fun e he g hg => hk g ?_)))
  have hr := f2.foot e he g hg
  exact ⟨hr.1, hr.2, fun h => (f3' g (hD.out g h)).2.2 e he hg, fun ⟨j, hj, hjg⟩ => (f3' g (hD.ino j hj g hjg).1).2.2 e he hg⟩
end
section
variable {w0 : World} {ops : Array Oper} {nt : Nat} {env : List (Nat × AV)} {H : List HE} {rest : List Oper} {Q : Exit → Act → World → Prop} {ty : TypeId} {pos : String} {after : Array Edge}
theorem sCd {d f n : Nat} {W : Nat → WI} {As : List AV} {args : List Operand} {ts : Array TypeId} (hc : Con Try.prog f As (RetDeep n W)) (k : ∀ v wa w1 sv, Fresh wa w1 v (rs 3 n (wireC W)) → WMem wa w1 v sv n W → AOps Try.prog w0 ops ⟨nt, (d, vv v) :: env, .fr w1 (Span wa w1) :: H⟩ rest Q)
    (hg : Givs ⟨nt, env, H⟩ args As := by first | ((repeat (first | exact Givs.nil | refine Givs.cons (by first | exact Giv.of (Opd.tmp rfl) | exact Giv.of (OpF.c (by decide +kernel)) | exact Giv.of (Opd.c _) | exact Giv.box (Opd.tmp rfl) (by first | ((repeat (first | exact List.Mem.head _ | apply List.Mem.tail)); done) | fail) | exact Giv.row (Opd.tmp rfl) (by first | ((repeat (first | exact List.Mem.head _ | apply List.Mem.tail)); done) | fail) (fun _ _ => rfl)) ?_)); done) | fail)
    (hd : Nat.blt d nt = true := by exact rfl)
    : AOps Try.prog w0 ops ⟨nt, env, H⟩ (⟨some d, .call ⟨.value (.func f), args.toArray, ts⟩, ty, pos, after, none⟩ :: rest) Q := aops_callD hc hg hd k
theorem sMw {d f n : Nat} {y z : Operand} {v : Value} {sv : Nat → Value} {W : Nat → WI} {K1 : Int} {wa w1 : World} {H2 : List HE} {ts : Array TypeId} (hc : MarkC Try.prog f) (k : AOps Try.prog w0 ops ⟨nt, (d, vv (.int .i64 (K1 + (markN W n : Nat)))) :: env, H2⟩ rest Q)
    (hy : Opd ⟨nt, env, H⟩ y (vv v) := by first | exact Opd.tmp rfl | exact Opd.c _)
    (hD : WMem wa w1 v sv n W := by assumption)
    (hz : Opd ⟨nt, env, H⟩ z (vv (.int .i64 K1)) := by first | exact Opd.tmp rfl | exact Opd.c _)
    (ht : HTake H (.fr w1 (Span wa w1)) H2 := by first | ((repeat (first | exact HTake.here | apply HTake.there)); done) | fail)
    (hbd : n + sumM W n ≤ 1048576 := by omega) (h0 : 0 ≤ K1 := by omega) (h1 : K1 ≤ 1048576 := by omega) (hd : Nat.blt d nt = true := by exact rfl)
    : AOps Try.prog w0 ops ⟨nt, env, H⟩ (⟨some d, .call ⟨.value (.func f), #[y, z], ts⟩, ty, pos, after, none⟩ :: rest) Q := aops_markW hc hD hbd h0 h1 hy hz ht hd k
end
theorem inj_tup {B : AV} : Inj fun sv => tup [vv sv, B] := fun w sv sv' v h h' => by
  obtain ⟨cs, e, a⟩ := h
  obtain ⟨cs', e', a'⟩ := h'
  subst e
  injection e' with e'
  have e2 : cs = cs' := by simpa using congrArg Array.toList e'
  subst e2
  match cs, a, a' with
  | x :: y :: r, a, a' =>
    have h1 : x = sv := a.1
    have h2 : x = sv' := a'.1
    rw [← h1, h2]
section
variable {P : Program} {nt : Nat} {env : List (Nat × AV)} {H : List HE} {ops : Array Oper} {rest : List Oper} {ty : TypeId} {pos : String} {after : Array Edge} {ns : NS} {K : AS → NS → Prop}
/-- A call in a head that hands back a new slice and a second value. -/
theorem uRt {d f j T size n : Nat} {c : Nat → List AV} {B : AV} {As : List AV} {args : List Operand} {ts : Array TypeId} (hc : Con Try.prog f As (RetRow T size n c fun sv => tup [vv sv, B])) (k : DWU Try.prog ops ⟨nt, (d, top) :: env, H⟩ (ns.add d (.row T size n c fun sv => tup [vv sv, B])) j rest K)
    (hg : GivsE ⟨nt, env, H⟩ ns.es after args As := by first | ((repeat (first | exact GivsE.nil | refine GivsE.cons (by first | exact GivE.of (Giv.of (Opd.tmp rfl)) | exact GivE.row (by first | ((repeat (first | exact List.Mem.head _ | apply List.Mem.tail)); done) | fail) (by rfl) (by first | exact turns_vv | exact turns_mesh | exact turns_wire) | exact GivE.of (Giv.of (OpF.c (by decide +kernel))) | exact GivE.of (Giv.of (Opd.c _)) | exact GivE.of (Giv.box (Opd.tmp rfl) (by first | ((repeat (first | exact List.Mem.head _ | apply List.Mem.tail)); done) | fail)) | exact GivE.of (Giv.row (Opd.tmp rfl) (by first | ((repeat (first | exact List.Mem.head _ | apply List.Mem.tail)); done) | fail) (fun _ _ => rfl)) | exact GivE.of (Giv.mesh (Opd.tmp rfl) (by first | ((repeat (first | exact List.Mem.head _ | apply List.Mem.tail)); done) | fail)) | exact GivE.of (Giv.wire (Opd.tmp rfl) (by first | ((repeat (first | exact List.Mem.head _ | apply List.Mem.tail)); done) | fail)) | exact GivE.of (Giv.boxmesh (Opd.tmp rfl) (by first | ((repeat (first | exact List.Mem.head _ | apply List.Mem.tail)); done) | fail) (by first | ((repeat (first | exact List.Mem.head _ | apply List.Mem.tail)); done) | fail)) | exact GivE.late (by first | ((repeat (first | exact List.Mem.head _ | apply List.Mem.tail)); done) | fail) (by rfl) | exact GivE.of (Giv.fresh (Opd.tmp rfl) (by assumption) (by first | ((repeat (first | exact List.Mem.head _ | apply List.Mem.tail)); done) | fail))) ?_)); done) | fail)
    (hp : ∀ k, (c k).all (·.p) = true := by exact fun _ => rfl)
    (hd : Nat.blt d nt = true := by exact rfl)
    : DWU Try.prog ops ⟨nt, env, H⟩ ns (j + 1) (⟨some d, .call ⟨.value (.func f), args.toArray, ts⟩, ty, pos, after, none⟩ :: rest) K := du_row (Opd.func f) hc inj_tup hg hp hd k
end
end Go.Proofs.Ytokhbfbanofchaa
