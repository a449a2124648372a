/-
  Multiples of meshes: the law's walk. Conditions: none.
-/
import Derived.Test.YtjkpnnbahhlopaaMd
import Derived.Test.YtjkpnnbahhlopaaSu
namespace Go.Proofs.Ytjkpnnbahhlopaa
open Go Go.RowKit

section
variable {P : Program} {w0 : World} {ops : Array Oper} {nt : Nat} {env : List (Nat × AV)} {H : List HE} {rest : List Oper} {Q : Exit → Act → World → Prop} {ty : TypeId} {pos : String} {after : Array Edge}
theorem aops_markA {d f T s n : Nat} {y z : Operand} {v : Value} {A : AV} {c : Nat → List AV} {mk : Int → Nat → List AV} {K : Int} {H2 : List HE} {ts : Array TypeId} (hc : ConM P f [A, vv (.int .i64 K)] [.row v T s n c] (fun _ : Unit => vv (.int .i64 (K + (s : Int) * n))) (fun _ => [.row v T s n (mk K)]))
    (hy : Opd ⟨nt, env, H⟩ y A) (hz : Opd ⟨nt, env, H⟩ z (vv (.int .i64 K))) (hr : HRep H (.row v T s n c) (.row v T s n (mk K)) H2) (hd : Nat.blt d nt = true) (k : AOps P w0 ops ⟨nt, (d, vv (.int .i64 (K + (s : Int) * n))) :: env, H2⟩ rest Q) : AOps P w0 ops ⟨nt, env, H⟩ (⟨some d, .call ⟨.value (.func f), #[y, z], ts⟩, ty, pos, after, none⟩ :: rest) Q := by
  refine ⟨fun a w hs => wpList_plain rfl fun KK hK => ?_⟩
  have ey : A.R w0 (a.eval y) := hy w0 a w hs
  have ez : a.eval z = .int .i64 K := hz w0 a w hs
  unfold Oper.wp
  rw [run_call hc.1 (.func f) #[y, z] ts rfl a rfl w]
  simp only [Oper.upon, List.map_toArray, List.map_cons, List.map_nil, ez]
  refine (hc.2 w0 w [a.eval y, .int .i64 K] hs.below ⟨ey, rfl, trivial⟩ ⟨hs.heap.get _ hr.mem, fun g hg => ⟨(hs.heap.foot _ hr.mem g hg).1, (hs.heap.foot _ hr.mem g hg).2, fun e he => by cases he⟩, trivial⟩).mono fun e w' h => ?_
  obtain ⟨u, i, rfl, hu, hb, hH, hsz, hk, hf⟩ := h
  refine hK _ _ (k.out _ _ (hs.step2 (dst := some d) hb hu hd (hr.ok (show ∀ g, (HE.row v T s n (mk K)).foot g → (HE.row v T s n c).foot g from fun _ h => h) hs.heap hsz (fun g hg hng => ?_) hH.1)))
  by_cases h0 : w0.heap.size ≤ g
  · exact hk g ⟨h0, hg, fun e he => by
      cases he with
      | head => exact hng
      | tail _ he => cases he⟩
  · rw [hb.block g (by omega), hs.below.block g (by omega)]
end
section
variable {w0 : World} {ops : Array Oper} {nt : Nat} {env : List (Nat × AV)} {H : List HE} {rest : List Oper} {Q : Exit → Act → World → Prop} {ty : TypeId} {pos : String} {after : Array Edge}
theorem sMm {d f T s n : Nat} {y z : Operand} {M : MH} {v : Value} {F : Nat → V3} {mk : Int → Nat → List AV} {K1 : Int} {H2 : List HE} {ts : Array TypeId} (hc : ∀ {M : MH} {v : Value} {n : Nat} {F : Nat → V3} {K : Int}, n ≤ 1048576 → 0 ≤ K → K ≤ 16777216 → ConM Try.prog f [mesh M (vv v), vv (.int .i64 K)] [.row v T s n (vecC F)] (fun _ : Unit => vv (.int .i64 (K + (s : Int) * n))) (fun _ => [.row v T s n (mk K)]))
    (k : AOps Try.prog w0 ops ⟨nt, (d, vv (.int .i64 (K1 + (s : Int) * n))) :: env, H2⟩ rest Q)
    (hy : Opd ⟨nt, env, H⟩ y (mesh M (vv v)) := by first | exact Opd.tmp rfl | exact Opd.c _)
    (hz : Opd ⟨nt, env, H⟩ z (vv (.int .i64 K1)) := by first | exact Opd.tmp rfl | exact Opd.c _)
    (hr : HRep H (.row v T s n (vecC F)) (.row v T s n (mk K1)) H2 := by repeat (first | exact HRep.here | apply HRep.there))
    (hn : n ≤ 1048576 := by omega) (h0 : 0 ≤ K1 := by omega) (h1 : K1 ≤ 16777216 := by omega) (hd : Nat.blt d nt = true := by exact rfl)
    : AOps Try.prog w0 ops ⟨nt, env, H⟩ (⟨some d, .call ⟨.value (.func f), #[y, z], ts⟩, ty, pos, after, none⟩ :: rest) Q := aops_markA (hc hn h0 h1) hy hz hr hd k
end
end Go.Proofs.Ytjkpnnbahhlopaa
