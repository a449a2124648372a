/-
  Regions that draw their order, all orders walked one by one; a cut between two parts of a text. Conditions: none.
-/
import Derived.Test.YtebjdijlaaipdaaBB
namespace Go.Proofs.Ytebjdijlaaipdaa
open Go Go.RowKit

structure AAny (P : Program) (w0 : World) (ops : Array Oper) (s : AS) (f : Nat) (listed : Array Bool) (Q : Exit → Act → World → Prop) : Prop where
  out : ∀ a w, Sat w0 s a w → wpAny P .any ops Q f listed a w
structure AOp (P : Program) (w0 : World) (ops : Array Oper) (s : AS) (f : Nat) (listed : Array Bool) (i : Nat) (Q : Exit → Act → World → Prop) : Prop where
  out : ∀ a w, Sat w0 s a w → wpOp P ops Q i (wpAny P .any ops Q f (listed.setIfInBounds i true)) a w
section
variable {P : Program} {w0 : World} {ops : Array Oper} {nt f i j : Nat} {env : List (Nat × AV)} {H : List HE} {s : AS} {listed : Array Bool} {Q : Exit → Act → World → Prop} {op : Op} {ty : TypeId} {pos : String} {after : Array Edge}
theorem awp_any {id : Nat} {l : List Oper} (hm : P.follows .mixedOrders = true) (h : AAny P w0 l.toArray s l.length (Array.replicate l.length false) Q) : AWp P w0 s (.region id l.toArray true) Q :=
  ⟨fun a w hs => wp_region_any hm (h.out a (w.drewN 1) ⟨below_drewN hs.below 1, hs.size, hs.defers, hs.env, hs.heap.below (below_drewN (Below.refl _ _) 1)⟩)⟩
theorem aany_1 (hr : Region.ready .any ops listed = [i]) (h : AOp P w0 ops s f listed i Q) : AAny P w0 ops s (f + 1) listed Q :=
  ⟨fun a w hs => ⟨fun h0 => (by rw [hr] at h0; cases h0), fun j hj => by
    rw [hr] at hj
    obtain rfl : j = i := by simpa using hj
    exact h.out a w hs⟩⟩
theorem aany_2 (hr : Region.ready .any ops listed = [i, j]) (h : AOp P w0 ops s f listed i Q) (h2 : AOp P w0 ops s f listed j Q) : AAny P w0 ops s (f + 1) listed Q :=
  ⟨fun a w hs => ⟨fun h0 => (by rw [hr] at h0; cases h0), fun k hk => by
    rw [hr] at hk
    rcases (show k = i ∨ k = j by simpa using hk) with rfl | rfl
    · exact h.out a w hs
    · exact h2.out a w hs⟩⟩
theorem aany_tail {l : List Oper} (n : Nat) (hf : (l.drop n).length = f) (hs : Region.seqB .any l.toArray f n listed = true) (k : ADrop P w0 l.toArray s n l Q) : AAny P w0 l.toArray s f listed Q := by
  subst hf
  exact ⟨fun a w h => wpAny_of_seq (P := P) (md := .any) (ops := l.toArray) (Q' := Q) (l.drop n) n listed a w (fun j => by simp [List.getElem?_drop]) hs (k.out.out a w h)⟩
theorem aop_ev {d : Nat} {A : AV} (ho : ops[i]? = some ⟨some d, op, ty, pos, after, none⟩) (h : Ev P ⟨nt, env, H⟩ ⟨some d, op, ty, pos, after, none⟩ A) (hd : Nat.blt d nt = true) (k : AAny P w0 ops ⟨nt, (d, A) :: env, H⟩ f (listed.setIfInBounds i true) Q) : AOp P w0 ops ⟨nt, env, H⟩ f listed i Q := by
  refine ⟨fun a w hs => ?_⟩
  unfold wpOp
  rw [ho]
  simp only [Region.wanted, if_true]
  exact .inl (ev_wp h (dok_some hd) hs fun a' w' hs' => k.out a' w' hs')
theorem aop_callM {d : Nat} {g : FuncId} {x : Operand} {As l : List AV} {H1 R : List HE} {ι : Type} {A : ι → AV} {H' : ι → List HE} {args : List Operand} {ts : Array TypeId} (ho : ops[i]? = some ⟨some d, .call { callee := .value x, args := args.toArray, argTypes := ts }, ty, pos, after, none⟩)
    (hc : ConM P g (As ++ l) H1 A H') (hx : Opd ⟨nt, env, H⟩ x (clo g l)) (ha : Opds ⟨nt, env, H⟩ args As) (hsp : HSplit H H1 R) (hd : Nat.blt d nt = true)
    (k : ∀ q, AAny P w0 ops ⟨nt, (d, A q) :: env, H' q ++ R⟩ f (listed.setIfInBounds i true) Q) : AOp P w0 ops ⟨nt, env, H⟩ f listed i Q := by
  refine ⟨fun a w hs => ?_⟩
  unfold wpOp
  rw [ho]
  simp only [Region.wanted, if_true]
  refine .inl ?_
  obtain ⟨cs, e, hcs⟩ := hx w0 a w hs
  unfold Oper.wp
  rw [run_callC hc.1 x args.toArray ts rfl a cs e w]
  simp only [Oper.upon]
  rw [show args.toArray.map a.eval ++ cs.toArray = (args.map a.eval ++ cs).toArray by simp]
  refine (hc.2 w0 w _ hs.below ((ha.all hs).append hcs) (hsp.ok hs.heap).1).mono fun e w' h => ?_
  obtain ⟨v, q, rfl, hv, hb, hH, hsz, hk, hf⟩ := h
  exact (k q).out _ _ (callM_sat (dst := some d) hs hsp hd hv hb hH hsz hk hf)
/-- A cut: what is known behind the first part is one of the states st. -/
theorem awp_cut {ι : Type} (st : ι → AS) {x y : Code} (h1 : AWp P w0 s x (Exit.then (fun a w => ∃ i, Sat w0 (st i) a w) Q)) (h2 : ∀ i, AWp P w0 (st i) y Q) : AWp P w0 s x (Exit.then (y.wp P Q) Q) :=
  ⟨fun a w hs => (Code.wp_mono (fun e a w q => by
    cases e
    case normal =>
      obtain ⟨i, h⟩ := q
      exact (h2 i).out a w h
    all_goals exact q) (h1.out a w hs))⟩
theorem aex_cut {ι : Type} {st : ι → AS} (i : ι) (h : Imp s (st i)) : AEx w0 s .normal (Exit.then (fun a w => ∃ i, Sat w0 (st i) a w) Q) := ⟨fun a w hs => ⟨i, h w0 a w hs⟩⟩
/-- An entry of memory is named first. -/
theorem awp_fst {cd : Code} {e : HE} {H' : List HE} (ht : HTake s.heap e H') (k : AWp P w0 ⟨s.nt, s.env, e :: H'⟩ cd Q) : AWp P w0 s cd Q :=
  ⟨fun a w hs => by
    obtain ⟨h1, h2, h3⟩ := ht.ok hs.heap
    exact k.out a w ⟨hs.below, hs.size, hs.defers, hs.env, h1, h3, h2⟩⟩
end
end Go.Proofs.Ytebjdijlaaipdaa
