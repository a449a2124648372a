/-
  The walk over a function's text with abstract states: operations, regions, branches, loops, the end. Conditions: none.
-/
import Derived.Test.YthnlpbfheefldaaAd
import Derived.Great.FillDense
import Derived.Laws.CopyRow
import Derived.Maps.AppendAt
namespace Go.Proofs.Ythnlpbfheefldaa
open Go Go.RowKit

structure AEx (w0 : World) (s : AS) (e : Exit) (Q : Exit → Act → World → Prop) : Prop where
  out : ∀ a w, Sat w0 s a w → Q e a w
structure AWp (P : Program) (w0 : World) (s : AS) (c : Code) (Q : Exit → Act → World → Prop) : Prop where
  out : ∀ a w, Sat w0 s a w → c.wp P Q a w
structure AOps (P : Program) (w0 : World) (ops : Array Oper) (s : AS) (l : List Oper) (Q : Exit → Act → World → Prop) : Prop where
  out : ∀ a w, Sat w0 s a w → wpList P ops Q l a w

section
variable {P : Program} {w0 : World} {ops : Array Oper} {nt : Nat} {env : List (Nat × AV)} {H : List HE} {rest : List Oper} {Q : Exit → Act → World → Prop} {op : Op} {ty : TypeId} {pos : String} {after : Array Edge}

theorem dok_some {d : Nat} (h : Nat.blt d nt = true) : dok ⟨nt, env, H⟩ (some d) = true := h
theorem aops_of {o : Oper} {s s' : AS} (hg : o.guard = none) (h : ∀ a w, Sat w0 s a w → ∀ K : Act → World → Prop, (∀ a' w', Sat w0 s' a' w' → K a' w') → o.wp P a w K Q) (k : AOps P w0 ops s' rest Q) : AOps P w0 ops s (o :: rest) Q := ⟨fun a w hs =>
  wpList_plain hg fun K hK => h a w hs K fun a' w' hs' => hK _ _ (k.out a' w' hs')⟩
theorem ev_wp {o : Oper} {s : AS} {A : AV} (h : Ev P s o A) (hd : dok s o.dst = true) {a : Act} {w : World} (hs : Sat w0 s a w) {K : Act → World → Prop} (hK : ∀ a' w', Sat w0 (s.put o.dst A) a' w' → K a' w') : o.wp P a w K Q := by
  have := h.out w0 a w hs
  unfold Oper.wp
  generalize (execOp a.eval o).run P w = r at this
  cases r with
  | ok n w' =>
    cases n <;> simp only [EvRes] at this <;> simp only [Oper.upon]
    case value v => exact hK _ _ (hs.put this.1 this.2 hd)
    case skip => exact hK _ _ (hs.put this.1 this.2 hd)
    case enter f args =>
      refine this.2.mono fun e w'' h => ?_
      obtain ⟨v, rfl, hb, hr⟩ := h
      exact hK _ _ (hs.put (this.1.trans (hb.mono this.1.size)) hr hd)
  | halt x w' => simp only [EvRes] at this
/-- An operation that only yields a value. -/
theorem aops_ev {d : Nat} {A : AV} (h : Ev P ⟨nt, env, H⟩ ⟨some d, op, ty, pos, after, none⟩ A) (hd : Nat.blt d nt = true) (k : AOps P w0 ops ⟨nt, (d, A) :: env, H⟩ rest Q) : AOps P w0 ops ⟨nt, env, H⟩ (⟨some d, op, ty, pos, after, none⟩ :: rest) Q :=
  aops_of rfl (fun a w hs K hK => ev_wp h (dok_some hd) hs hK) k
theorem aops_evn {A : AV} (h : Ev P ⟨nt, env, H⟩ ⟨none, op, ty, pos, after, none⟩ A) (k : AOps P w0 ops ⟨nt, env, H⟩ rest Q) : AOps P w0 ops ⟨nt, env, H⟩ (⟨none, op, ty, pos, after, none⟩ :: rest) Q :=
  aops_of (s' := ⟨nt, env, H⟩) rfl (fun a w hs K hK => ev_wp h rfl hs hK) k
theorem aops_nil {s : AS} (h : AEx w0 s .normal Q) : AOps P w0 ops s [] Q := ⟨h.out⟩

/- Guards. -/
theorem yielded_of {j dj : Nat} {a : Act} {w : World} {s : AS} {b : Bool} (hs : Sat w0 s a w) (hj : (ops[j]?).bind (·.dst) = some dj) (hb : look dj s.env = some (vv (.bool b))) : yielded ops a.tmps j = some b := by
  have e : a.tmps.getD dj undef = .bool b := hs.env _ _ hb
  unfold yielded
  rw [hj]
  have : a.tmps[dj]? = some (.bool b) := by
    rw [Array.getD_eq_getD_getElem?] at e
    cases h : a.tmps[dj]? with
    | none => rw [h] at e; simp [undef] at e
    | some v => rw [h] at e; simp at e; rw [e]
  simp [this]
theorem aops_gyes {d : Option Tmp} {j dj : Nat} {want b : Bool} {s : AS} (hj : (ops[j]?).bind (·.dst) = some dj) (hb : look dj s.env = some (vv (.bool b))) (he : b = want) (k : AOps P w0 ops s (⟨d, op, ty, pos, after, none⟩ :: rest) Q) : AOps P w0 ops s (⟨d, op, ty, pos, after, some (j, want)⟩ :: rest) Q := by
  refine ⟨fun a w hs => ?_⟩
  have hy := yielded_of (ops := ops) hs hj hb
  subst he
  have h1 := k.out a w hs
  unfold wpList at h1 ⊢
  rw [if_pos (by simp [Region.wanted, hy])]
  rw [if_pos (by simp [Region.wanted])] at h1
  exact h1
theorem aops_gno {d : Nat} {j dj : Nat} {want b : Bool} (hj : (ops[j]?).bind (·.dst) = some dj) (hb : look dj env = some (vv (.bool b))) (he : b = !want) (hd : Nat.blt d nt = true) (k : AOps P w0 ops ⟨nt, (d, vv undef) :: env, H⟩ rest Q) : AOps P w0 ops ⟨nt, env, H⟩ (⟨some d, op, ty, pos, after, some (j, want)⟩ :: rest) Q := by
  refine ⟨fun a w hs => ?_⟩
  have hy := yielded_of (ops := ops) hs hj hb
  unfold wpList
  rw [if_neg (by subst he; simp [Region.wanted, hy])]
  exact k.out _ _ (hs.put (Below.refl _ _) (A := vv undef) rfl (dok_some hd))
/-- A guard that was skipped itself. -/
theorem aops_gskip {d : Nat} {j dj : Nat} {want : Bool} (hj : (ops[j]?).bind (·.dst) = some dj) (hb : look dj env = some (vv undef)) (hd : Nat.blt d nt = true) (k : AOps P w0 ops ⟨nt, (d, vv undef) :: env, H⟩ rest Q) : AOps P w0 ops ⟨nt, env, H⟩ (⟨some d, op, ty, pos, after, some (j, want)⟩ :: rest) Q := by
  refine ⟨fun a w hs => ?_⟩
  have e : a.tmps.getD dj undef = undef := hs.env _ _ hb
  have hy : yielded ops a.tmps j = none := by
    unfold yielded
    rw [hj]
    simp only [Option.bind_some]
    rw [Array.getD_eq_getD_getElem?] at e
    cases h : a.tmps[dj]? with
    | none => rfl
    | some v => rw [h] at e; simp at e; subst e; rfl
  unfold wpList
  rw [if_neg (by simp [Region.wanted, hy])]
  exact k.out _ _ (hs.put (Below.refl _ _) (A := vv undef) rfl (dok_some hd))

/- Memory of the call's own. -/
theorem alloc_sat {s : AS} {a : Act} {w : World} {d : Nat} {l : List AV} {cs : Array Value} {T : TypeId} (hs : Sat w0 s a w) (hl : All w0 l cs.toList) (h1 : ∀ u ∈ cs.toList, u.oneCell' = true) (hd : Nat.blt d s.nt = true) :
    Sat w0 ⟨s.nt, (d, ptr w.heap.size 0) :: s.env, .cells w.heap.size l :: s.heap⟩ (a.put (some d) (.pointer (some ⟨w.heap.size, 0, none⟩))) (w.alloc (.cells cs T)) := by
  have hb : Below w.heap.size w (w.alloc (.cells cs T)) := (Below.refl _ _).alloc (Nat.le_refl _) _
  have hsz : (w.alloc (.cells cs T)).heap.size = w.heap.size + 1 := by simp
  refine hs.step (A := ptr w.heap.size 0) (dst := some d) (hb.mono hs.below.size) rfl hd ((hs.heap.below hb).cons ⟨cs, T, heap_alloc_new w _, hl, h1⟩ fun g hg => ?_)
  obtain rfl : g = w.heap.size := hg
  exact ⟨hs.below.size, by omega, fun e' he' hf => absurd (hs.heap.foot e' he' _ hf).2 (by omega)⟩
theorem aops_alloc {d : Nat} {t : TypeId} {zl : List AV} (hz : TyZ P t zl) (hd : Nat.blt d nt = true) (k : ∀ b, AOps P w0 ops ⟨nt, (d, ptr b 0) :: env, .cells b zl :: H⟩ rest Q) : AOps P w0 ops ⟨nt, env, H⟩ (⟨some d, .alloc t, ty, pos, after, none⟩ :: rest) Q := by
  refine ⟨fun a w hs => ?_⟩
  exact wpList_plain rfl fun K hK => by
    obtain ⟨i, z, hi, hzz, hl⟩ := hz
    have hr : (execOp a.eval (⟨some d, .alloc t, ty, pos, after, none⟩ : Oper)).run P w = .ok (.value (.pointer (some ⟨w.heap.size, 0, none⟩))) (w.alloc (.cells z.cells t)) := by
      simp [execOp, Instr.alloc, zeroValue, typeInfo, hi, hzz, newVar, newRow]
    unfold Oper.wp
    rw [hr]
    exact hK _ _ ((k _).out _ _ (alloc_sat hs (hl w0).1 (hl w0).2 hd))
theorem aops_box {d : Nat} {t : TypeId} {x : Operand} {A : AV} {l : List AV} (hx : Opd ⟨nt, env, H⟩ x A) (hc : CellsOf A l) (hd : Nat.blt d nt = true) (k : ∀ b, AOps P w0 ops ⟨nt, (d, ptr b 0) :: env, .cells b l :: H⟩ rest Q) : AOps P w0 ops ⟨nt, env, H⟩ (⟨some d, .box t x, ty, pos, after, none⟩ :: rest) Q := by
  refine ⟨fun a w hs => ?_⟩
  exact wpList_plain rfl fun K hK => by
    have hv := hc _ _ (hx w0 a w hs)
    have hr : (execOp a.eval (⟨some d, .box t x, ty, pos, after, none⟩ : Oper)).run P w = .ok (.value (.pointer (some ⟨w.heap.size, 0, none⟩))) (w.alloc (.cells (a.eval x).cells t)) := by
      simp [execOp, Instr.box, newVar, newRow]
    unfold Oper.wp
    rw [hr]
    exact hK _ _ ((k _).out _ _ (alloc_sat hs hv.1 hv.2 hd))

def splice (l : List AV) (i : Nat) (la : List AV) : List AV := l.take i ++ la ++ l.drop (i + la.length)
theorem aops_store {t : TypeId} {x y : Operand} {b i : Nat} {l l' la : List AV} {A : AV} {H' : List HE} (hx : Opd ⟨nt, env, H⟩ x (ptr b i)) (hy : Opd ⟨nt, env, H⟩ y A) (hc : CellsOf A la) (ht : (P.info? t).map (·.size) = some la.length) (hp : HPut H b l l' H') (hl : splice l i la = l') (hb : i + la.length ≤ l.length)
    (k : AOps P w0 ops ⟨nt, env, H'⟩ rest Q) : AOps P w0 ops ⟨nt, env, H⟩ (⟨none, .store t x y, ty, pos, after, none⟩ :: rest) Q := by
  refine ⟨fun a w hs => ?_⟩
  exact wpList_plain rfl fun K hK => by
    have hv := hc _ _ (hy w0 a w hs)
    have e : a.eval x = .pointer (some ⟨b, i, none⟩) := hx w0 a w hs
    obtain ⟨cs, T, h1, h2, h3⟩ := hs.heap.get _ hp.mem
    have hbf := (hs.heap.foot _ hp.mem b rfl)
    have hlen := h2.length
    have hlen2 := hv.1.length
    have hst := run_storeCells_at (P := P) b i T (a.eval y).cells.toList 0 cs w h1 (by rw [hlen2]; simp at hlen ⊢; omega) hv.2
    obtain ⟨ii, hii, his⟩ : ∃ ii, P.info? t = some ii ∧ ii.size = la.length := by
      cases hq : P.info? t with
      | none => rw [hq] at ht; cases ht
      | some ii => rw [hq] at ht; exact ⟨ii, rfl, by simpa using ht⟩
    have hr : (execOp a.eval (⟨none, .store t x y, ty, pos, after, none⟩ : Oper)).run P w = .ok .skip (w.setRow b (cs.toList.take (i + 0) ++ (a.eval y).cells.toList ++ cs.toList.drop (i + 0 + (a.eval y).cells.toList.length)).toArray) := by
      have hsz : (a.eval y).cells.size = ii.size := by rw [his, ← hlen2]; simp
      simp only [execOp, e, Instr.storeAt, Instr.sureAddr, storeVar, sizeOf, typeInfo, Sem.run_bind, Sem.run_pure, Result.andThen_ok, run_program, hii, Sem.run_map]
      rw [Sem.run_ite, if_neg (by simpa using hsz)]
      simp only [Sem.run_bind, Sem.run_pure, Result.andThen_ok, hst]
    unfold Oper.wp
    rw [hr]
    refine hK _ _ (k.out _ _ ?_)
    have hset : ∀ g, g ≠ b → (w.setRow b (cs.toList.take (i + 0) ++ (a.eval y).cells.toList ++ cs.toList.drop (i + 0 + (a.eval y).cells.toList.length)).toArray).heap[g]? = w.heap[g]? := fun g hg => by
      simp only [World.setRow, Array.getElem?_modify]
      rw [if_neg (by omega)]
    have hset2 : (w.setRow b (cs.toList.take (i + 0) ++ (a.eval y).cells.toList ++ cs.toList.drop (i + 0 + (a.eval y).cells.toList.length)).toArray).heap[b]? = some (.cells (cs.toList.take (i + 0) ++ (a.eval y).cells.toList ++ cs.toList.drop (i + 0 + (a.eval y).cells.toList.length)).toArray T (0, 0)) := by
      simp [World.setRow, Array.getElem?_modify, h1]
    have hsz' : (w.setRow b (cs.toList.take (i + 0) ++ (a.eval y).cells.toList ++ cs.toList.drop (i + 0 + (a.eval y).cells.toList.length)).toArray).heap.size = w.heap.size := by simp [World.setRow]
    refine Sat.step (dst := none) (A := vv undef) (v := undef) hs ⟨rfl, rfl, rfl, by omega, fun g hg => hset g (by have := hbf.1; omega)⟩ rfl rfl (hp.ok hs.heap (by omega) (fun g _ hg => hset g hg) ⟨_, T, hset2, ?_, ?_⟩)
    · rw [← hl, splice, ← hlen2]
      simpa using ((h2.take i).append hv.1).append (h2.drop (i + (a.eval y).cells.toList.length))
    · intro u hu
      simp only [Nat.add_zero, List.mem_append] at hu
      rcases hu with (hu | hu) | hu
      · exact h3 u (List.mem_of_mem_take hu)
      · exact hv.2 u hu
      · exact h3 u (List.mem_of_mem_drop hu)

end
end Go.Proofs.Ythnlpbfheefldaa
