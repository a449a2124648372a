/-
  Composite literals, slices of the call's own that grow; branches, loops, the end of a call; regions that draw. Conditions: none.
-/
import Derived.Test.YthnlpbfheefldaaAe
namespace Go.Proofs.Ythnlpbfheefldaa
open Go Go.RowKit

/-- Nothing is known. -/
def top : AV := ⟨fun _ _ => True, true, fun _ _ => trivial, fun _ _ _ _ _ => trivial⟩
def fillA (place : Nat → Option (Nat × Nat)) : List (Nat × List AV) → List AV → Option (List AV)
  | [], l => some l
  | (i, la) :: r, l => match place i with
    | none => none
    | some (off, size) => match Nat.beq la.length size && Nat.ble (off + la.length) l.length with
      | true => fillA place r (splice l off la)
      | false => none
def Parts (s : AS) : List (Nat × Operand) → List (Nat × List AV) → Prop
  | [], [] => True
  | (i, x) :: ps, (j, la) :: qs => (i = j ∧ ∃ A, Opd s x A ∧ CellsOf A la) ∧ Parts s ps qs
  | _, _ => False
def TyB (P : Program) (t : TypeId) (zl : List AV) (places : List (Nat × Nat)) : Prop := ∃ i z fs, P.info? t = some i ∧ i.zero = some z ∧ P.underlying t = some (.struct fs) ∧ fs.toList.mapM (fun f => (P.info? f.type).map fun i => (f.offset, i.size)) = some places ∧ ∀ w, All w zl z.cells.toList ∧ ∀ u ∈ z.cells.toList, u.oneCell' = true
/-- A slice type, of elements e of size cells. -/
def TyE (P : Program) (t e : TypeId) (size bytes : Nat) : Prop := ∃ i z, P.underlying t = some (.slice e) ∧ P.info? e = some i ∧ i.zero = some z ∧ i.size = size ∧ i.bytes = bytes ∧ z.cells.size = size ∧ 0 < size ∧ size ≤ 64 ∧ bytes ≤ 64 ∧ ∀ u ∈ z.cells.toList, u.oneCell' = true

theorem getD_splice (cs : Array Value) (off : Nat) (l : List Value) (h : off + l.length ≤ cs.size) :
    ((l.zipIdx 0).foldl (fun cs (x : Value × Nat) => cs.setIfInBounds (off + x.2) x.1) cs).toList = cs.toList.take off ++ l ++ cs.toList.drop (off + l.length) := by
  obtain ⟨h1, h2⟩ := Go.Great.foldl_set off l 0 cs
  apply List.ext_getElem?
  intro k
  have := h2 k
  rw [← Array.getElem?_toList] at this
  rw [this]
  simp only [Nat.add_zero]
  by_cases hk : k < off
  · rw [if_neg (by omega), List.append_assoc, List.getElem?_append_left (by simp; omega), List.getElem?_take, if_pos hk]
    simp
  · by_cases hk2 : k < off + l.length
    · rw [if_pos (by omega), List.append_assoc, List.getElem?_append_right (by simp; omega), List.getElem?_append_left (by simp; omega)]
      congr 1
      simp
      omega
    · rw [if_neg (by omega), List.getElem?_append_right (by simp; omega), List.getElem?_drop]
      simp only [List.length_append, List.length_take, Array.length_toList]
      rw [show off + l.length + (k - (min off cs.size + l.length)) = k by omega]
      simp

theorem fill_of {w0 : World} {place : Nat → Option (Nat × Nat)} : ∀ {pl : List (Nat × List AV)} {vs : List (Nat × Value)} {l l' : List AV} {cs : Array Value},
    (vs.map (·.1) = pl.map (·.1)) → (∀ (j : Nat) (q : Nat × List AV) (v : Nat × Value), pl[j]? = some q → vs[j]? = some v → All w0 q.2 v.2.cells.toList ∧ ∀ u ∈ v.2.cells.toList, u.oneCell' = true) → All w0 l cs.toList → (∀ u ∈ cs.toList, u.oneCell' = true) → fillA place pl l = some l' →
    ∃ cs', Instr.fill place cs vs = some cs' ∧ All w0 l' cs'.toList ∧ ∀ u ∈ cs'.toList, u.oneCell' = true
  | [], [], l, l', cs, _, _, hl, h1, hf => by
    injection hf with hf
    subst hf
    exact ⟨cs, rfl, hl, h1⟩
  | (i, la) :: pl, (i', v) :: vs, l, l', cs, hm, hv, hl, h1, hf => by
    simp only [List.map_cons, List.cons.injEq] at hm
    obtain ⟨rfl, hm⟩ := hm
    unfold fillA at hf
    cases hp : place i' with
    | none => rw [hp] at hf; cases hf
    | some q =>
      obtain ⟨off, size⟩ := q
      rw [hp] at hf
      simp only at hf
      split at hf
      · rename_i hb
        simp only [Bool.and_eq_true, Nat.beq_eq, Nat.ble_eq] at hb
        obtain ⟨ha, h1'⟩ := hv 0 _ _ rfl rfl
        have hlen := ha.length
        have hlen2 := hl.length
        simp at hlen hlen2
        have hsp := getD_splice cs off v.cells.toList (by simp; omega)
        obtain ⟨cs', g1, g2, g3⟩ := fill_of (w0 := w0) (place := place) (pl := pl) (vs := vs) (l := splice l off la) (l' := l') (cs := (v.cells.toList.zipIdx 0).foldl (fun cs (x : Value × Nat) => cs.setIfInBounds (off + x.2) x.1) cs) hm
          (fun j q v' hq hv' => hv (j + 1) q v' (by simpa using hq) (by simpa using hv'))
          (by
            rw [hsp]
            have := ((hl.take off).append ha).append (hl.drop (off + v.cells.toList.length))
            unfold splice
            rw [show la.length = v.cells.toList.length by simp [hlen]]
            exact this)
          (by
            rw [hsp]
            intro u hu
            simp only [List.mem_append] at hu
            rcases hu with (hu | hu) | hu
            · exact h1 u (List.mem_of_mem_take hu)
            · exact h1' u hu
            · exact h1 u (List.mem_of_mem_drop hu)) hf
        refine ⟨cs', ?_, g2, g3⟩
        unfold Instr.fill
        rw [hp]
        simp only
        rw [if_neg (by simp; omega)]
        rw [← g1]
        congr 1
        rw [← Array.foldl_toList, Array.toList_zipIdx]
      · cases hf
  | [], _ :: _, _, _, _, hm, _, _, _, _ => by simp at hm
  | _ :: _, [], _, _, _, hm, _, _, _, _ => by simp at hm

theorem Parts.vals {s : AS} {w0 w : World} {a : Act} (hs : Sat w0 s a w) : ∀ {ps : List (Nat × Operand)} {pl : List (Nat × List AV)}, Parts s ps pl →
    ((ps.map fun (i, x) => (i, a.eval x)).map (·.1) = pl.map (·.1)) ∧ ∀ (j : Nat) (q : Nat × List AV) (v : Nat × Value), pl[j]? = some q → (ps.map fun (i, x) => (i, a.eval x))[j]? = some v → All w0 q.2 v.2.cells.toList ∧ ∀ u ∈ v.2.cells.toList, u.oneCell' = true
  | [], [], _ => ⟨rfl, fun j q v h => by simp at h⟩
  | (i, x) :: ps, (j, la) :: pl, h => by
    obtain ⟨⟨rfl, A, hx, hc⟩, hr⟩ := h
    obtain ⟨h1, h2⟩ := Parts.vals hs hr
    refine ⟨by simpa using h1, fun j q v hq hv => ?_⟩
    cases j with
    | zero =>
      simp at hq hv
      subst hq
      subst hv
      exact hc _ _ (hx w0 a w hs)
    | succ j => exact h2 j q v (by simpa using hq) (by simpa using hv)
  | [], _ :: _, h => h.elim
  | _ :: _, [], h => h.elim

section
variable {P : Program} {s : AS} {o : Oper}
theorem ev_build {t : TypeId} {parts : List (Nat × Operand)} {pl : List (Nat × List AV)} {zl l' : List AV} {places : List (Nat × Nat)} (ho : o.op = .build t parts.toArray) (ht : TyB P t zl places) (hp : Parts s parts pl) (hf : fillA (places[·]?) pl zl = some l') : Ev P s o (agg l') := by
  refine ⟨fun w0 a w hs => ?_⟩
  obtain ⟨i, z, fs, hi, hz, hu, hpl, hzl⟩ := ht
  obtain ⟨h1, h2⟩ := hp.vals hs
  obtain ⟨cs, g1, g2, g3⟩ := fill_of (w0 := w0) h1 h2 (hzl w0).1 (hzl w0).2 hf
  have hb : P.built t (parts.map fun (i, x) => (i, a.eval x)) = some cs := by
    unfold Program.built
    simp only [hi, hu, hz, hpl]
    simpa using g1
  have hr := run_build (P := P) w t (parts.map fun (i, x) => (i, a.eval x)).toArray cs (by simpa using hb)
  have he : (parts.toArray.map fun (i, x) => (i, a.eval x)) = (parts.map fun (i, x) => (i, a.eval x)).toArray := by simp
  simp only [execOp, ho, he, hr, Sem.run_bind, Sem.run_pure, Result.andThen_ok]
  exact .of_val ⟨cs.toList, by simp, g2, g3⟩
end

section
variable {P : Program} {w0 : World} {ops : Array Oper} {nt : Nat} {env : List (Nat × AV)} {H : List HE} {rest : List Oper} {Q : Exit → Act → World → Prop} {op : Op} {ty : TypeId} {pos : String} {after : Array Edge}

theorem row_sat {s : AS} {a : Act} {w w' : World} {d T size n : Nat} {v : Value} {c : Nat → List AV} {H' : List HE} (hs : Sat w0 s a w) (hb : Below w0.heap.size w w') (hd : Nat.blt d s.nt = true) (hH : HOk w0 w' H') (hrow : (HE.row v T size n c).ok w0 w') (hf : ∀ g, v.ownBlock = some g → w0.heap.size ≤ g ∧ g < w'.heap.size ∧ ∀ e' ∈ H', ¬ e'.foot g) :
    Sat w0 ⟨s.nt, (d, vv v) :: s.env, .row v T size n c :: H'⟩ (a.put (some d) v) w' :=
  hs.step (A := vv v) (dst := some d) hb rfl hd (hH.cons hrow hf)

/-- '[]T{}'. -/
theorem aops_slice0 {d : Nat} {t e size bytes : Nat} {c : Nat → List AV} (ht : TyE P t e size bytes) (hd : Nat.blt d nt = true) (k : ∀ v, AOps P w0 ops ⟨nt, (d, vv v) :: env, .row v e size 0 c :: H⟩ rest Q) : AOps P w0 ops ⟨nt, env, H⟩ (⟨some d, .buildSlice t 0 #[], ty, pos, after, none⟩ :: rest) Q := by
  refine ⟨fun a w hs => ?_⟩
  exact wpList_plain rfl fun K hK => by
    obtain ⟨i, z, hu, hi, hz, hsz, hby, hzs, hpos, _⟩ := ht
    have hr : (execOp a.eval (⟨some d, .buildSlice t 0 #[], ty, pos, after, none⟩ : Oper)).run P w = .ok (.value (.slice (some ⟨w.heap.size, 0, none⟩) 0 0)) (w.alloc (.cells #[] e)) := by
      simp [execOp, Instr.buildSlice, run_underlying hu, sizeOf, typeInfo, hi, Instr.fill, newRow]
      rw [show (Array.map (fun (_ : Nat) => (default : Value)) (Array.range 0)) = #[] from Array.eq_empty_of_size_eq_zero (by simp)]
    unfold Oper.wp
    rw [hr]
    have hb : Below w.heap.size w (w.alloc (.cells #[] e)) := (Below.refl _ _).alloc (Nat.le_refl _) _
    have hsz' : (w.alloc (.cells (#[] : Array Value) e)).heap.size = w.heap.size + 1 := by simp
    refine hK _ _ ((k _).out _ _ (row_sat hs (hb.mono hs.below.size) hd (hs.heap.below hb) ⟨[], ⟨by simp, .inr ⟨w.heap.size, 0, #[], rfl, hs.below.size, heap_alloc_new w _, Nat.le_refl _, by simp [maxLen], by simp, by simp⟩⟩, fun k hk => absurd hk (by omega), fun u hu => by simp at hu⟩ fun g hg => ?_))
    obtain rfl : w.heap.size = g := by simpa [Value.ownBlock] using hg
    exact ⟨hs.below.size, by omega, fun e' he' hf => absurd (hs.heap.foot e' he' _ hf).2 (by omega)⟩
/-- The nil slice, to be appended to. -/
theorem aops_nilrow {s : AS} {l : List Oper} {T size : Nat} {c : Nat → List AV} (k : AOps P w0 ops ⟨s.nt, s.env, .row (.slice none 0 0) T size 0 c :: s.heap⟩ l Q) : AOps P w0 ops s l Q := by
  refine ⟨fun a w hs => ?_⟩
  exact k.out a w ⟨hs.below, hs.size, hs.defers, hs.env, hs.heap.cons ⟨[], World.ownsRow_nil _ _ _ _, fun k hk => absurd hk (by omega), fun u hu => by simp at hu⟩ fun g hg => by simp [HE.foot, Value.ownBlock] at hg⟩

/-- '[]T{x, ..}': a new block that holds its elements' cells. -/
theorem aops_sliceN {d t e n size bytes : Nat} {parts : List (Nat × Operand)} {pl : List (Nat × List AV)} {l' : List AV} (ht : TyE P t e size bytes) (hn : 0 < n ∧ n ≤ 100) (hp : Parts ⟨nt, env, H⟩ parts pl) (hf : fillA (fun i => some (i * size, size)) pl (List.replicate (n * size) top) = some l') (hd : Nat.blt d nt = true)
    (k : ∀ b, AOps P w0 ops ⟨nt, (d, vv (.slice (some ⟨b, 0, none⟩) n n)) :: env, .cells b l' :: H⟩ rest Q) : AOps P w0 ops ⟨nt, env, H⟩ (⟨some d, .buildSlice t n parts.toArray, ty, pos, after, none⟩ :: rest) Q := by
  refine ⟨fun a w hs => ?_⟩
  exact wpList_plain rfl fun K hK => by
    obtain ⟨i, z, hu, hi, hz, hsz, hby, hzs, hpos, hsm, hbm, hz1⟩ := ht
    obtain ⟨h1, h2⟩ := hp.vals hs
    have hnn : n * size ≤ 100 * 64 := Nat.mul_le_mul hn.2 hsm
    have hpos2 : 0 < n * size := Nat.mul_pos hn.1 hpos
    have hbase1 : ((Array.range (n * size)).map (z.cells[· % z.cells.size]!)).toList.length = n * size := by simp
    obtain ⟨cs, g1, g2, g3⟩ := fill_of (w0 := w0) (place := fun i => some (i * size, size)) (cs := (Array.range (n * size)).map (z.cells[· % z.cells.size]!)) h1 h2 (l := List.replicate (n * size) top)
      (All.of_get (by simp) fun j A hA => by
        have hj : j < n * size := by simpa using (List.getElem?_eq_some_iff.1 hA).1
        obtain rfl : A = top := by
          rw [List.getElem?_replicate, if_pos hj] at hA
          simpa using hA.symm
        exact ⟨_, by simp [hj]; rfl, trivial⟩)
      (fun u hu => by
        simp only [Array.toList_map, List.mem_map] at hu
        obtain ⟨j, _, rfl⟩ := hu
        have hlt : j % z.cells.size < z.cells.size := Nat.mod_lt _ (by omega)
        rw [getElem!_pos z.cells _ hlt]
        exact hz1 _ (by simp)) hf
    subst hsz
    have hr := run_buildSlice (P := P) w t e n (parts.map fun (i, x) => (i, a.eval x)).toArray cs i z hu hi hz (by omega) (by omega) (by simpa using g1)
    have he : (parts.toArray.map fun (i, x) => (i, a.eval x)) = (parts.map fun (i, x) => (i, a.eval x)).toArray := by simp
    have hr2 : (execOp a.eval (⟨some d, .buildSlice t n parts.toArray, ty, pos, after, none⟩ : Oper)).run P w = .ok (.value (.slice (some ⟨w.heap.size, 0, none⟩) n n)) (w.alloc (.cells cs e)) := by
      simp only [execOp, he, hr, Sem.run_bind, Sem.run_pure, Result.andThen_ok]
    unfold Oper.wp
    rw [hr2]
    have hb : Below w.heap.size w (w.alloc (.cells cs e)) := (Below.refl _ _).alloc (Nat.le_refl _) _
    have hsz' : (w.alloc (.cells cs e)).heap.size = w.heap.size + 1 := by simp
    refine hK _ _ ((k _).out _ _ (hs.step (A := vv _) (dst := some d) (hb.mono hs.below.size) rfl hd ((hs.heap.below hb).cons ⟨cs, e, heap_alloc_new w _, g2, g3⟩ fun g hg => ?_)))
    obtain rfl : g = w.heap.size := hg
    exact ⟨hs.below.size, by omega, fun e' he' hf => absurd (hs.heap.foot e' he' _ hf).2 (by omega)⟩

/-- 'append(s, x)', s of the call's own, x a literal that lies in a block of its own. -/
theorem aops_append {d t e size bytes n m g c' : Nat} {xs xx : Operand} {v : Value} {c c2 : Nat → List AV} {l : List AV} {H' : List HE} (ht : TyE P t e size bytes) (hs' : Opd ⟨nt, env, H⟩ xs (vv v)) (hx : Opd ⟨nt, env, H⟩ xx (vv (.slice (some ⟨g, 0, none⟩) m c')))
    (htk : HTake H (.row v e size n c) H') (hm : HE.cells g l ∈ H) (hlen : l.length = m * size) (hn : n + m ≤ 1048576)
    (hc1 : ∀ k, k < n → c2 k = c k) (hc2 : ∀ k, k < m → c2 (n + k) = (l.drop (k * size)).take size) (hd : Nat.blt d nt = true)
    (k : ∀ v', AOps P w0 ops ⟨nt, (d, vv v') :: env, .row v' e size (n + m) c2 :: H'⟩ rest Q) : AOps P w0 ops ⟨nt, env, H⟩ (⟨some d, .call { callee := .builtin .append, args := #[xs, xx], argTypes := #[t, t] }, ty, pos, after, none⟩ :: rest) Q := by
  refine ⟨fun a w hs => ?_⟩
  obtain ⟨i, z, hu, hi, hz, hsz, hby, hzs, hpos, hsm, hbm, hz1⟩ := ht
  have e1 : a.eval xs = v := hs' w0 a w hs
  have e2 : a.eval xx = _ := hx w0 a w hs
  obtain ⟨⟨ys, hown, hrow, hy1⟩, hH', hfoot⟩ := htk.ok hs.heap
  obtain ⟨cs, T, h1, h2, h3⟩ := hs.heap.get _ hm
  have hlen2 := h2.length
  refine wpList_append_own_at w rfl xs xx t rfl w0.heap.size e i z size bytes hu hi hz hsz hby hzs hpos v n ys e1 hown ⟨g, 0, none⟩ m c' cs.toList e2 (by rw [hlen2, hlen])
    (fun j u hj => by rw [add_lit, Nat.zero_add, cell_of_row w g j cs T (0, 0) h1, ← Array.getElem?_toList]; exact hj) h3 (by simp [maxLen]; omega)
    (Nat.le_trans (Nat.mul_le_mul hn hbm) (by decide)) hs.below.size ?_
  intro v' w' k1 k2 _ hat
  have hb : Below w0.heap.size w w' := (Below.refl _ _).grown k2 hs.below.size fun q hq => (hfoot q hq).1
  have hlenY := hown.1
  have hz0 : 0 < size := hpos
  refine (k v').out _ _ (row_sat hs hb hd (hH'.keep k2.size fun e' he' q hq => k2.block q (hH'.foot e' he' q hq).2 fun hv => ?_) ⟨_, k1, fun j hj => ?_, fun u hu => ?_⟩ fun q hq => ?_)
  · exact (hfoot q hv.symm).2.2 e' he' hq
  · by_cases hjn : j < n
    · have := hrow j hjn
      rw [hc1 j hjn]
      have e3 : (ys ++ cs.toList).drop (j * size) = ys.drop (j * size) ++ cs.toList := by
        rw [List.drop_append_of_le_length]
        rw [hlenY]
        exact Nat.mul_le_mul_right _ (by omega)
      rw [e3, List.take_append_of_le_length]
      · exact this
      · rw [List.length_drop, hlenY]
        have : (j + 1) * size ≤ n * size := Nat.mul_le_mul_right _ (by omega)
        rw [Nat.add_mul, Nat.one_mul] at this
        omega
    · obtain ⟨r, rfl⟩ : ∃ r, j = n + r := ⟨j - n, by omega⟩
      rw [hc2 r (by omega)]
      have e3 : (ys ++ cs.toList).drop ((n + r) * size) = cs.toList.drop (r * size) := by
        rw [Nat.add_mul, ← hlenY, ← List.drop_drop, List.drop_left]
      rw [e3]
      exact (h2.drop (r * size)).take size
  · rcases List.mem_append.1 hu with hu | hu
    · exact hy1 u hu
    · exact h3 u hu
  · obtain ⟨q1, q2⟩ := World.ownsRow.lt k1 q hq
    refine ⟨q1, q2, fun e' he' hf => ?_⟩
    rcases hat with hat | hat
    · rw [hat] at hq
      exact (hfoot q hq).2.2 e' he' hf
    · rw [hat] at hq
      injection hq with hq
      exact absurd (hH'.foot e' he' q hf).2 (by omega)
end
end Go.Proofs.Ythnlpbfheefldaa
