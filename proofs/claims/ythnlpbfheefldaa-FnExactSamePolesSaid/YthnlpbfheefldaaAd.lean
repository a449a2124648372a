/-
  What the operations on memory and the calls yield, abstractly. Conditions: none.
-/
import Derived.Test.YthnlpbfheefldaaAc
import Derived.Laws.Rows
import Derived.IntWalk
namespace Go.Proofs.Ythnlpbfheefldaa
open Go Go.RowKit

def isAggD : TypeDesc → Bool
  | .struct _ | .array _ _ => true
  | _ => false
/-- A type of n cells: a struct or an array. -/
def TyA (P : Program) (t : TypeId) (n : Nat) : Prop := ∃ d i, P.underlying t = some d ∧ isAggD d = true ∧ P.info? t = some i ∧ i.size = n
/-- A type of one cell, neither a struct nor an array. -/
def TyP (P : Program) (t : TypeId) : Prop := ∃ d i, P.underlying t = some d ∧ isAggD d = false ∧ P.info? t = some i ∧ i.size = 1
def TyF (P : Program) (t : TypeId) (j off : Nat) : Prop := ∃ fs fd i, P.underlying t = some (.struct fs) ∧ fs[j]? = some fd ∧ fd.offset = off ∧ P.info? fd.type = some i ∧ i.size ≠ 0
def TyS (P : Program) (t e : TypeId) (n : Nat) : Prop := ∃ i, P.underlying t = some (.slice e) ∧ P.info? e = some i ∧ i.size = n
/-- The cells of a type's zero. -/
def TyZ (P : Program) (t : TypeId) (l : List AV) : Prop := ∃ i z, P.info? t = some i ∧ i.zero = some z ∧ ∀ w, All w l z.cells.toList ∧ ∀ u ∈ z.cells.toList, u.oneCell' = true

section
variable {P : Program} {s : AS} {o : Oper}

theorem add_lit (b p j : Nat) : (⟨b, p, none⟩ : Addr).add j = ⟨b, p + j, none⟩ := by
  unfold Addr.add
  split
  · rename_i h; subst h; rfl
  · rfl
theorem run_loadA {w w0 : World} {t : TypeId} {n b p : Nat} {l : List AV} (ht : TyA P t n) (hn : l.length = n) (h : ∀ j A, l[j]? = some A → ∃ u, w.cell? ⟨b, p + j, none⟩ = some u ∧ A.R w0 u ∧ u.oneCell' = true) :
    ∃ v, (loadVar t ⟨b, p, none⟩).run P w = .ok v w ∧ (agg l).R w0 v := by
  obtain ⟨d, i, hu, hd, hi, hs⟩ := ht
  have hagg : (isAgg t).run P w = .ok true w := by
    unfold isAgg
    rw [Sem.run_bind, run_underlying hu w]
    cases d <;> simp_all [isAggD]
  have hch : ∀ j, j < l.length → ∃ u, w.cell? ⟨b, p + j, none⟩ = some u ∧ (∀ A, l[j]? = some A → A.R w0 u) ∧ u.oneCell' = true := fun j hj => by
    obtain ⟨u, h1, h2, h3⟩ := h j l[j] (List.getElem?_eq_getElem hj)
    exact ⟨u, h1, fun A hA => by rw [List.getElem?_eq_getElem hj] at hA; injection hA with hA; subst hA; exact h2, h3⟩
  let g : Nat → Value := fun j => if hj : j < l.length then Classical.choose (hch j hj) else undef
  have hg : ∀ j, (hj : j < l.length) → w.cell? ⟨b, p + j, none⟩ = some (g j) ∧ (∀ A, l[j]? = some A → A.R w0 (g j)) ∧ (g j).oneCell' = true := fun j hj => by
    have := Classical.choose_spec (hch j hj)
    simp only [g, dif_pos hj]
    exact this
  have hl := run_loadCells_list (P := P) w ⟨b, p, none⟩ ((List.range l.length).map g) (fun j v hv => by
    rw [add_lit]
    rw [List.getElem?_map] at hv
    by_cases hj : j < l.length
    · rw [List.getElem?_range hj] at hv
      simp only [Option.map_some, Option.some.injEq] at hv
      rw [← hv]
      exact (hg j hj).1
    · rw [List.getElem?_eq_none (by simpa using hj)] at hv
      cases hv)
  simp only [List.length_map, List.length_range] at hl
  refine ⟨_, by simp [loadVar, Sem.run_bind, hagg, sizeOf, typeInfo, hi, hs, ← hn, hl]; rfl, (List.range l.length).map g, by simp, ?_, fun u hu => ?_⟩
  · refine All.of_get (by simp) fun j A hA => ?_
    have hj : j < l.length := (List.getElem?_eq_some_iff.1 hA).1
    exact ⟨g j, by simp [hj], (hg j hj).2.1 A hA⟩
  · obtain ⟨j, hj, rfl⟩ := List.mem_map.1 hu
    exact (hg j (by simpa using hj)).2.2
theorem run_loadP {w : World} {t : TypeId} {a : Addr} {u : Value} (ht : TyP P t) (h : w.cell? a = some u) : (loadVar t a).run P w = .ok u w := by
  obtain ⟨d, i, hu, hd, hi, hs⟩ := ht
  have hagg : (isAgg t).run P w = .ok false w := by
    unfold isAgg
    rw [Sem.run_bind, run_underlying hu w]
    cases d <;> simp_all [isAggD]
  simp [loadVar, Sem.run_bind, hagg, h]

theorem own_cells {w0 w : World} {a : Act} (hs : Sat w0 s a w) {b : Nat} {l : List AV} (hm : HE.cells b l ∈ s.heap) {j : Nat} {A : AV} (hj : l[j]? = some A) : ∃ u, w.cell? ⟨b, j, none⟩ = some u ∧ A.R w0 u ∧ u.oneCell' = true := by
  obtain ⟨cs, T, h1, h2, h3⟩ := hs.heap.get _ hm
  obtain ⟨u, hu, hr⟩ := h2.get hj
  refine ⟨u, ?_, hr, h3 u (List.mem_of_getElem? hu)⟩
  rw [cell_of_row w b j cs T (0, 0) h1, ← Array.getElem?_toList]
  exact hu

/-- A struct is loaded out of a box. -/
theorem ev_loadA {t : TypeId} {x : Operand} {n b i : Nat} {l l' : List AV} (ho : o.op = .load t x) (hx : Opd s x (ptr b i)) (ht : TyA P t n) (hm : HE.cells b l ∈ s.heap) (hl : (l.drop i).take n = l') (hn : l'.length = n) : Ev P s o (agg l') := by
  refine ⟨fun w0 a w hs => ?_⟩
  have e : a.eval x = .pointer (some ⟨b, i, none⟩) := hx w0 a w hs
  obtain ⟨v, hr, hv⟩ := run_loadA (w := w) (w0 := w0) (b := b) (p := i) ht hn fun j A hj => by
    rw [← hl, List.getElem?_take] at hj
    split at hj
    · rw [List.getElem?_drop] at hj
      exact own_cells hs hm hj
    · cases hj
  simp only [execOp, ho, e, Instr.loadAt, Instr.sureAddr, Sem.run_bind, Sem.run_pure, Result.andThen_ok, hr]
  exact .of_val hv
theorem ev_loadP {t : TypeId} {x : Operand} {b i : Nat} {l : List AV} {A : AV} (ho : o.op = .load t x) (hx : Opd s x (ptr b i)) (ht : TyP P t) (hm : HE.cells b l ∈ s.heap) (hl : l[i]? = some A) : Ev P s o A := by
  refine ⟨fun w0 a w hs => ?_⟩
  have e : a.eval x = .pointer (some ⟨b, i, none⟩) := hx w0 a w hs
  obtain ⟨u, hu, hr, _⟩ := own_cells hs hm hl
  simp only [execOp, ho, e, Instr.loadAt, Instr.sureAddr, Sem.run_bind, Sem.run_pure, Result.andThen_ok, run_loadP ht hu]
  exact .of_val hr
theorem lies_now {w0 w : World} (hb : Below w0.heap.size w0 w) {b p : Nat} {l : List AV} (h : Lies w0 b p l) {j : Nat} {A : AV} (hj : l[j]? = some A) : ∃ u, w.cell? ⟨b, p + j, none⟩ = some u ∧ A.R w0 u ∧ u.oneCell' = true := by
  obtain ⟨u, hu, hr, h1⟩ := h.2 j A hj
  exact ⟨u, (hb.cell (p := ⟨b, p + j, none⟩) h.1).trans hu, hr, h1⟩
/-- A struct is loaded from where it only is read. -/
theorem ev_loadRA {t : TypeId} {x : Operand} {n i : Nat} {l l' : List AV} (ho : o.op = .load t x) (hx : Opd s x (rp l i)) (ht : TyA P t n) (hl : (l.drop i).take n = l') (hn : l'.length = n) : Ev P s o (agg l') := by
  refine ⟨fun w0 a w hs => ?_⟩
  obtain ⟨b, p, e, h⟩ := hx w0 a w hs
  obtain ⟨v, hr, hv⟩ := run_loadA (w := w) (w0 := w0) (b := b) (p := p + i) ht hn fun j A hj => by
    rw [← hl, List.getElem?_take] at hj
    split at hj
    · rw [List.getElem?_drop] at hj
      rw [Nat.add_assoc]
      exact lies_now hs.below h hj
    · cases hj
  simp only [execOp, ho, e, Instr.loadAt, Instr.sureAddr, Sem.run_bind, Sem.run_pure, Result.andThen_ok, hr]
  exact .of_val hv
theorem ev_loadRP {t : TypeId} {x : Operand} {i : Nat} {l : List AV} {A : AV} (ho : o.op = .load t x) (hx : Opd s x (rp l i)) (ht : TyP P t) (hl : l[i]? = some A) : Ev P s o A := by
  refine ⟨fun w0 a w hs => ?_⟩
  obtain ⟨b, p, e, h⟩ := hx w0 a w hs
  obtain ⟨u, hu, hr, _⟩ := lies_now hs.below h hl
  simp only [execOp, ho, e, Instr.loadAt, Instr.sureAddr, Sem.run_bind, Sem.run_pure, Result.andThen_ok, run_loadP ht hu]
  exact .of_val hr

theorem run_fieldAt {w : World} {t : TypeId} {j off b p : Nat} (ht : TyF P t j off) : (Instr.fieldAt t (.pointer (some ⟨b, p, none⟩)) j).run P w = .ok (.pointer (some ⟨b, p + off, none⟩)) w := by
  obtain ⟨fs, fd, i, hu, hf, rfl, hi, hs⟩ := ht
  simp [Instr.fieldAt, run_underlying hu, hf, Instr.sureAddr, fieldPlace, sizeOf, typeInfo, hi, hs, add_lit]
theorem ev_field {t : TypeId} {x : Operand} {j off b i : Nat} (ho : o.op = .fieldAddr t x j) (hx : Opd s x (ptr b i)) (ht : TyF P t j off) : Ev P s o (ptr b (i + off)) := by
  refine ⟨fun w0 a w hs => ?_⟩
  have e : a.eval x = .pointer (some ⟨b, i, none⟩) := hx w0 a w hs
  simp only [execOp, ho, e, run_fieldAt ht, Sem.run_bind, Sem.run_pure, Result.andThen_ok]
  exact .of_val rfl
theorem ev_fieldR {t : TypeId} {x : Operand} {j off i : Nat} {l : List AV} (ho : o.op = .fieldAddr t x j) (hx : Opd s x (rp l i)) (ht : TyF P t j off) : Ev P s o (rp l (i + off)) := by
  refine ⟨fun w0 a w hs => ?_⟩
  obtain ⟨b, p, e, h⟩ := hx w0 a w hs
  simp only [execOp, ho, e, run_fieldAt ht, Sem.run_bind, Sem.run_pure, Result.andThen_ok]
  exact .of_val ⟨b, p, by rw [Nat.add_assoc], h⟩
theorem ev_index {t e : TypeId} {x y : Operand} {q : IntKind} {size n k : Nat} {c : Nat → List AV} (ho : o.op = .indexAddr t x y) (hx : Opd s x (rs size n c)) (hy : Opd s y (vv (.int q (k : Int)))) (ht : TyS P t e size) (hk : k < n) : Ev P s o (rp (c k) 0) := by
  refine ⟨fun w0 a w hs => ?_⟩
  obtain ⟨ad, cap, ex, _, h⟩ := hx w0 a w hs
  obtain ⟨b, p, rfl, hl⟩ := h (by omega)
  have ey : a.eval y = .int q (k : Int) := hy w0 a w hs
  obtain ⟨i, hu, hi, hs'⟩ := ht
  have : (Instr.indexAt t (.slice (some ⟨b, p, none⟩) n cap) (.int q (k : Int))).run P w = .ok (.pointer (some ⟨b, p + k * size, none⟩)) w := by
    simp [Instr.indexAt, asIntOf, run_underlying hu, sizeOf, typeInfo, hi, hs', add_lit]
    omega
  simp only [execOp, ho, ex, ey, this, Sem.run_bind, Sem.run_pure, Result.andThen_ok]
  exact .of_val ⟨b, p + k * size, rfl, hl k hk⟩
theorem ev_len {t e : TypeId} {x : Operand} {size n m : Nat} {c : Nat → List AV} (ho : o.op = .call { callee := .builtin .len, args := #[x], argTypes := #[t] }) (hx : Opd s x (rs size n c)) (ht : TyS P t e m) : Ev P s o (vv (.int .i64 (n : Int))) := by
  refine ⟨fun w0 a w hs => ?_⟩
  obtain ⟨ad, cap, ex, _, h⟩ := hx w0 a w hs
  obtain ⟨i, hu, hi, hs'⟩ := ht
  have := run_len_slice (P := P) w t o.type ad n cap (by simp [Program.elem, hu])
  simp only [execOp, ho, resolve, invoke, builtin, List.map_toArray, List.map_cons, List.map_nil, ex, this, Sem.run_bind, Sem.run_pure, Result.andThen_ok]
  exact .of_val rfl
/-- The length of a slice of the call's own. -/
theorem ev_lenO {t e : TypeId} {x : Operand} {v : Value} {T size n m : Nat} {c : Nat → List AV} (ho : o.op = .call { callee := .builtin .len, args := #[x], argTypes := #[t] }) (hx : Opd s x (vv v)) (hm : HE.row v T size n c ∈ s.heap) (ht : TyS P t e m) : Ev P s o (vv (.int .i64 (n : Int))) := by
  refine ⟨fun w0 a w hs => ?_⟩
  have ex : a.eval x = v := hx w0 a w hs
  obtain ⟨xs, ⟨hlen, h1⟩, _⟩ := hs.heap.get _ hm
  have hv : ∃ ad cap, v = .slice ad n cap := by
    rcases h1 with ⟨rfl, rfl⟩ | ⟨g, cap, cur, rfl, _⟩
    · exact ⟨_, _, rfl⟩
    · exact ⟨_, _, rfl⟩
  obtain ⟨ad, cap, rfl⟩ := hv
  obtain ⟨i, hu, hi, hs'⟩ := ht
  have := run_len_slice (P := P) w t o.type ad n cap (by simp [Program.elem, hu])
  simp only [execOp, ho, resolve, invoke, builtin, List.map_toArray, List.map_cons, List.map_nil, ex, this, Sem.run_bind, Sem.run_pure, Result.andThen_ok]
  exact .of_val rfl

theorem ev_nilc {x : Operand} {b i : Nat} (ho : o.op = .nilCheck x) (hx : Opd s x (ptr b i)) : Ev P s o (ptr b i) := by
  refine ⟨fun w0 a w hs => ?_⟩
  have e : a.eval x = .pointer (some ⟨b, i, none⟩) := hx w0 a w hs
  simp only [execOp, ho, e, Sem.run_pure]
  exact .of_val rfl
theorem ev_nilcR {x : Operand} {i : Nat} {l : List AV} (ho : o.op = .nilCheck x) (hx : Opd s x (rp l i)) : Ev P s o (rp l i) := by
  refine ⟨fun w0 a w hs => ?_⟩
  obtain ⟨b, p, e, h⟩ := hx w0 a w hs
  simp only [execOp, ho, e, Sem.run_pure]
  exact .of_val ⟨b, p, rfl, h⟩

theorem run_eqGuard_int (w : World) (op : BinOp) (t : TypeId) (x y : Operand) (k k' : IntKind) (a b : Int) : (eqGuard op t x y (.int k a) (.int k' b)).run P w = .ok () w := by
  cases op <;> rfl
theorem run_eqGuard_bool (w : World) (op : BinOp) (t : TypeId) (x y : Operand) (a b : Bool) : (eqGuard op t x y (.bool a) (.bool b)).run P w = .ok () w := by
  cases op <;> rfl
def iar : BinOp → Int → Int → Option Int
  | .add, a, b => some (a + b)
  | .sub, a, b => some (a - b)
  | .mul, a, b => some (a * b)
  | _, _, _ => none
theorem ev_iar {op : BinOp} {t t' : TypeId} {x y : Operand} {k : IntKind} {a b c : Int} (ho : o.op = .binOp op t x y t') (hx : Opd s x (vv (.int k a))) (hy : Opd s y (vv (.int k b))) (hc : iar op a b = some c) (hw : k.wrap c = c) : Ev P s o (vv (.int k c)) := by
  refine ⟨fun w0 ac w hs => ?_⟩
  have e : ac.eval x = .int k a := hx w0 ac w hs
  have e2 : ac.eval y = .int k b := hy w0 ac w hs
  have : (binOp op t (.int k a) (.int k b)).run P w = .ok (.int k c) w := by
    cases op <;> simp [iar] at hc <;> subst hc <;> simp [binOp, Op.intArith, hw]
  simp only [execOp, ho, e, e2, run_eqGuard_int, this, Sem.run_bind, Sem.run_pure, Result.andThen_ok]
  exact .of_val rfl
def icmp : BinOp → Int → Int → Option Bool
  | .eql, a, b => some (decide (a = b))
  | .neq, a, b => some (decide (a ≠ b))
  | .lss, a, b => some (decide (a < b))
  | .leq, a, b => some (decide (a ≤ b))
  | .gtr, a, b => some (decide (a > b))
  | .geq, a, b => some (decide (a ≥ b))
  | _, _, _ => none
theorem ev_icmp {op : BinOp} {t t' : TypeId} {x y : Operand} {k : IntKind} {a b : Int} {c : Bool} (ho : o.op = .binOp op t x y t') (hx : Opd s x (vv (.int k a))) (hy : Opd s y (vv (.int k b))) (hc : icmp op a b = some c) : Ev P s o (vv (.bool c)) := by
  refine ⟨fun w0 ac w hs => ?_⟩
  have e : ac.eval x = .int k a := hx w0 ac w hs
  have e2 : ac.eval y = .int k b := hy w0 ac w hs
  have : (binOp op t (.int k a) (.int k b)).run P w = .ok (.bool c) w := by
    cases op <;> simp only [icmp, Option.some.injEq, reduceCtorEq] at hc <;> subst hc <;> simp [binOp, Op.intCmp, bne, BEq.beq, instBEqOfDecidableEq]
  simp only [execOp, ho, e, e2, run_eqGuard_int, this, Sem.run_bind, Sem.run_pure, Result.andThen_ok]
  exact .of_val rfl
theorem ev_beq {op : BinOp} {t t' : TypeId} {x y : Operand} {a b : Bool} {c : Bool} (ho : o.op = .binOp op t x y t') (hx : Opd s x (vv (.bool a))) (hy : Opd s y (vv (.bool b))) (hu : P.underlying t = some .bool) (hc : (match op with | .eql => some (a == b) | .neq => some (a != b) | _ => none) = some c) : Ev P s o (vv (.bool c)) := by
  refine ⟨fun w0 ac w hs => ?_⟩
  have e : ac.eval x = .bool a := hx w0 ac w hs
  have e2 : ac.eval y = .bool b := hy w0 ac w hs
  have : (binOp op t (.bool a) (.bool b)).run P w = .ok (.bool c) w := by
    cases op <;> simp only [Option.some.injEq, reduceCtorEq] at hc <;> subst hc <;> simp [binOp, run_equal_bool w t a b hu, bne]
  simp only [execOp, ho, e, e2, run_eqGuard_bool, this, Sem.run_bind, Sem.run_pure, Result.andThen_ok]
  exact .of_val rfl

end

/-- A function that can be entered. -/
def Can (P : Program) (f : FuncId) : Prop := ∃ fn, P.funcs[f]? = some fn ∧ fn.body.isNone = false ∧ (fn.name == "runtime.NumGoroutine") = false
/-- The contract of a function: what it gives for arguments that stand for As; nothing that was there has turned. -/
def Con (P : Program) (f : FuncId) (As : List AV) (Q : World → Value → World → Prop) : Prop :=
  Can P f ∧ ∀ w vs, All w As vs → Calls P f vs.toArray w fun e w' => ∃ v, e = .returned v ∧ Below w.heap.size w w' ∧ Q w v w'
def RetA (A : AV) (_ : World) (v : Value) (_ : World) : Prop := ∀ wx, A.R wx v

section
variable {P : Program} {s : AS} {o : Oper}
theorem run_call {f : FuncId} (hc : Can P f) (x : Operand) (args : Array Operand) (ts : Array TypeId) (ho : o.op = .call { callee := .value x, args := args, argTypes := ts }) (a : Act) (hx : a.eval x = .func (.func f) #[] #[]) (w : World) :
    (execOp a.eval o).run P w = .ok (.enter f (args.map a.eval)) w := by
  obtain ⟨fn, hf, hb, hn⟩ := hc
  simp only [execOp, ho, resolve, hx, Deferred.ofValue, Sem.run_bind, Sem.run_pure, Result.andThen_ok, invoke, callFunc, run_program, hf, hn, hb]
  simp
/-- A call that only computes. -/
theorem ev_call {f : FuncId} {x : Operand} {As : List AV} {A : AV} {args : List Operand} {ts : Array TypeId} (ho : o.op = .call { callee := .value x, args := args.toArray, argTypes := ts }) (hx : Opd s x (vv (.func (.func f) #[] #[]))) (hc : Con P f As (RetA A)) (ha : Givs s args As) : Ev P s o A := by
  refine ⟨fun w0 a w hs => ?_⟩
  have e : a.eval x = _ := hx w0 a w hs
  rw [run_call hc.1 x args.toArray ts ho a e w]
  refine ⟨Below.refl _ _, ?_⟩
  have := hc.2 w (args.map a.eval) (ha.all hs)
  rw [show args.toArray.map a.eval = (args.map a.eval).toArray by simp]
  refine this.mono fun e w' h => ?_
  obtain ⟨v, rfl, hb, hq⟩ := h
  exact ⟨v, rfl, hb, hq _⟩
end
end Go.Proofs.Ythnlpbfheefldaa
