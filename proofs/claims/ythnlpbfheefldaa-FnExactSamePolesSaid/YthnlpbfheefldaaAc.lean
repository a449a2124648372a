/-
  What each operation yields, abstractly. Conditions: none.
-/
import Derived.Test.YthnlpbfheefldaaAb
import Derived.Laws.Tables
import Derived.Great.BuildSlice
namespace Go.Proofs.Ythnlpbfheefldaa
open Go Go.RowKit

/-- The operation yields a value of R and turns nothing that was there. -/
def EvRes (P : Program) (w : World) (R : Value → Prop) : Result Next → Prop
  | .ok (.value v) w' => Below w.heap.size w w' ∧ R v
  | .ok .skip w' => Below w.heap.size w w' ∧ R undef
  | .ok (.enter f args) w' => Below w.heap.size w w' ∧ Calls P f args w' fun e w'' => ∃ v, e = .returned v ∧ Below w'.heap.size w' w'' ∧ R v
  | _ => False
structure Ev (P : Program) (s : AS) (o : Oper) (A : AV) : Prop where
  out : ∀ w0 a w, Sat w0 s a w → EvRes P w (fun v => A.R w0 v) ((execOp a.eval o).run P w)
/-- What an operand stands for. -/
def Opd (s : AS) (x : Operand) (A : AV) : Prop := ∀ w0 a w, Sat w0 s a w → A.R w0 (a.eval x)
def OpF (s : AS) (x : Operand) (k : FloatKind) (X : Nat) : Prop := Opd s x (fl k X)
/-- What an operand is for a callee that enters now. -/
def Giv (s : AS) (x : Operand) (A : AV) : Prop := ∀ w0 a w, Sat w0 s a w → A.R w (a.eval x)
def Givs (s : AS) : List Operand → List AV → Prop
  | [], [] => True
  | x :: xs, A :: As => Giv s x A ∧ Givs s xs As
  | _, _ => False

section
variable {P : Program} {s : AS} {o : Oper} {w : World}

theorem Opd.tmp {t : Tmp} {A : AV} (h : look t s.env = some A) : Opd s (.tmp t) A := fun w0 a w hs => hs.env t A h
theorem Opd.c (v : Value) : Opd s (.const v) (vv v) := fun _ _ _ _ => rfl
theorem Opd.func (f : FuncId) : Opd s (.func f) (vv (.func (.func f) #[] #[])) := fun _ _ _ _ => rfl
theorem OpF.tmp {t : Tmp} {k : FloatKind} {X : Nat} (h : look t s.env = some (fl k X)) : OpF s (.tmp t) k X := Opd.tmp h
theorem OpF.c {k : FloatKind} {b : Nat} (h : (decide (b < 2 ^ k.format.width) && !isNan k b) = true) : OpF s (.const (.float k b)) k b := fun _ _ _ _ => ⟨b, rfl, Fb_const h⟩
theorem Giv.of {x : Operand} {A : AV} (h : Opd s x A) : Giv s x A := fun w0 a w hs => A.mono hs.below (h w0 a w hs)
theorem Opd.weak {x : Operand} {A B : AV} (h : Opd s x A) (k : ∀ w v, A.R w v → B.R w v) : Opd s x B := fun w0 a w hs => k _ _ (h w0 a w hs)
/-- A box of the call's own, handed to a callee that reads it. -/
theorem Giv.box {x : Operand} {b i : Nat} {l : List AV} (h : Opd s x (ptr b i)) (hm : HE.cells b l ∈ s.heap) : Giv s x (rp l i) := fun w0 a w hs => by
  have e : a.eval x = _ := h w0 a w hs
  rw [e]
  obtain ⟨cs, T, h1, h2, h3⟩ := hs.heap.get _ hm
  refine ⟨b, 0, by simp, (hs.heap.foot _ hm b rfl).2, fun j A hj => ?_⟩
  obtain ⟨u, hu, hr⟩ := h2.get hj
  refine ⟨u, ?_, A.mono hs.below hr, h3 u (List.mem_of_getElem? hu)⟩
  rw [Nat.zero_add, cell_of_row w b j cs T (0, 0) h1, ← Array.getElem?_toList]
  exact hu
/-- A slice of the call's own, handed to a callee that reads it. -/
theorem Giv.row {x : Operand} {v : Value} {T size n : Nat} {c : Nat → List AV} (h : Opd s x (vv v)) (hm : HE.row v T size n c ∈ s.heap) (hl : ∀ k, k < n → (c k).length = size) : Giv s x (rs size n c) := fun w0 a w hs => by
  have e : a.eval x = v := h w0 a w hs
  rw [e]
  obtain ⟨xs, ⟨hlen, h1⟩, h2, h3⟩ := hs.heap.get _ hm
  rcases h1 with ⟨rfl, rfl⟩ | ⟨g, cap, cur, rfl, hg, hh, hnc, hcm, hcs, ht⟩
  · exact ⟨none, 0, rfl, Nat.le_refl _, fun h0 => absurd h0 (by omega)⟩
  · refine ⟨_, cap, rfl, hnc, fun _ => ⟨g, 0, rfl, fun k hk => ⟨(hs.heap.foot _ hm g rfl).2, fun j A hj => ?_⟩⟩⟩
    obtain ⟨u, hu, hr⟩ := (h2 k hk).get hj
    refine ⟨u, ?_, A.mono hs.below hr, h3 u (List.mem_of_mem_drop (List.mem_of_mem_take (List.mem_of_getElem? hu)))⟩
    rw [List.getElem?_take] at hu
    split at hu
    · rename_i hj2
      rw [List.getElem?_drop, ← ht, List.getElem?_take] at hu
      split at hu
      · rw [Nat.zero_add, cell_of_row w g _ cur T (0, 0) hh, ← Array.getElem?_toList]
        exact hu
      · cases hu
    · cases hu
theorem Givs.all {w0 : World} {a : Act} (hs : Sat w0 s a w) : ∀ {xs : List Operand} {As : List AV}, Givs s xs As → All w As (xs.map a.eval)
  | [], [], _ => trivial
  | _ :: _, _ :: _, h => ⟨h.1 w0 a w hs, Givs.all hs h.2⟩
  | [], _ :: _, h => h.elim
  | _ :: _, [], h => h.elim

theorem EvRes.of_val {R : Value → Prop} {v : Value} (h : R v) : EvRes P w R (.ok (.value v) w) := ⟨Below.refl _ _, h⟩

theorem ev_move {x : Operand} {A : AV} (ho : o.op = .move x) (hx : Opd s x A) : Ev P s o A := by
  refine ⟨fun w0 a w hs => ?_⟩
  unfold execOp; rw [ho]; exact .of_val (hx w0 a w hs)
theorem ev_assign {x : Operand} {A : AV} (ho : o.op = .assign x) (hx : Opd s x A) : Ev P s o A := by
  refine ⟨fun w0 a w hs => ?_⟩
  unfold execOp; rw [ho]; exact .of_val (hx w0 a w hs)
theorem ev_pick {c x y : Operand} {A : AV} {b : Bool} (ho : o.op = .pick c x y) (hc : Opd s c (vv (.bool b))) (hx : b = true → Opd s x A) (hy : b = false → Opd s y A) : Ev P s o A := by
  refine ⟨fun w0 a w hs => ?_⟩
  have hb : a.eval c = .bool b := hc w0 a w hs
  unfold execOp; rw [ho]
  cases b
  · simp only [hb, asBool, Sem.run_bind, Sem.run_pure, Result.andThen_ok]
    exact .of_val (hy rfl w0 a w hs)
  · simp only [hb, asBool, Sem.run_bind, Sem.run_pure, Result.andThen_ok]
    exact .of_val (hx rfl w0 a w hs)
theorem ev_extract {x : Operand} {i : Nat} {l : List AV} {A : AV} (ho : o.op = .extract x i) (hx : Opd s x (tup l)) (hi : l[i]? = some A) : Ev P s o A := by
  refine ⟨fun w0 a w hs => ?_⟩
  obtain ⟨cs, e, h⟩ := hx w0 a w hs
  obtain ⟨u, hu, hr⟩ := h.get hi
  unfold execOp; rw [ho]
  simp only [e, Instr.extract, List.getElem?_toArray, hu, Sem.run_bind, Sem.run_pure, Result.andThen_ok]
  exact .of_val hr

theorem ev_fop {op : BinOp} {t t' : TypeId} {x y : Operand} {k : FloatKind} {X Y : Nat} (ho : o.op = .binOp op t x y t') (hop : arith op = true) (hx : OpF s x k X) (hy : OpF s y k Y) : Ev P s o (fl k (fop op k X Y)) := by
  refine ⟨fun w0 a w hs => ?_⟩
  obtain ⟨b, e, hb⟩ := hx w0 a w hs
  obtain ⟨c, e2, hc⟩ := hy w0 a w hs
  obtain ⟨r, n, hr, hf⟩ := run_fop (P := P) w op hop t k b c
  simp only [execOp, ho, e, e2, Sem.run_bind, run_eqGuard_float, Result.andThen_ok, hr, Sem.run_pure]
  exact ⟨below_drewN (Below.refl _ _) n, r, rfl, hf _ _ hb hc⟩
theorem ev_fcmp {c : BinOp} {t t' : TypeId} {x y : Operand} {k : FloatKind} {X Y : Nat} (ho : o.op = .binOp c t x y t') (hop : isCmp c = true) (hx : OpF s x k X) (hy : OpF s y k Y) : Ev P s o (vv (.bool (cmpB c k X Y))) := by
  refine ⟨fun w0 a w hs => ?_⟩
  obtain ⟨b, e, hb⟩ := hx w0 a w hs
  obtain ⟨d, e2, hd⟩ := hy w0 a w hs
  simp only [execOp, ho, e, e2, Sem.run_bind, run_eqGuard_float, Result.andThen_ok, run_fcmp w c hop t k b d X Y hb hd, Sem.run_pure]
  exact .of_val rfl
theorem ev_fneg {t : TypeId} {x : Operand} {k : FloatKind} {X : Nat} (ho : o.op = .unOp .neg t x) (hx : OpF s x k X) : Ev P s o (fl k (fneg k X)) := by
  refine ⟨fun w0 a w hs => ?_⟩
  obtain ⟨b, e, hb⟩ := hx w0 a w hs
  have : Op.unary .neg (.float k b) = Pure.pure (.float k (Op.negFloat k b)) := rfl
  simp only [execOp, ho, e, this, Sem.run_bind, Result.andThen_ok, Sem.run_pure]
  exact .of_val ⟨_, rfl, hb.neg⟩
theorem ev_not {t : TypeId} {x : Operand} {b : Bool} (ho : o.op = .unOp .not t x) (hx : Opd s x (vv (.bool b))) : Ev P s o (vv (.bool (!b))) := by
  refine ⟨fun w0 a w hs => ?_⟩
  have e : a.eval x = .bool b := hx w0 a w hs
  have : Op.unary .not (.bool b) = Pure.pure (.bool (!b)) := rfl
  simp only [execOp, ho, e, this, Sem.run_bind, Result.andThen_ok, Sem.run_pure]
  exact .of_val rfl
theorem ev_fcvt {src dst : TypeId} {x : Operand} {k k' : FloatKind} {X : Nat} (ho : o.op = .convert src dst x) (hs' : P.underlying src = some (.float k)) (hd : P.underlying dst = some (.float k')) (hk : k ≠ k') (hx : OpF s x k X) (hf : fits k k' X) : Ev P s o (fl k' (fcvt k k' X)) := by
  refine ⟨fun w0 a w hs => ?_⟩
  obtain ⟨b, e, hb⟩ := hx w0 a w hs
  obtain ⟨r, n, hr, hf'⟩ := run_fcvt (P := P) src dst k k' hk b (by rw [hs']; rfl) hd w
  simp only [execOp, ho, e, Sem.run_bind, Result.andThen_ok, hr, Sem.run_pure]
  exact ⟨below_drewN (Below.refl _ _) n, r, rfl, hf' _ hb hf⟩
/-- A conversion of a float32 to float32 turns nothing. -/
theorem ev_fsame {src dst : TypeId} {x : Operand} {k : FloatKind} {X : Nat} (ho : o.op = .convert src dst x) (hs' : P.underlying src = some (.float k)) (hd : P.underlying dst = some (.float k)) (hx : OpF s x k X) : Ev P s o (fl k X) := by
  refine ⟨fun w0 a w hs => ?_⟩
  obtain ⟨b, e, hb⟩ := hx w0 a w hs
  have hr : (convert src dst (.float k b)).run P w = .ok (.float k b) w := run_convert_float_float w src dst k k b b (by rw [hs']; rfl) hd (by unfold floatToFloatBits; rw [if_pos rfl])
  simp only [execOp, ho, e, Sem.run_bind, Result.andThen_ok, hr, Sem.run_pure]
  exact .of_val ⟨b, rfl, hb⟩
theorem ev_itof {src dst : TypeId} {x : Operand} {q : IntKind} {k : FloatKind} {n : Int} (ho : o.op = .convert src dst x) (hs' : (P.underlying src).isSome = true) (hd : P.underlying dst = some (.float k)) (hx : Opd s x (vv (.int q n))) : Ev P s o (fl k (floatOfInt k n)) := by
  refine ⟨fun w0 a w hs => ?_⟩
  have e : a.eval x = .int q n := hx w0 a w hs
  have hr := run_convert_int_float (P := P) w src dst q k n hs' hd
  simp only [execOp, ho, e, Sem.run_bind, Result.andThen_ok, hr, Sem.run_pure]
  exact .of_val ⟨_, rfl, Fb_ofInt _ _⟩
theorem ev_itoi {src dst : TypeId} {x : Operand} {q : IntKind} {n : Int} (ho : o.op = .convert src dst x) (hs' : (P.underlying src).isSome = true) (hd : P.underlying dst = some (.int q)) (hx : Opd s x (vv (.int q n))) (hn : q.wrap n = n) : Ev P s o (vv (.int q n)) := by
  refine ⟨fun w0 a w hs => ?_⟩
  have e : a.eval x = .int q n := hx w0 a w hs
  have hk : P.intKind dst = q := by unfold Program.intKind; rw [hd]
  have hr := run_convert_int (P := P) w src dst q n hs' (by rw [hk]; exact hd)
  rw [hk, hn] at hr
  simp only [execOp, ho, e, Sem.run_bind, Result.andThen_ok, hr, Sem.run_pure]
  exact .of_val rfl

end
end Go.Proofs.Ythnlpbfheefldaa
