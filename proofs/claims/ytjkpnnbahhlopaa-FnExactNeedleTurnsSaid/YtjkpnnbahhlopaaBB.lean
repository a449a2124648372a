/-
  The base texts, joined. Conditions: none.
-/
import Derived.Test.YtjkpnnbahhlopaaBA
import Derived.Test.YtjkpnnbahhlopaaRows
import Derived.Laws.AppendOwnNone
import Derived.Laws.StructEq
/-
  The types of the program: sizes, places, zeros. Conditions: none.
-/
namespace Go.Proofs.Ytjkpnnbahhlopaa
open Go Go.RowKit

section
variable {P : Program} {w0 : World} {ops : Array Oper} {s : AS} {rest : List Oper} {Q : Exit → Act → World → Prop} {ty : TypeId} {pos : String} {after : Array Edge} {d : Option Tmp} {ns : Option (Nat × List AV)} {K : AS → Option (Nat × List AV) → Prop}
theorem gA_move {x : Operand} (h : AOps P w0 ops s (⟨d, .move x, ty, pos, after, none⟩ :: rest) Q) : AOps P w0 ops s (⟨d, .move x, ty, pos, after, none⟩ :: rest) Q := h
theorem gA_assign {x : Operand} (h : AOps P w0 ops s (⟨d, .assign x, ty, pos, after, none⟩ :: rest) Q) : AOps P w0 ops s (⟨d, .assign x, ty, pos, after, none⟩ :: rest) Q := h
theorem gA_pick {x y z : Operand} (h : AOps P w0 ops s (⟨d, .pick x y z, ty, pos, after, none⟩ :: rest) Q) : AOps P w0 ops s (⟨d, .pick x y z, ty, pos, after, none⟩ :: rest) Q := h
theorem gA_load {t : TypeId} {x : Operand} (h : AOps P w0 ops s (⟨d, .load t x, ty, pos, after, none⟩ :: rest) Q) : AOps P w0 ops s (⟨d, .load t x, ty, pos, after, none⟩ :: rest) Q := h
theorem gA_store {t : TypeId} {x y : Operand} (h : AOps P w0 ops s (⟨d, .store t x y, ty, pos, after, none⟩ :: rest) Q) : AOps P w0 ops s (⟨d, .store t x y, ty, pos, after, none⟩ :: rest) Q := h
theorem gA_field {t : TypeId} {x : Operand} {j : Nat} (h : AOps P w0 ops s (⟨d, .fieldAddr t x j, ty, pos, after, none⟩ :: rest) Q) : AOps P w0 ops s (⟨d, .fieldAddr t x j, ty, pos, after, none⟩ :: rest) Q := h
theorem gA_index {t : TypeId} {x y : Operand} (h : AOps P w0 ops s (⟨d, .indexAddr t x y, ty, pos, after, none⟩ :: rest) Q) : AOps P w0 ops s (⟨d, .indexAddr t x y, ty, pos, after, none⟩ :: rest) Q := h
theorem gA_bin {b : BinOp} {t t2 : TypeId} {x y : Operand} (h : AOps P w0 ops s (⟨d, .binOp b t x y t2, ty, pos, after, none⟩ :: rest) Q) : AOps P w0 ops s (⟨d, .binOp b t x y t2, ty, pos, after, none⟩ :: rest) Q := h
theorem gA_un {b : UnOp} {t : TypeId} {x : Operand} (h : AOps P w0 ops s (⟨d, .unOp b t x, ty, pos, after, none⟩ :: rest) Q) : AOps P w0 ops s (⟨d, .unOp b t x, ty, pos, after, none⟩ :: rest) Q := h
theorem gA_conv {t t2 : TypeId} {x : Operand} (h : AOps P w0 ops s (⟨d, .convert t t2 x, ty, pos, after, none⟩ :: rest) Q) : AOps P w0 ops s (⟨d, .convert t t2 x, ty, pos, after, none⟩ :: rest) Q := h
theorem gA_callf {x : Operand} {xs : Array Operand} {ts : Array TypeId} (h : AOps P w0 ops s (⟨d, .call ⟨.value x, xs, ts⟩, ty, pos, after, none⟩ :: rest) Q) : AOps P w0 ops s (⟨d, .call ⟨.value x, xs, ts⟩, ty, pos, after, none⟩ :: rest) Q := h
theorem gA_callb {b : Builtin} {xs : Array Operand} {ts : Array TypeId} (h : AOps P w0 ops s (⟨d, .call ⟨.builtin b, xs, ts⟩, ty, pos, after, none⟩ :: rest) Q) : AOps P w0 ops s (⟨d, .call ⟨.builtin b, xs, ts⟩, ty, pos, after, none⟩ :: rest) Q := h
theorem gA_build {t : TypeId} {ps : Array (Nat × Operand)} (h : AOps P w0 ops s (⟨d, .build t ps, ty, pos, after, none⟩ :: rest) Q) : AOps P w0 ops s (⟨d, .build t ps, ty, pos, after, none⟩ :: rest) Q := h
theorem gA_alloc {t : TypeId} (h : AOps P w0 ops s (⟨d, .alloc t, ty, pos, after, none⟩ :: rest) Q) : AOps P w0 ops s (⟨d, .alloc t, ty, pos, after, none⟩ :: rest) Q := h
theorem gA_box {t : TypeId} {x : Operand} (h : AOps P w0 ops s (⟨d, .box t x, ty, pos, after, none⟩ :: rest) Q) : AOps P w0 ops s (⟨d, .box t x, ty, pos, after, none⟩ :: rest) Q := h
theorem gA_ext {x : Operand} {j : Nat} (h : AOps P w0 ops s (⟨d, .extract x j, ty, pos, after, none⟩ :: rest) Q) : AOps P w0 ops s (⟨d, .extract x j, ty, pos, after, none⟩ :: rest) Q := h
theorem gA_func {fn : Fn} {xs ys : Array Operand} (h : AOps P w0 ops s (⟨d, .makeFunc fn xs ys, ty, pos, after, none⟩ :: rest) Q) : AOps P w0 ops s (⟨d, .makeFunc fn xs ys, ty, pos, after, none⟩ :: rest) Q := h
theorem gA_slice {t : TypeId} {x : Operand} {l hi mx : Option Operand} (h : AOps P w0 ops s (⟨d, .slice t x l hi mx, ty, pos, after, none⟩ :: rest) Q) : AOps P w0 ops s (⟨d, .slice t x l hi mx, ty, pos, after, none⟩ :: rest) Q := h
theorem gA_nilc {x : Operand} (h : AOps P w0 ops s (⟨d, .nilCheck x, ty, pos, after, none⟩ :: rest) Q) : AOps P w0 ops s (⟨d, .nilCheck x, ty, pos, after, none⟩ :: rest) Q := h
theorem gA_gd {op : Op} {g : Nat × Bool} (h : AOps P w0 ops s (⟨d, op, ty, pos, after, some g⟩ :: rest) Q) : AOps P w0 ops s (⟨d, op, ty, pos, after, some g⟩ :: rest) Q := h
theorem gA {l : List Oper} (h : AOps P w0 ops s l Q) : AOps P w0 ops s l Q := h
theorem gW {c : Code} (h : AWp P w0 s c Q) : AWp P w0 s c Q := h
theorem gX {e : Exit} (h : AEx w0 s e Q) : AEx w0 s e Q := h
end

section
variable {P : Program} {s : AS} {o : Oper}
theorem ld_Vector {A : V3} {t : TypeId} {xo : Operand} {b i : Nat} {l : List AV} (ho : o.op = .load t xo) (hx : Opd s xo (ptr b i)) (ht : TyA P t 3) (hm : HE.cells b l ∈ s.heap) (hl : (l.drop i).take 3 = [fl .f32 A.x, fl .f32 A.y, fl .f32 A.z]) : Ev P s o (vec A) := ev_loadA ho hx ht hm hl rfl
theorem ldR_Vector {A : V3} {t : TypeId} {xo : Operand} {i : Nat} {l : List AV} (ho : o.op = .load t xo) (hx : Opd s xo (rp l i)) (ht : TyA P t 3) (hl : (l.drop i).take 3 = [fl .f32 A.x, fl .f32 A.y, fl .f32 A.z]) : Ev P s o (vec A) := ev_loadRA ho hx ht hl rfl
theorem bd_Vector {A : V3} {t : TypeId} {parts : List (Nat × Operand)} {pl : List (Nat × List AV)} {zl : List AV} {places : List (Nat × Nat)} (ho : o.op = .build t parts.toArray) (ht : TyB P t zl places) (hp : Parts s parts pl) (hf : fillA (places[·]?) pl zl = some [fl .f32 A.x, fl .f32 A.y, fl .f32 A.z]) : Ev P s o (vec A) := ev_build ho ht hp hf
theorem ld_Vector3 {x y z : Nat} {t : TypeId} {xo : Operand} {b i : Nat} {l : List AV} (ho : o.op = .load t xo) (hx : Opd s xo (ptr b i)) (ht : TyA P t 3) (hm : HE.cells b l ∈ s.heap) (hl : (l.drop i).take 3 = [fl .f32 x, fl .f32 y, fl .f32 z]) : Ev P s o (vec ⟨x, y, z⟩) := ev_loadA ho hx ht hm hl rfl
theorem ldR_Vector3 {x y z : Nat} {t : TypeId} {xo : Operand} {i : Nat} {l : List AV} (ho : o.op = .load t xo) (hx : Opd s xo (rp l i)) (ht : TyA P t 3) (hl : (l.drop i).take 3 = [fl .f32 x, fl .f32 y, fl .f32 z]) : Ev P s o (vec ⟨x, y, z⟩) := ev_loadRA ho hx ht hl rfl
theorem bd_Vector3 {x y z : Nat} {t : TypeId} {parts : List (Nat × Operand)} {pl : List (Nat × List AV)} {zl : List AV} {places : List (Nat × Nat)} (ho : o.op = .build t parts.toArray) (ht : TyB P t zl places) (hp : Parts s parts pl) (hf : fillA (places[·]?) pl zl = some [fl .f32 x, fl .f32 y, fl .f32 z]) : Ev P s o (vec ⟨x, y, z⟩) := ev_build ho ht hp hf
end

theorem tyA_Vector : TyA Try.prog 26 3 := TyA.mk Try.underlying26 rfl (by kernel_rfl)
theorem sz_Vector : (Try.prog.info? 26).map (·.size) = some 3 := by kernel_rfl
theorem tyZ_Vector : TyZ Try.prog 26 [fl .f32 0, fl .f32 0, fl .f32 0] := TyZ.mk (z := .agg #[.float .f32 0, .float .f32 0, .float .f32 0]) (by kernel_rfl) (fun w => ⟨⟨⟨0, rfl, Fb_zero⟩, ⟨0, rfl, Fb_zero⟩, ⟨0, rfl, Fb_zero⟩, trivial⟩, by simp [Value.cells, Value.oneCell']⟩)
theorem tyF_Vector_X : TyF Try.prog 26 0 0 := TyF.mk Try.underlying26 rfl rfl (m := 1) (by kernel_rfl) (by decide)
theorem tyF_Vector_Y : TyF Try.prog 26 1 1 := TyF.mk Try.underlying26 rfl rfl (m := 1) (by kernel_rfl) (by decide)
theorem tyF_Vector_Z : TyF Try.prog 26 2 2 := TyF.mk Try.underlying26 rfl rfl (m := 1) (by kernel_rfl) (by decide)
theorem tyB_Vector : TyB Try.prog 26 [fl .f32 0, fl .f32 0, fl .f32 0] [(0, 1), (1, 1), (2, 1)] := TyB.mk Try.underlying26 (z := .agg #[.float .f32 0, .float .f32 0, .float .f32 0]) (by kernel_rfl) (by kernel_rfl) (fun w => ⟨⟨⟨0, rfl, Fb_zero⟩, ⟨0, rfl, Fb_zero⟩, ⟨0, rfl, Fb_zero⟩, trivial⟩, by simp [Value.cells, Value.oneCell']⟩)
theorem tyS_Vector : TyS Try.prog 35 26 3 := TyS.mk Try.underlying35 (by kernel_rfl)
theorem tyA_LawsVector : TyA Try.prog 24 3 := TyA.mk Try.underlying24 rfl (by kernel_rfl)
theorem sz_LawsVector : (Try.prog.info? 24).map (·.size) = some 3 := by kernel_rfl
theorem tyZ_LawsVector : TyZ Try.prog 24 [fl .f32 0, fl .f32 0, fl .f32 0] := TyZ.mk (z := .agg #[.float .f32 0, .float .f32 0, .float .f32 0]) (by kernel_rfl) (fun w => ⟨⟨⟨0, rfl, Fb_zero⟩, ⟨0, rfl, Fb_zero⟩, ⟨0, rfl, Fb_zero⟩, trivial⟩, by simp [Value.cells, Value.oneCell']⟩)
theorem tyF_LawsVector_X : TyF Try.prog 24 0 0 := TyF.mk Try.underlying24 rfl rfl (m := 1) (by kernel_rfl) (by decide)
theorem tyF_LawsVector_Y : TyF Try.prog 24 1 1 := TyF.mk Try.underlying24 rfl rfl (m := 1) (by kernel_rfl) (by decide)
theorem tyF_LawsVector_Z : TyF Try.prog 24 2 2 := TyF.mk Try.underlying24 rfl rfl (m := 1) (by kernel_rfl) (by decide)
theorem tyB_LawsVector : TyB Try.prog 24 [fl .f32 0, fl .f32 0, fl .f32 0] [(0, 1), (1, 1), (2, 1)] := TyB.mk Try.underlying24 (z := .agg #[.float .f32 0, .float .f32 0, .float .f32 0]) (by kernel_rfl) (by kernel_rfl) (fun w => ⟨⟨⟨0, rfl, Fb_zero⟩, ⟨0, rfl, Fb_zero⟩, ⟨0, rfl, Fb_zero⟩, trivial⟩, by simp [Value.cells, Value.oneCell']⟩)
theorem tyS_LawsVector : TyS Try.prog 31 24 3 := TyS.mk Try.underlying31 (by kernel_rfl)
theorem tyP_f32 : TyP Try.prog 22 := TyP.mk Try.underlying22 rfl (by kernel_rfl)
theorem sz_f32 : (Try.prog.info? 22).map (·.size) = some 1 := by kernel_rfl
theorem tyZ_f32 : TyZ Try.prog 22 [fl .f32 0] := TyZ.mk (z := .float .f32 0) (by kernel_rfl) (fun w => ⟨⟨⟨0, rfl, Fb_zero⟩, trivial⟩, by simp [Value.cells, Value.oneCell']⟩)
theorem tyP_i64 : TyP Try.prog 2 := TyP.mk Try.underlying2 rfl (by kernel_rfl)
theorem sz_i64 : (Try.prog.info? 2).map (·.size) = some 1 := by kernel_rfl
theorem tyZ_i64 : TyZ Try.prog 2 [vv (.int .i64 0)] := TyZ.mk (z := .int .i64 0) (by kernel_rfl) (fun w => ⟨⟨rfl, trivial⟩, by simp [Value.cells, Value.oneCell']⟩)
theorem tyP_int : TyP Try.prog 3 := TyP.mk Try.underlying3 rfl (by kernel_rfl)
theorem sz_int : (Try.prog.info? 3).map (·.size) = some 1 := by kernel_rfl
theorem tyZ_int : TyZ Try.prog 3 [vv (.int .i64 0)] := TyZ.mk (z := .int .i64 0) (by kernel_rfl) (fun w => ⟨⟨rfl, trivial⟩, by simp [Value.cells, Value.oneCell']⟩)
theorem tyP_bool : TyP Try.prog 4 := TyP.mk Try.underlying4 rfl (by kernel_rfl)
theorem sz_bool : (Try.prog.info? 4).map (·.size) = some 1 := by kernel_rfl
theorem tyZ_bool : TyZ Try.prog 4 [vv (.bool false)] := TyZ.mk (z := .bool false) (by kernel_rfl) (fun w => ⟨⟨rfl, trivial⟩, by simp [Value.cells, Value.oneCell']⟩)
end Go.Proofs.Ytjkpnnbahhlopaa

/-
  Slices of structs of floats: from the flat readings to the abstract ones and back; slices of the call's own that are marked. Conditions: none.
-/
namespace Go.Proofs.Ytjkpnnbahhlopaa
open Go Go.RowKit

/-- The content c of n elements of s floats reads flat as X. -/
def Flat (s n : Nat) (c : Nat → List AV) (X : List Nat) : Prop := 0 < s ∧ X.length = n * s ∧ ∀ k, k < n → (c k).length = s ∧ ∀ r, r < s → ∃ x, (c k)[r]? = some (fl .f32 x) ∧ X[k * s + r]? = some x

theorem Flat.at_ {s n : Nat} {c : Nat → List AV} {X : List Nat} (h : Flat s n c X) {j x : Nat} (hj : X[j]? = some x) : j / s < n ∧ (c (j / s))[j % s]? = some (fl .f32 x) := by
  have hjl : j < X.length := (List.getElem?_eq_some_iff.1 hj).1
  rw [h.2.1] at hjl
  have hk : j / s < n := by rw [Nat.div_lt_iff_lt_mul h.1]; exact hjl
  obtain ⟨_, hr⟩ := h.2.2 (j / s) hk
  obtain ⟨y, h1, h2⟩ := hr (j % s) (Nat.mod_lt _ h.1)
  rw [Nat.div_add_mod' j s, hj] at h2
  injection h2 with h2
  subst h2
  exact ⟨hk, h1⟩
/-- One entry of the memory is put in place of another. -/
inductive HRep : List HE → HE → HE → List HE → Prop where
  | here {e e' H} : HRep (e :: H) e e' (e' :: H)
  | there {x e e' H H'} : HRep H e e' H' → HRep (x :: H) e e' (x :: H')
theorem HRep.mem {H H' : List HE} {e e' : HE} (h : HRep H e e' H') : e ∈ H := by
  induction h with
  | here => exact .head _
  | there _ ih => exact .tail _ ih
theorem HRep.foots {H H' : List HE} {e e' : HE} (hf : ∀ g, e'.foot g → e.foot g) (h : HRep H e e' H') : ∀ x ∈ H', ∃ y ∈ H, ∀ g, x.foot g → y.foot g := by
  induction h with
  | here =>
    intro x hx
    cases hx with
    | head => exact ⟨_, .head _, hf⟩
    | tail _ hm => exact ⟨x, .tail _ hm, fun g hg => hg⟩
  | there _ ih =>
    intro x hx
    cases hx with
    | head => exact ⟨_, .head _, fun g hg => hg⟩
    | tail _ hm =>
      obtain ⟨y, h1, h2⟩ := ih hf x hm
      exact ⟨y, .tail _ h1, h2⟩
theorem HRep.ok {w0 w w' : World} {H H' : List HE} {e e' : HE} (hf : ∀ g, e'.foot g → e.foot g) (h : HRep H e e' H') : HOk w0 w H → w.heap.size ≤ w'.heap.size → (∀ g, g < w.heap.size → ¬ e.foot g → w'.heap[g]? = w.heap[g]?) → e'.ok w0 w' → HOk w0 w' H' := by
  induction h with
  | @here e e' H =>
    intro hH hs hk hn
    exact ⟨hn, fun g hg => ⟨(hH.2.1 g (hf g hg)).1, Nat.lt_of_lt_of_le (hH.2.1 g (hf g hg)).2.1 hs, (hH.2.1 g (hf g hg)).2.2⟩, hH.2.2.keep hs fun x hx g hg => hk g (hH.2.2.foot x hx g hg).2 fun hgb => (hH.2.1 g hgb).2.2 x hx hg⟩
  | @there x e e' H H' hp ih =>
    intro hH hs hk hn
    have hne : ∀ g, x.foot g → ¬ e.foot g := fun g hg hgb => (hH.2.1 g hg).2.2 _ hp.mem hgb
    refine ⟨hH.1.keep hs fun g hg => hk g (hH.2.1 g hg).2.1 (hne g hg), fun g hg => ⟨(hH.2.1 g hg).1, Nat.lt_of_lt_of_le (hH.2.1 g hg).2.1 hs, fun y hy hfy => ?_⟩, ih hf hH.2.2 hs hk hn⟩
    obtain ⟨z, h1, h2⟩ := hp.foots hf y hy
    exact (hH.2.1 g hg).2.2 z h1 (h2 g hfy)

/-- What a marking function does to a slice that the caller owns. -/
def Marks (P : Program) (f : FuncId) (T s : Nat) : Prop := ∀ (w : World) (v : Value) (n : Nat) (X : List Nat) (lo hi : Nat) (K : Int), Ow w lo hi T s v n X → n ≤ 1048576 → 0 ≤ K → K ≤ 16777216 →
  Calls P f #[v, .int .i64 K] w fun e w' => e = .returned (.int .i64 (K + (s : Int) * n)) ∧ Ow w' lo hi T s v n (marks K (n * s)) ∧ Only lo hi w w'
def markC (s : Nat) (K : Int) (k : Nat) : List AV := (List.range s).map fun r => fl .f32 (floatOfInt .f32 (K + ((k * s + r : Nat) : Int)))
section
variable {P : Program} {w0 : World} {ops : Array Oper} {nt : Nat} {env : List (Nat × AV)} {H : List HE} {rest : List Oper} {Q : Exit → Act → World → Prop} {ty : TypeId} {pos : String} {after : Array Edge}
end

end Go.Proofs.Ytjkpnnbahhlopaa

/-
  Regions that draw their order, anew: an operation of the head may use what its forerunners made; calls there may hand back new slices. Conditions: none.
-/
namespace Go.Proofs.Ytjkpnnbahhlopaa
open Go Go.RowKit

def made (ops : Array Oper) (j : Nat) : Option Nat := (ops[j]?).bind (·.dst)
/-- What is known of the value of an operation of the head: a relation that stands, and the blocks that it owns. -/
structure SF where
  R : Value → World → Prop
  st : ∀ v, Stable (R v)
  ft : Value → Nat → Prop
structure Stat (ops : Array Oper) (n nt : Nat) : Prop where
  dist : ∀ i j d, i < n → j < n → made ops i = some d → made ops j = some d → i = j
  bnd : ∀ i d, i < n → made ops i = some d → d < nt
theorem got_put {a : Act} {d : Nat} {v : Value} (h : d < a.tmps.size) : (a.put (some d) v).tmps.getD d undef = v := by simp [Act.put, Array.getD, h]
theorem got_ne {a : Act} {o : Option Nat} {d : Nat} {v : Value} (h : o ≠ some d) : (a.put o v).tmps.getD d undef = a.tmps.getD d undef := by
  cases o with
  | none => rfl
  | some e =>
    refine getD_put ?_
    cases h' : Nat.beq e d
    · rfl
    · exact absurd (congrArg some (Nat.eq_of_beq_eq_true h')) h
section
variable {P : Program} {ops : Array Oper} {md : Region.Mode} {C : World → Prop} {Rs : Nat → SF} {n nt lo : Nat}

def EFact (md : Region.Mode) (ops : Array Oper) (Rs : Nat → SF) (n : Nat) (o : Oper) (a : Act) (w : World) : Prop :=
  ∀ e ∈ o.after, Region.binds md e = true → ∀ d, made ops e.on = some d → e.on < n → (Rs e.on).R (a.tmps.getD d undef) w
def relUpon2 (P : Program) (C : World → Prop) (w : World) (R : SF) : Result Next → Prop
  | .ok (.value u) w' => C w' ∧ Below w.heap.size w w' ∧ R.R u w' ∧ ∀ g, R.ft u g → w.heap.size ≤ g ∧ g < w'.heap.size
  | .ok .skip w' => C w' ∧ Below w.heap.size w w' ∧ R.R undef w' ∧ ∀ g, R.ft undef g → w.heap.size ≤ g ∧ g < w'.heap.size
  | .ok (.enter f args) w' => Calls P f args w' fun e w'' => ∃ v, e = .returned v ∧ C w'' ∧ Below w.heap.size w w'' ∧ R.R v w'' ∧ ∀ g, R.ft v g → w.heap.size ≤ g ∧ g < w''.heap.size
  | _ => False
def Yields2 (P : Program) (md : Region.Mode) (ops : Array Oper) (C : World → Prop) (Rs : Nat → SF) (n : Nat) (o : Oper) (i : Nat) (a : Act) : Prop :=
  (Region.wanted o (yielded ops a.tmps) = true ∧ ∀ w, C w → EFact md ops Rs n o a w → relUpon2 P C w (Rs i) ((execOp a.eval o).run P w)) ∨
  (Region.wanted o (yielded ops a.tmps) = false ∧ ∀ w, (Rs i).R undef w ∧ ∀ g, ¬ (Rs i).ft undef g)
def rOp2 (P : Program) (md : Region.Mode) (ops : Array Oper) (C : World → Prop) (Rs : Nat → SF) (n : Nat) (i : Nat) (K : Act → (World → Prop) → Prop) (a : Act) (F : World → Prop) : Prop :=
  match ops[i]? with
  | none => False
  | some o => Yields2 P md ops C Rs n o i a ∧ ∀ v, (∃ w, C w ∧ F w ∧ (Rs i).R v w) → K (a.put o.dst v) (fun w => F w ∧ (Rs i).R v w)
def wpAnyR2 (P : Program) (md : Region.Mode) (ops : Array Oper) (C : World → Prop) (Rs : Nat → SF) (n : Nat) (L : Array Bool → Act → (World → Prop) → Prop) : Nat → Array Bool → Act → (World → Prop) → Prop
  | 0, listed, a, F => L listed a F
  | f + 1, listed, a, F => Region.ready md ops listed ≠ [] ∧ ∀ i ∈ Region.ready md ops listed, i < n ∧ rOp2 P md ops C Rs n i (wpAnyR2 P md ops C Rs n L f (listed.setIfInBounds i true)) a F

def Known (ops : Array Oper) (Rs : Nat → SF) (n : Nat) (listed : Array Bool) (a : Act) (w : World) : Prop :=
  ∀ j d, j < n → made ops j = some d → listed.getD j false = true → (Rs j).R (a.tmps.getD d undef) w
structure Feet (ops : Array Oper) (Rs : Nat → SF) (n lo : Nat) (listed : Array Bool) (a : Act) (w : World) : Prop where
  lt : ∀ j d, j < n → made ops j = some d → listed.getD j false = true → ∀ g, (Rs j).ft (a.tmps.getD d undef) g → lo ≤ g ∧ g < w.heap.size
  ap : ∀ j k d e, j < n → k < n → j ≠ k → made ops j = some d → made ops k = some e → listed.getD j false = true → listed.getD k false = true → ∀ g, (Rs j).ft (a.tmps.getD d undef) g → ¬ (Rs k).ft (a.tmps.getD e undef) g

theorem listed_ne {listed : Array Bool} {i j : Nat} (h : i ≠ j) : (listed.setIfInBounds i true).getD j false = listed.getD j false := getD_set_ne false h
theorem made_of {i : Nat} {o : Oper} (h : ops[i]? = some o) : made ops i = o.dst := by simp [made, h]

theorem Known.step (hS : Stat ops n nt) {i : Nat} {o : Oper} (hi : i < n) (ho : ops[i]? = some o) {a : Act} {v : Value} {listed : Array Bool} {w : World} (hsz : a.tmps.size = nt) (h : Known ops Rs n listed a w) (hv : (Rs i).R v w) : Known ops Rs n (listed.setIfInBounds i true) (a.put o.dst v) w := by
  intro j d hj hm hl
  by_cases hij : i = j
  · subst hij
    have : o.dst = some d := (made_of ho).symm.trans hm
    rw [this, got_put (by rw [hsz]; exact hS.bnd _ _ hi hm)]
    exact hv
  · rw [listed_ne hij] at hl
    rw [got_ne fun e => hij (hS.dist i j d hi hj ((made_of ho).trans e) hm)]
    exact h j d hj hm hl
theorem Feet.step (hS : Stat ops n nt) {i : Nat} {o : Oper} (hi : i < n) (ho : ops[i]? = some o) {a : Act} {v : Value} {listed : Array Bool} {w w' : World} (hsz : a.tmps.size = nt) (hlo : lo ≤ w.heap.size) (hb : w.heap.size ≤ w'.heap.size) (h : Feet ops Rs n lo listed a w) (hv : ∀ g, (Rs i).ft v g → w.heap.size ≤ g ∧ g < w'.heap.size) : Feet ops Rs n lo (listed.setIfInBounds i true) (a.put o.dst v) w' := by
  have get : ∀ j d, j < n → made ops j = some d → i ≠ j → (a.put o.dst v).tmps.getD d undef = a.tmps.getD d undef := fun j d hj hm hij => got_ne fun e => hij (hS.dist i j d hi hj ((made_of ho).trans e) hm)
  have gi : ∀ d, made ops i = some d → (a.put o.dst v).tmps.getD d undef = v := fun d hm => by
    have : o.dst = some d := (made_of ho).symm.trans hm
    rw [this, got_put (by rw [hsz]; exact hS.bnd _ _ hi hm)]
  constructor
  · intro j d hj hm hl g hg
    by_cases hij : i = j
    · subst hij
      rw [gi d hm] at hg
      have := hv g hg
      omega
    · rw [listed_ne hij] at hl
      rw [get j d hj hm hij] at hg
      have := h.lt j d hj hm hl g hg
      omega
  · intro j k d e hj hk hjk hm hm' hl hl' g hg hg'
    by_cases hij : i = j
    · subst hij
      rw [gi d hm] at hg
      rw [listed_ne hjk] at hl'
      rw [get k e hk hm' hjk] at hg'
      have := h.lt k e hk hm' hl' g hg'
      have := hv g hg
      omega
    · rw [listed_ne hij] at hl
      rw [get j d hj hm hij] at hg
      by_cases hik : i = k
      · subst hik
        rw [gi e hm'] at hg'
        have := h.lt j d hj hm hl g hg
        have := hv g hg'
        omega
      · rw [listed_ne hik] at hl'
        rw [get k e hk hm' hik] at hg'
        exact h.ap j k d e hj hk hjk hm hm' hl hl' g hg hg'

theorem EFact.put (hS : Stat ops n nt) {o ok : Oper} {k : Nat} {a : Act} {v : Value} {w : World} (hno : ∀ e ∈ o.after, Region.binds md e = true → e.on ≠ k) (hk : ops[k]? = some ok) (hkn : k < n) : EFact md ops Rs n o (a.put ok.dst v) w ↔ EFact md ops Rs n o a w := by
  have q : ∀ e ∈ o.after, Region.binds md e = true → ∀ d, made ops e.on = some d → e.on < n → (a.put ok.dst v).tmps.getD d undef = a.tmps.getD d undef := fun e he hb d hm hn => got_ne fun x => hno e he hb (hS.dist e.on k d hn hkn hm ((made_of hk).trans x))
  constructor
  · intro h e he hb d hm hn
    rw [← q e he hb d hm hn]
    exact h e he hb d hm hn
  · intro h e he hb d hm hn
    rw [q e he hb d hm hn]
    exact h e he hb d hm hn

/-- The walk in the order of the text: k is the number of the operation at hand. -/
def wpRel2 (P : Program) (md : Region.Mode) (ops : Array Oper) (C : World → Prop) (Rs : Nat → SF) (n : Nat) (T : Act → (World → Prop) → Prop) : Nat → List Oper → Act → (World → Prop) → Prop
  | _, [], a, F => T a F
  | k, o :: rest, a, F => Yields2 P md ops C Rs n o k a ∧ ∀ v, (∃ w, C w ∧ F w ∧ (Rs k).R v w) → wpRel2 P md ops C Rs n T (k + 1) rest (a.put o.dst v) (fun w => F w ∧ (Rs k).R v w)

end
end Go.Proofs.Ytjkpnnbahhlopaa

/-
  Regions that draw their order, anew, with abstract states. Conditions: none.
-/
namespace Go.Proofs.Ytjkpnnbahhlopaa
open Go Go.RowKit

/-- What an operation of the head laid: a new variable, or a value about a new slice. -/
inductive Made where
  | box (zl : List AV)
  | row (T size n : Nat) (c : Nat → List AV) (mk : Value → AV)
  | late (A : AV)
structure Ent where
  j : Nat
  d : Nat
  k : Made
structure NS where
  k : Nat
  es : List Ent
def NS.up (ns : NS) : NS := ⟨ns.k + 1, ns.es⟩
def NS.add (ns : NS) (d : Nat) (m : Made) : NS := ⟨ns.k + 1, ⟨ns.k, d, m⟩ :: ns.es⟩

/-- The new slice may be told from the value. -/
def Inj (mk : Value → AV) : Prop := ∀ w sv sv' v, (mk sv).R w v → (mk sv').R w v → sv = sv'
def Made.R (w0 : World) : Made → Value → World → Prop
  | .box zl, v, w => ∃ b, v = .pointer (some ⟨b, 0, none⟩) ∧ b < w.heap.size ∧ (HE.cells b zl).ok w0 w
  | .row T size n c mk, v, w => ∃ sv, (mk sv).R w0 v ∧ (∀ g, sv.ownBlock = some g → g < w.heap.size) ∧ (HE.row sv T size n c).ok w0 w
  | .late A, v, w => A.R w v
def Made.ft (w0 : World) : Made → Value → Nat → Prop
  | .box _, v, g => v = .pointer (some ⟨g, 0, none⟩)
  | .row _ _ _ _ mk, v, g => ∃ sv, (mk sv).R w0 v ∧ sv.ownBlock = some g
  | .late _, _, _ => False
theorem Made.stable (w0 : World) (m : Made) (v : Value) : Stable (m.R w0 v) := fun w w' hb h => by
  cases m with
  | box zl =>
    obtain ⟨b, e, h1, h2⟩ := h
    exact ⟨b, e, Nat.lt_of_lt_of_le h1 hb.size, h2.keep hb.size fun g hg => by obtain rfl : g = b := hg; exact hb.block _ h1⟩
  | row T size n c mk =>
    obtain ⟨sv, e, h1, h2⟩ := h
    exact ⟨sv, e, fun g hg => Nat.lt_of_lt_of_le (h1 g hg) hb.size, h2.keep hb.size fun g hg => hb.block g (h1 g hg)⟩
  | late A => exact A.mono hb h
def Made.sf (w0 : World) (m : Made) : SF := ⟨m.R w0, m.stable w0, m.ft w0⟩
def SF.pure (R : Value → Prop) : SF := ⟨fun v _ => R v, fun _ _ _ _ h => h, fun _ _ => False⟩

/-- The forerunners of an operation, as far as they laid something. -/
def Fore (after : Array Edge) (e : Ent) : Bool := after.toList.any fun x => Region.binds .any x && Nat.beq x.on e.j
def Facts (w0 : World) (es : List Ent) (after : Array Edge) (a : Act) (w : World) : Prop := ∀ e ∈ es, Fore after e = true → e.k.R w0 (a.tmps.getD e.d undef) w
structure EvE (P : Program) (s : AS) (es : List Ent) (o : Oper) (A : AV) : Prop where
  out : ∀ w0 a w, Sat w0 s a w → Facts w0 es o.after a w → EvRes P w (fun v => A.R w0 v) ((execOp a.eval o).run P w)
def EvNRes (P : Program) (w0 w : World) (m : Made) : Result Next → Prop
  | .ok (.value u) w' => Below w.heap.size w w' ∧ m.R w0 u w' ∧ ∀ g, m.ft w0 u g → w.heap.size ≤ g ∧ g < w'.heap.size
  | .ok (.enter f args) w' => Below w.heap.size w w' ∧ Calls P f args w' fun e w'' => ∃ v, e = .returned v ∧ Below w'.heap.size w' w'' ∧ m.R w0 v w'' ∧ ∀ g, m.ft w0 v g → w.heap.size ≤ g ∧ g < w''.heap.size
  | _ => False
structure EvN (P : Program) (s : AS) (es : List Ent) (o : Oper) (m : Made) : Prop where
  out : ∀ w0 a w, Sat w0 s a w → Facts w0 es o.after a w → EvNRes P w0 w m ((execOp a.eval o).run P w)

structure GOn (ops : Array Oper) (s : AS) (o : Oper) : Prop where
  out : ∀ w0 a w, Sat w0 s a w → Region.wanted o (yielded ops a.tmps) = true
structure GOff (ops : Array Oper) (s : AS) (o : Oper) : Prop where
  out : ∀ w0 a w, Sat w0 s a w → Region.wanted o (yielded ops a.tmps) = false
def DU (P : Program) (ops : Array Oper) : AS → NS → List Oper → (AS → NS → Prop) → Prop
  | s, ns, [], K => K s ns
  | s, ns, o :: rest, K => dok s o.dst = true ∧
      ((GOn ops s o ∧ ((∃ A, EvE P s ns.es o A ∧ DU P ops (s.put o.dst A) ns.up rest K) ∨ (∃ d m, o.dst = some d ∧ EvN P s ns.es o m ∧ DU P ops (s.put (some d) top) (ns.add d m) rest K))) ∨
       (GOff ops s o ∧ DU P ops (s.put o.dst (vv undef)) ns.up rest K))
/-- Behind the head. -/
def FinU (K : AS → Prop) : AS → List Ent → Prop
  | s, [] => K s
  | s, ⟨_, d, .box zl⟩ :: es => ∀ b, FinU K ⟨s.nt, (d, ptr b 0) :: s.env, .cells b zl :: s.heap⟩ es
  | s, ⟨_, d, .row T size n c mk⟩ :: es => ∀ sv, FinU K ⟨s.nt, (d, mk sv) :: s.env, .row sv T size n c :: s.heap⟩ es
  | s, ⟨_, _, .late _⟩ :: es => FinU K s es

structure PreU (w0 w1 : World) (ops : Array Oper) (n : Nat) (Rs : Nat → SF) (s : AS) (ns : NS) (a : Act) (F : World → Prop) : Prop where
  size : a.tmps.size = s.nt
  defers : a.defers = []
  env : ∀ t A, look t s.env = some A → A.R w0 (a.tmps.getD t undef)
  heap : HOk w0 w1 s.heap
  ents : ∀ e ∈ ns.es, made ops e.j = some e.d ∧ e.j < ns.k ∧ Rs e.j = e.k.sf w0 ∧ ∀ w, F w → e.k.R w0 (a.tmps.getD e.d undef) w
  nodup : (ns.es.map (·.j)).Nodup
/-- No two operations of the head have the same place, and all places lie in the frame. -/
def distB (nt : Nat) : List Oper → Bool
  | [] => true
  | o :: r => (match o.dst with
    | none => true
    | some d => Nat.blt d nt && r.all fun q => match q.dst with
      | none => true
      | some e => !Nat.beq d e) && distB nt r
structure DWU (P : Program) (ops : Array Oper) (s : AS) (ns : NS) (j : Nat) (l : List Oper) (K : AS → NS → Prop) : Prop where
  out : DU P ops s ns (l.take j) K
structure FinV (K : AS → Prop) (s : AS) (es : List Ent) : Prop where
  out : FinU K s es
theorem FinU.mono {K K' : AS → Prop} (h : ∀ s, K s → K' s) : ∀ {es : List Ent} {s : AS}, FinU K s es → FinU K' s es
  | [], _, k => h _ k
  | ⟨_, _, .box _⟩ :: _, _, k => fun b => FinU.mono h (k b)
  | ⟨_, _, .row ..⟩ :: _, _, k => fun sv => FinU.mono h (k sv)
  | ⟨_, _, .late _⟩ :: es, s, k => FinU.mono (es := es) (s := s) h k
theorem DU.mono {P : Program} {ops : Array Oper} {K K' : AS → NS → Prop} (h : ∀ s ns, K s ns → K' s ns) : ∀ {l : List Oper} {s : AS} {ns : NS}, DU P ops s ns l K → DU P ops s ns l K'
  | [], _, _, k => h _ _ k
  | _ :: _, _, _, ⟨h1, .inl ⟨h2, .inl ⟨A, h4, h5⟩⟩⟩ => ⟨h1, .inl ⟨h2, .inl ⟨A, h4, DU.mono h h5⟩⟩⟩
  | _ :: _, _, _, ⟨h1, .inl ⟨h2, .inr ⟨d, m, h5, h6, h8⟩⟩⟩ => ⟨h1, .inl ⟨h2, .inr ⟨d, m, h5, h6, DU.mono h h8⟩⟩⟩
  | _ :: _, _, _, ⟨h1, .inr ⟨h2, h8⟩⟩ => ⟨h1, .inr ⟨h2, DU.mono h h8⟩⟩
/-- What an operand of the head is for a callee that enters now. -/
def GivE (s : AS) (es : List Ent) (after : Array Edge) (x : Operand) (A : AV) : Prop := ∀ w0 a w, Sat w0 s a w → Facts w0 es after a w → A.R w (a.eval x)
def GivsE (s : AS) (es : List Ent) (after : Array Edge) : List Operand → List AV → Prop
  | [], [] => True
  | x :: xs, A :: As => GivE s es after x A ∧ GivsE s es after xs As
  | _, _ => False
def Turns (mk : Value → AV) (size n : Nat) (c : Nat → List AV) (A : AV) : Prop := ∀ w0 w u sv, Below w0.heap.size w0 w → (mk sv).R w0 u → (rs size n c).R w sv → A.R w u
section
variable {P : Program} {s : AS} {es : List Ent} {after : Array Edge}
theorem GivE.of {x : Operand} {A : AV} (h : Giv s x A) : GivE s es after x A := fun w0 a w hs _ => h w0 a w hs
theorem rs_of_ok {w0 w : World} {v : Value} {T size n : Nat} {c : Nat → List AV} (hb : Below w0.heap.size w0 w) (h : (HE.row v T size n c).ok w0 w) (hl : ∀ g, v.ownBlock = some g → g < w.heap.size) : (rs size n c).R w v := by
  obtain ⟨xs, ⟨hlen, h1⟩, h2, h3⟩ := h
  rcases h1 with ⟨rfl, rfl⟩ | ⟨g, cap, cur, rfl, hg, hh, hnc, hcm, hcs, ht⟩
  · exact ⟨none, 0, rfl, Nat.le_refl _, fun h0 => absurd h0 (by omega)⟩
  · refine ⟨_, cap, rfl, hnc, fun _ => ⟨g, 0, rfl, fun k hk => ⟨hl g rfl, fun j A hj => ?_⟩⟩⟩
    obtain ⟨u, hu, hr⟩ := (h2 k hk).get hj
    refine ⟨u, ?_, A.mono hb hr, h3 u (List.mem_of_mem_drop (List.mem_of_mem_take (List.mem_of_getElem? hu)))⟩
    rw [List.getElem?_take] at hu
    split at hu
    · rename_i hj2
      rw [List.getElem?_drop, ← ht, List.getElem?_take] at hu
      split at hu
      · rw [Nat.zero_add, cell_of_row w g _ cur T (0, 0) hh, ← Array.getElem?_toList]
        exact hu
      · cases hu
    · cases hu
theorem GivE.row {j d T size n : Nat} {c : Nat → List AV} {mk : Value → AV} {A : AV} (hm : ⟨j, d, .row T size n c mk⟩ ∈ es) (hf : Fore after ⟨j, d, .row T size n c mk⟩ = true) (hA : Turns mk size n c A) : GivE s es after (.tmp d) A := fun w0 a w hs hF => by
  obtain ⟨sv, h1, h2, h3⟩ := hF _ hm hf
  exact hA w0 w _ sv hs.below h1 (rs_of_ok hs.below h3 h2)
theorem GivE.late {j d : Nat} {A : AV} (hm : ⟨j, d, .late A⟩ ∈ es) (hf : Fore after ⟨j, d, .late A⟩ = true) : GivE s es after (.tmp d) A := fun w0 a w hs hF => hF _ hm hf
theorem GivsE.nil : GivsE s es after [] [] := trivial
theorem GivsE.cons {x : Operand} {A : AV} {xs : List Operand} {As : List AV} (h : GivE s es after x A) (k : GivsE s es after xs As) : GivsE s es after (x :: xs) (A :: As) := ⟨h, k⟩
theorem GivsE.all {w0 : World} {a : Act} {w : World} (hs : Sat w0 s a w) (hF : Facts w0 es after a w) : ∀ {xs : List Operand} {As : List AV}, GivsE s es after xs As → All w As (xs.map a.eval)
  | [], [], _ => trivial
  | _ :: _, _ :: _, h => ⟨h.1 w0 a w hs hF, GivsE.all hs hF h.2⟩
  | [], _ :: _, h => h.elim
  | _ :: _, [], h => h.elim
end

section
variable {P : Program} {nt : Nat} {env : List (Nat × AV)} {H : List HE} {ops : Array Oper} {rest : List Oper} {op : Op} {ty : TypeId} {pos : String} {after : Array Edge} {ns : NS} {K : AS → NS → Prop}
/-- What a function hands back that lies in new memory alone. -/
def RetFresh (A : AV) (w : World) (v : Value) (w' : World) : Prop := ∀ w2 : World, w'.heap.size ≤ w2.heap.size → (∀ g, w.heap.size ≤ g → g < w'.heap.size → w2.heap[g]? = w'.heap[g]?) → A.R w2 v
end
end Go.Proofs.Ytjkpnnbahhlopaa

/-
  Regions that draw their order: one more edge, where a part of a tuple is taken early or late. Conditions: none.
-/
namespace Go.Proofs.Ytjkpnnbahhlopaa
open Go Go.RowKit

def withE (p : Nat) (o : Oper) : Oper := { o with after := o.after.push ⟨p, .data⟩ }
def addE (p : Nat) : Nat → List Oper → List Oper
  | _, [] => []
  | 0, o :: r => withE p o :: r
  | q + 1, o :: r => o :: addE p q r
/-- What is looked at of an edge from p to q. -/
def edgeB (p q : Nat) (l : List Oper) : Bool :=
  !(Nat.beq p q) && Region.noSelect l.toArray && (match l[p]?, l[q]? with
    | some op, some oq => (match op.op with
      | .extract _ _ => true
      | _ => false) && op.guard.isNone && op.dst.isSome &&
      (op.after.toList.all fun e => !Region.binds .any e || oq.after.toList.any fun e' => Region.binds .any e' && Nat.beq e'.on e.on) &&
      ((List.range l.length).all fun j => Nat.beq j p || (op.after.toList.any fun e => Region.binds .any e && Nat.beq e.on j) || match l[j]? with
        | some oj => (oj.after.toList.any fun e => Region.binds .any e && Nat.beq e.on p) || op.apart l.toArray oj
        | none => true)
    | _, _ => false)

section
variable {P : Program} {Q : Exit → Act → World → Prop} {l : List Oper} {p q : Nat}
end

/-- Only what ends as usual. -/
def NoP (Q : Exit → Act → World → Prop) : Exit → Act → World → Prop := fun e a w => e = .normal ∧ Q e a w
def addEs : List (Nat × Nat) → List Oper → List Oper
  | [], l => l
  | (p, q) :: r, l => addEs r (addE p q l)
def edgesB (n : Nat) : List (Nat × Nat) → List Oper → Bool
  | [], _ => true
  | (p, q) :: r, l => Nat.ble n q && edgeB p q l && edgesB n r (addE p q l)
section
variable {P : Program} {Q : Exit → Act → World → Prop}
end

theorem aex_nop {w0 : World} {s : AS} {Q : Exit → Act → World → Prop} (h : AEx w0 s .normal Q) : AEx w0 s .normal (NoP Q) := ⟨fun a w hs => ⟨rfl, h.out a w hs⟩⟩
end Go.Proofs.Ytjkpnnbahhlopaa

/-
  Remainders of integers. Conditions: none.
-/
namespace Go.Proofs.Ytjkpnnbahhlopaa
open Go Go.RowKit
section
variable {P : Program} {s : AS} {o : Oper}
end
end Go.Proofs.Ytjkpnnbahhlopaa

/-
  Slices made by 'make', and elements written: slices of the call's own. Conditions: none.
-/
namespace Go.Proofs.Ytjkpnnbahhlopaa
open Go Go.RowKit

section
variable {P : Program} {s : AS} {o : Oper}
end

section
variable {P : Program} {w0 : World} {ops : Array Oper} {nt : Nat} {env : List (Nat × AV)} {H : List HE} {rest : List Oper} {Q : Exit → Act → World → Prop} {ty : TypeId} {pos : String} {after : Array Edge}
end
end Go.Proofs.Ytjkpnnbahhlopaa

/-
  Calls that turn memory of the caller's own; closures; parts of elements written and read; slices that grow by slices; slices cut. Conditions: none.
-/
namespace Go.Proofs.Ytjkpnnbahhlopaa
open Go Go.RowKit

theorem HSub.refl : ∀ H, HSub H H
  | [] => .nil
  | _ :: H => .keep (HSub.refl H)

/-- Memory in two parts. -/
inductive HSplit : List HE → List HE → List HE → Prop where
  | nil : HSplit [] [] []
  | left {e A H R} : HSplit A H R → HSplit (e :: A) (e :: H) R
  | right {e A H R} : HSplit A H R → HSplit (e :: A) H (e :: R)
theorem HSplit.mem {A H R : List HE} (h : HSplit A H R) : (∀ e ∈ H, e ∈ A) ∧ ∀ e ∈ R, e ∈ A := by
  induction h with
  | nil => exact ⟨fun e h => h, fun e h => h⟩
  | left _ ih => exact ⟨fun e h => by
      cases h with
      | head => exact .head _
      | tail _ h => exact .tail _ (ih.1 e h), fun e h => .tail _ (ih.2 e h)⟩
  | right _ ih => exact ⟨fun e h => .tail _ (ih.1 e h), fun e h => by
      cases h with
      | head => exact .head _
      | tail _ h => exact .tail _ (ih.2 e h)⟩
theorem HSplit.ok {w0 w : World} {A H R : List HE} (h : HSplit A H R) : HOk w0 w A → HOk w0 w H ∧ HOk w0 w R ∧ ∀ e ∈ H, ∀ e' ∈ R, ∀ g, e.foot g → ¬ e'.foot g := by
  induction h with
  | nil => intro _; exact ⟨trivial, trivial, fun e h => by cases h⟩
  | @left e A H R hs ih =>
    intro hA
    obtain ⟨h1, h2, h3⟩ := ih hA.2.2
    refine ⟨⟨hA.1, fun g hg => ⟨(hA.2.1 g hg).1, (hA.2.1 g hg).2.1, fun e' he' => (hA.2.1 g hg).2.2 e' (hs.mem.1 e' he')⟩, h1⟩, h2, fun x hx e' he' g hg => ?_⟩
    cases hx with
    | head => exact (hA.2.1 g hg).2.2 e' (hs.mem.2 e' he')
    | tail _ hx => exact h3 x hx e' he' g hg
  | @right e A H R hs ih =>
    intro hA
    obtain ⟨h1, h2, h3⟩ := ih hA.2.2
    refine ⟨h1, ⟨hA.1, fun g hg => ⟨(hA.2.1 g hg).1, (hA.2.1 g hg).2.1, fun e' he' => (hA.2.1 g hg).2.2 e' (hs.mem.2 e' he')⟩, h2⟩, fun x hx e' he' g hg hg' => ?_⟩
    cases he' with
    | head => exact (hA.2.1 g hg').2.2 x (hs.mem.1 x hx) hg
    | tail _ he' => exact h3 x hx e' he' g hg hg'
theorem HOk.append {w0 w : World} : ∀ {H R : List HE}, HOk w0 w H → HOk w0 w R → (∀ e ∈ H, ∀ e' ∈ R, ∀ g, e.foot g → ¬ e'.foot g) → HOk w0 w (H ++ R)
  | [], _, _, hR, _ => hR
  | e :: H, R, hH, hR, hd => ⟨hH.1, fun g hg => ⟨(hH.2.1 g hg).1, (hH.2.1 g hg).2.1, fun e' he' => by
      rcases List.mem_append.1 he' with h | h
      · exact (hH.2.1 g hg).2.2 e' h
      · exact hd e (.head _) e' h g hg⟩, HOk.append hH.2.2 hR fun x hx => hd x (.tail _ hx)⟩
theorem HOk.parts {w0 w : World} : ∀ {H R : List HE}, HOk w0 w (H ++ R) → HOk w0 w H ∧ HOk w0 w R ∧ ∀ e ∈ H, ∀ e' ∈ R, ∀ g, e.foot g → ¬ e'.foot g
  | [], _, h => ⟨trivial, h, fun e he => by cases he⟩
  | e :: H, R, h => by
    obtain ⟨h1, h2, h3⟩ := HOk.parts h.2.2
    refine ⟨⟨h.1, fun g hg => ⟨(h.2.1 g hg).1, (h.2.1 g hg).2.1, fun e' he' => (h.2.1 g hg).2.2 e' (List.mem_append_left _ he')⟩, h1⟩, h2, fun x hx e' he' g hg => ?_⟩
    cases hx with
    | head => exact (h.2.1 g hg).2.2 e' (List.mem_append_right _ he')
    | tail _ hx => exact h3 x hx e' he' g hg

/-- What is left alone by a call that is handed the entries H. -/
def Rest (w0 w : World) (H : List HE) (g : Nat) : Prop := w0.heap.size ≤ g ∧ g < w.heap.size ∧ ∀ e ∈ H, ¬ e.foot g
/-- The contract of a function that turns memory of its caller's own: H becomes H' i, for some i, and the value is A i. -/
def ConM (P : Program) (f : FuncId) (As : List AV) (H : List HE) {ι : Type} (A : ι → AV) (H' : ι → List HE) : Prop :=
  Can P f ∧ ∀ w0 w vs, Below w0.heap.size w0 w → All w0 As vs → HOk w0 w H → Calls P f vs.toArray w fun e w' => ∃ v i, e = .returned v ∧ (A i).R w0 v ∧ Below w0.heap.size w0 w' ∧ HOk w0 w' (H' i) ∧ w.heap.size ≤ w'.heap.size ∧
    (∀ g, Rest w0 w H g → w'.heap[g]? = w.heap[g]?) ∧ ∀ e ∈ H' i, ∀ g, e.foot g → ¬ Rest w0 w H g

theorem HOk.rest {w0 w : World} {H : List HE} (h : HOk w0 w H) : HOk w0 w (H ++ [.fr w (Rest w0 w H)]) :=
  h.append ⟨⟨Nat.le_refl _, fun _ _ => rfl⟩, fun g hg => ⟨hg.1, hg.2.1, fun e' he' => by cases he'⟩, trivial⟩ fun e he e' he' g hg hg' => by
    cases he' with
    | head => exact hg'.2.2 e he hg
    | tail _ he' => cases he'

section
variable {P : Program}
def RetM (w0 w : World) (H : List HE) {ι : Type} (A : ι → AV) (H' : ι → List HE) (e : Ending) (w' : World) : Prop :=
  ∃ v i, e = .returned v ∧ (A i).R w0 v ∧ Below w0.heap.size w0 w' ∧ HOk w0 w' (H' i) ∧ w.heap.size ≤ w'.heap.size ∧ (∀ g, Rest w0 w H g → w'.heap[g]? = w.heap[g]?) ∧ ∀ e ∈ H' i, ∀ g, e.foot g → ¬ Rest w0 w H g
/-- A function value: a function of the program with what it has captured. -/
def clo (f : FuncId) (l : List AV) : AV := ⟨fun w v => ∃ cs : List Value, v = .func (.func f) #[] cs.toArray ∧ All w l cs, l.all (·.p),
  fun hb h => by obtain ⟨cs, e, h⟩ := h; exact ⟨cs, e, h.mono hb⟩, fun hp _ _ _ h => by obtain ⟨cs, e, h⟩ := h; exact ⟨cs, e, All.pure hp h⟩⟩
def Opds (s : AS) : List Operand → List AV → Prop
  | [], [] => True
  | x :: xs, A :: As => Opd s x A ∧ Opds s xs As
  | _, _ => False
theorem Opds.nil {s : AS} : Opds s [] [] := trivial
theorem Opds.cons {s : AS} {x : Operand} {A : AV} {xs : List Operand} {As : List AV} (h : Opd s x A) (k : Opds s xs As) : Opds s (x :: xs) (A :: As) := ⟨h, k⟩
theorem Opds.all {s : AS} {w0 w : World} {a : Act} (hs : Sat w0 s a w) : ∀ {xs : List Operand} {As : List AV}, Opds s xs As → All w0 As (xs.map a.eval)
  | [], [], _ => trivial
  | _ :: _, _ :: _, h => ⟨h.1 w0 a w hs, Opds.all hs h.2⟩
  | [], _ :: _, h => h.elim
  | _ :: _, [], h => h.elim
theorem ev_makeFunc {s : AS} {o : Oper} {f : FuncId} {xs : List Operand} {l : List AV} (ho : o.op = .makeFunc (.func f) #[] xs.toArray) (h : Opds s xs l) : Ev P s o (clo f l) := by
  refine ⟨fun w0 a w hs => ?_⟩
  have he : (xs.toArray.map a.eval) = (xs.map a.eval).toArray := by simp
  simp only [execOp, ho, Instr.makeFunc, he, List.map_toArray, List.map_nil, Array.map_empty, Sem.run_bind, Sem.run_pure, Result.andThen_ok]
  exact .of_val ⟨_, rfl, h.all hs⟩
end

section
variable {P : Program} {w0 : World} {ops : Array Oper} {nt : Nat} {env : List (Nat × AV)} {H : List HE} {rest : List Oper} {Q : Exit → Act → World → Prop} {ty : TypeId} {pos : String} {after : Array Edge}
end
section
variable {P : Program} {s : AS} {o : Oper}
end

section
variable {P : Program} {w0 : World} {ops : Array Oper} {nt : Nat} {env : List (Nat × AV)} {H : List HE} {rest : List Oper} {Q : Exit → Act → World → Prop} {ty : TypeId} {pos : String} {after : Array Edge}
/-- An empty slice without room. -/
def es0 : AV := ⟨fun _ v => ∃ a, v = .slice a 0 0, true, fun _ h => h, fun _ _ _ _ h => h⟩
end
section
variable {P : Program} {s : AS} {o : Oper}
end
end Go.Proofs.Ytjkpnnbahhlopaa

/-
  Structs that hold a slice: meshes, wires. Slices as cells. Conditions: none.
-/
namespace Go.Proofs.Ytjkpnnbahhlopaa
open Go Go.RowKit

/-- The head of a mesh. -/
structure MH where
  F : V3
  S : Nat
  a : Int
  b : Int
  c : Int
def mesh (M : MH) (A : AV) : AV := agg [fl .f32 M.F.x, fl .f32 M.F.y, fl .f32 M.F.z, fl .f32 M.S, vv (.int .i64 M.a), vv (.int .i64 M.b), vv (.int .i64 M.c), A]
def wire (A : AV) (b : Bool) (X : Nat) : AV := agg [A, vv (.bool b), fl .f32 X]
theorem All_turn {w0 w : World} (hb : Below w0.heap.size w0 w) {A B : AV} (hAB : ∀ u, A.R w0 u → B.R w u) : ∀ {l1 l2 : List AV} {cs : List Value}, All w0 (l1 ++ A :: l2) cs → All w (l1 ++ B :: l2) cs
  | [], l2, c :: cs, h => ⟨hAB c h.1, h.2.mono hb⟩
  | C :: l1, l2, c :: cs, h => ⟨C.mono hb h.1, All_turn hb hAB (l1 := l1) h.2⟩
  | [], _, [], h => h.elim
  | _ :: _, _, [], h => h.elim
theorem agg_turn {w0 w : World} (hb : Below w0.heap.size w0 w) {A B : AV} (hAB : ∀ u, A.R w0 u → B.R w u) (l1 l2 : List AV) {v : Value} (h : (agg (l1 ++ A :: l2)).R w0 v) : (agg (l1 ++ B :: l2)).R w v := by
  obtain ⟨cs, e, h1, h2⟩ := h
  exact ⟨cs, e, All_turn hb hAB h1, h2⟩
section
variable {s : AS}
theorem row_now {w0 w : World} {a : Act} (hs : Sat w0 s a w) {v : Value} {T size n : Nat} {c : Nat → List AV} (hm : HE.row v T size n c ∈ s.heap) {u : Value} (hu : (vv v).R w0 u) : (rs size n c).R w u := by
  obtain rfl : u = v := hu
  exact rs_of_ok hs.below (hs.heap.get _ hm) (fun g hg => (hs.heap.foot _ hm g hg).2)
theorem Giv.mesh {x : Operand} {M : MH} {v : Value} {T size n : Nat} {c : Nat → List AV} (h : Opd s x (Go.Proofs.Ytjkpnnbahhlopaa.mesh M (vv v))) (hm : HE.row v T size n c ∈ s.heap) : Giv s x (Go.Proofs.Ytjkpnnbahhlopaa.mesh M (rs size n c)) := fun w0 a w hs =>
  agg_turn hs.below (fun _ hu => row_now hs hm hu) [fl .f32 M.F.x, fl .f32 M.F.y, fl .f32 M.F.z, fl .f32 M.S, vv (.int .i64 M.a), vv (.int .i64 M.b), vv (.int .i64 M.c)] [] (h w0 a w hs)
theorem Giv.wire {x : Operand} {b : Bool} {X : Nat} {v : Value} {T size n : Nat} {c : Nat → List AV} (h : Opd s x (Go.Proofs.Ytjkpnnbahhlopaa.wire (vv v) b X)) (hm : HE.row v T size n c ∈ s.heap) : Giv s x (Go.Proofs.Ytjkpnnbahhlopaa.wire (rs size n c) b X) := fun w0 a w hs =>
  agg_turn hs.below (fun _ hu => row_now hs hm hu) [] [vv (.bool b), fl .f32 X] (h w0 a w hs)
/-- A box of the call's own whose cells hold a slice of the call's own, handed to a callee that reads both. -/
theorem Giv.boxrow {x : Operand} {b i : Nat} {l1 l2 : List AV} {v : Value} {T size n : Nat} {c : Nat → List AV} (h : Opd s x (ptr b i)) (hm : HE.cells b (l1 ++ vv v :: l2) ∈ s.heap) (hr : HE.row v T size n c ∈ s.heap) : Giv s x (rp (l1 ++ rs size n c :: l2) i) := fun w0 a w hs => by
  have e : a.eval x = _ := h w0 a w hs
  rw [e]
  obtain ⟨cs, T', h1, h2, h3⟩ := hs.heap.get _ hm
  have h2' := All_turn hs.below (fun u hu => row_now hs hr hu) h2
  refine ⟨b, 0, by simp, (hs.heap.foot _ hm b rfl).2, fun j A hj => ?_⟩
  obtain ⟨u, hu, hru⟩ := h2'.get hj
  refine ⟨u, ?_, hru, h3 u (List.mem_of_getElem? hu)⟩
  rw [Nat.zero_add, cell_of_row w b j cs T' (0, 0) h1, ← Array.getElem?_toList]
  exact hu
theorem Giv.boxmesh {x : Operand} {b : Nat} {M : MH} {v : Value} {T size n : Nat} {c : Nat → List AV} (h : Opd s x (ptr b 0)) (hm : HE.cells b [fl .f32 M.F.x, fl .f32 M.F.y, fl .f32 M.F.z, fl .f32 M.S, vv (.int .i64 M.a), vv (.int .i64 M.b), vv (.int .i64 M.c), vv v] ∈ s.heap) (hr : HE.row v T size n c ∈ s.heap) : Giv s x (rp [fl .f32 M.F.x, fl .f32 M.F.y, fl .f32 M.F.z, fl .f32 M.S, vv (.int .i64 M.a), vv (.int .i64 M.b), vv (.int .i64 M.c), rs size n c] 0) :=
  Giv.boxrow (l1 := [fl .f32 M.F.x, fl .f32 M.F.y, fl .f32 M.F.z, fl .f32 M.S, vv (.int .i64 M.a), vv (.int .i64 M.b), vv (.int .i64 M.c)]) (l2 := []) h hm hr
end
section
variable {P : Program} {s : AS} {o : Oper}
end
section
variable {P : Program} {w0 : World} {ops : Array Oper} {Q : Exit → Act → World → Prop}
theorem row_one {w0 w : World} {v : Value} {T size n : Nat} {c : Nat → List AV} (h : (HE.row v T size n c).ok w0 w) : v.oneCell' = true := by
  obtain ⟨xs, ⟨_, h1⟩, _⟩ := h
  rcases h1 with ⟨rfl, _⟩ | ⟨g, cap, cur, rfl, _⟩ <;> rfl
theorem aops_rowone {s : AS} {l : List Oper} {v : Value} {T size n : Nat} {c : Nat → List AV} (hm : HE.row v T size n c ∈ s.heap) (k : v.oneCell' = true → AOps P w0 ops s l Q) : AOps P w0 ops s l Q :=
  ⟨fun a w hs => (k (row_one (hs.heap.get _ hm))).out a w hs⟩
end


/-- A value that stands for A, handed to a callee that enters now, stands for B. -/
structure Cv (s : AS) (A B : AV) : Prop where
  out : ∀ w0 a w v, Sat w0 s a w → A.R w0 v → B.R w v
theorem Cv.same {s : AS} {A : AV} : Cv s A A := ⟨fun w0 a w v hs h => A.mono hs.below h⟩
theorem Cv.box {s : AS} {b i : Nat} {l : List AV} (hm : HE.cells b l ∈ s.heap) : Cv s (ptr b i) (rp l i) := ⟨fun w0 a w v hs e => by
  obtain rfl : v = _ := e
  obtain ⟨cs, T, h1, h2, h3⟩ := hs.heap.get _ hm
  refine ⟨b, 0, by simp, (hs.heap.foot _ hm b rfl).2, fun j A hj => ?_⟩
  obtain ⟨u, hu, hr⟩ := h2.get hj
  refine ⟨u, ?_, A.mono hs.below hr, h3 u (List.mem_of_getElem? hu)⟩
  rw [Nat.zero_add, cell_of_row w b j cs T (0, 0) h1, ← Array.getElem?_toList]
  exact hu⟩
theorem Cv.row {s : AS} {v : Value} {T size n : Nat} {c : Nat → List AV} (hm : HE.row v T size n c ∈ s.heap) : Cv s (vv v) (rs size n c) := ⟨fun w0 a w u hs e => row_now hs hm e⟩
inductive Cvs (s : AS) : List AV → List AV → Prop where
  | nil : Cvs s [] []
  | cons {A B l l'} (h : Cv s A B) (k : Cvs s l l') : Cvs s (A :: l) (B :: l')
theorem Cvs.refl {s : AS} : ∀ {l : List AV}, Cvs s l l
  | [] => .nil
  | _ :: _ => .cons Cv.same Cvs.refl
theorem Cvs.all {s : AS} {w0 w : World} {a : Act} (hs : Sat w0 s a w) {l l' : List AV} (h : Cvs s l l') : ∀ {us : List Value}, All w0 l us → All w l' us := by
  induction h with
  | nil => intro us h; cases us with
    | nil => trivial
    | cons => exact h.elim
  | cons h _ ih => intro us hu; cases us with
    | nil => exact hu.elim
    | cons u us => exact ⟨h.out w0 a w u hs hu.1, ih hu.2⟩
/-- A closure handed on. -/
theorem Giv.clo {s : AS} {x : Operand} {f : FuncId} {l l' : List AV} (h : Opd s x (Go.Proofs.Ytjkpnnbahhlopaa.clo f l)) (k : Cvs s l l') : Giv s x (Go.Proofs.Ytjkpnnbahhlopaa.clo f l') := fun w0 a w hs => by
  obtain ⟨cs, e, hc⟩ := h w0 a w hs
  exact ⟨cs, e, k.all hs hc⟩
/-- A value whose memory is new between two worlds. -/
structure Fresh (wa w1 : World) (v : Value) (A : AV) : Prop where
  out : ∀ w2 : World, w1.heap.size ≤ w2.heap.size → (∀ g, wa.heap.size ≤ g → g < w1.heap.size → w2.heap[g]? = w1.heap[g]?) → A.R w2 v
def Span (wa w1 : World) (g : Nat) : Prop := wa.heap.size ≤ g ∧ g < w1.heap.size
theorem Giv.fresh {s : AS} {x : Operand} {v : Value} {A : AV} {wa w1 : World} (h : Opd s x (vv v)) (hf : Fresh wa w1 v A) (hm : HE.fr w1 (Span wa w1) ∈ s.heap) : Giv s x A := fun w0 a w hs => by
  obtain rfl : a.eval x = v := h w0 a w hs
  obtain ⟨h1, h2⟩ := hs.heap.get _ hm
  exact hf.out w h1 fun g h3 h4 => h2 g ⟨h3, h4⟩
section
variable {P : Program} {w0 : World} {ops : Array Oper} {nt : Nat} {env : List (Nat × AV)} {H : List HE} {rest : List Oper} {Q : Exit → Act → World → Prop} {ty : TypeId} {pos : String} {after : Array Edge}
end
section
variable {P : Program}
end
section
variable {P : Program} {nt : Nat} {env : List (Nat × AV)} {H : List HE} {ops : Array Oper} {rest : List Oper} {ty : TypeId} {pos : String} {after : Array Edge} {ns : NS} {K : AS → NS → Prop}
end
section
variable {P : Program} {s : AS} {o : Oper}
theorem ld_Mesh {M : MH} {A : AV} {t : TypeId} {xo : Operand} {bb i : Nat} {l : List AV} (ho : o.op = .load t xo) (hx : Opd s xo (ptr bb i)) (ht : TyA P t 8) (hm : HE.cells bb l ∈ s.heap) (hl : (l.drop i).take 8 = [fl .f32 M.F.x, fl .f32 M.F.y, fl .f32 M.F.z, fl .f32 M.S, vv (.int .i64 M.a), vv (.int .i64 M.b), vv (.int .i64 M.c), A]) : Ev P s o (mesh M A) := ev_loadA ho hx ht hm hl rfl
theorem ldR_Mesh {M : MH} {A : AV} {t : TypeId} {xo : Operand} {i : Nat} {l : List AV} (ho : o.op = .load t xo) (hx : Opd s xo (rp l i)) (ht : TyA P t 8) (hl : (l.drop i).take 8 = [fl .f32 M.F.x, fl .f32 M.F.y, fl .f32 M.F.z, fl .f32 M.S, vv (.int .i64 M.a), vv (.int .i64 M.b), vv (.int .i64 M.c), A]) : Ev P s o (mesh M A) := ev_loadRA ho hx ht hl rfl
theorem bd_Mesh {M : MH} {A : AV} {t : TypeId} {parts : List (Nat × Operand)} {pl : List (Nat × List AV)} {zl : List AV} {places : List (Nat × Nat)} (ho : o.op = .build t parts.toArray) (ht : TyB P t zl places) (hp : Parts s parts pl) (hf : fillA (places[·]?) pl zl = some [fl .f32 M.F.x, fl .f32 M.F.y, fl .f32 M.F.z, fl .f32 M.S, vv (.int .i64 M.a), vv (.int .i64 M.b), vv (.int .i64 M.c), A]) : Ev P s o (mesh M A) := ev_build ho ht hp hf
theorem ld_Mesh3 {x y z S : Nat} {a b c : Int} {A : AV} {t : TypeId} {xo : Operand} {bb i : Nat} {l : List AV} (ho : o.op = .load t xo) (hx : Opd s xo (ptr bb i)) (ht : TyA P t 8) (hm : HE.cells bb l ∈ s.heap) (hl : (l.drop i).take 8 = [fl .f32 x, fl .f32 y, fl .f32 z, fl .f32 S, vv (.int .i64 a), vv (.int .i64 b), vv (.int .i64 c), A]) : Ev P s o (mesh ⟨⟨x, y, z⟩, S, a, b, c⟩ A) := ev_loadA ho hx ht hm hl rfl
theorem ldR_Mesh3 {x y z S : Nat} {a b c : Int} {A : AV} {t : TypeId} {xo : Operand} {i : Nat} {l : List AV} (ho : o.op = .load t xo) (hx : Opd s xo (rp l i)) (ht : TyA P t 8) (hl : (l.drop i).take 8 = [fl .f32 x, fl .f32 y, fl .f32 z, fl .f32 S, vv (.int .i64 a), vv (.int .i64 b), vv (.int .i64 c), A]) : Ev P s o (mesh ⟨⟨x, y, z⟩, S, a, b, c⟩ A) := ev_loadRA ho hx ht hl rfl
theorem bd_Mesh3 {x y z S : Nat} {a b c : Int} {A : AV} {t : TypeId} {parts : List (Nat × Operand)} {pl : List (Nat × List AV)} {zl : List AV} {places : List (Nat × Nat)} (ho : o.op = .build t parts.toArray) (ht : TyB P t zl places) (hp : Parts s parts pl) (hf : fillA (places[·]?) pl zl = some [fl .f32 x, fl .f32 y, fl .f32 z, fl .f32 S, vv (.int .i64 a), vv (.int .i64 b), vv (.int .i64 c), A]) : Ev P s o (mesh ⟨⟨x, y, z⟩, S, a, b, c⟩ A) := ev_build ho ht hp hf
end
theorem tyA_Mesh : TyA Try.prog 37 8 := TyA.mk Try.underlying37 rfl (by kernel_rfl)
theorem sz_Mesh : (Try.prog.info? 37).map (·.size) = some 8 := by kernel_rfl
theorem tyZ_Mesh : TyZ Try.prog 37 [fl .f32 0, fl .f32 0, fl .f32 0, fl .f32 0, vv (.int .i64 0), vv (.int .i64 0), vv (.int .i64 0), vv (.slice none 0 0)] := TyZ.mk (z := .agg #[.float .f32 0, .float .f32 0, .float .f32 0, .float .f32 0, .int .i64 0, .int .i64 0, .int .i64 0, .slice none 0 0]) (by kernel_rfl) (fun w => ⟨⟨⟨0, rfl, Fb_zero⟩, ⟨0, rfl, Fb_zero⟩, ⟨0, rfl, Fb_zero⟩, ⟨0, rfl, Fb_zero⟩, rfl, rfl, rfl, rfl, trivial⟩, by simp [Value.cells, Value.oneCell']⟩)
theorem tyF_Mesh_From : TyF Try.prog 37 0 0 := TyF.mk Try.underlying37 rfl rfl (m := 3) (by kernel_rfl) (by decide)
theorem tyF_Mesh_Step : TyF Try.prog 37 1 3 := TyF.mk Try.underlying37 rfl rfl (m := 1) (by kernel_rfl) (by decide)
theorem tyF_Mesh_Wide : TyF Try.prog 37 2 4 := TyF.mk Try.underlying37 rfl rfl (m := 1) (by kernel_rfl) (by decide)
theorem tyF_Mesh_High : TyF Try.prog 37 3 5 := TyF.mk Try.underlying37 rfl rfl (m := 1) (by kernel_rfl) (by decide)
theorem tyF_Mesh_Deep : TyF Try.prog 37 4 6 := TyF.mk Try.underlying37 rfl rfl (m := 1) (by kernel_rfl) (by decide)
theorem tyF_Mesh_Values : TyF Try.prog 37 5 7 := TyF.mk Try.underlying37 rfl rfl (m := 1) (by kernel_rfl) (by decide)
theorem tyB_Mesh : TyB Try.prog 37 [fl .f32 0, fl .f32 0, fl .f32 0, fl .f32 0, vv (.int .i64 0), vv (.int .i64 0), vv (.int .i64 0), vv (.slice none 0 0)] [(0, 3), (3, 1), (4, 1), (5, 1), (6, 1), (7, 1)] := TyB.mk Try.underlying37 (z := .agg #[.float .f32 0, .float .f32 0, .float .f32 0, .float .f32 0, .int .i64 0, .int .i64 0, .int .i64 0, .slice none 0 0]) (by kernel_rfl) (by kernel_rfl) (fun w => ⟨⟨⟨0, rfl, Fb_zero⟩, ⟨0, rfl, Fb_zero⟩, ⟨0, rfl, Fb_zero⟩, ⟨0, rfl, Fb_zero⟩, rfl, rfl, rfl, rfl, trivial⟩, by simp [Value.cells, Value.oneCell']⟩)
theorem tyA_LawsMesh : TyA Try.prog 33 8 := TyA.mk Try.underlying33 rfl (by kernel_rfl)
theorem sz_LawsMesh : (Try.prog.info? 33).map (·.size) = some 8 := by kernel_rfl
theorem tyZ_LawsMesh : TyZ Try.prog 33 [fl .f32 0, fl .f32 0, fl .f32 0, fl .f32 0, vv (.int .i64 0), vv (.int .i64 0), vv (.int .i64 0), vv (.slice none 0 0)] := TyZ.mk (z := .agg #[.float .f32 0, .float .f32 0, .float .f32 0, .float .f32 0, .int .i64 0, .int .i64 0, .int .i64 0, .slice none 0 0]) (by kernel_rfl) (fun w => ⟨⟨⟨0, rfl, Fb_zero⟩, ⟨0, rfl, Fb_zero⟩, ⟨0, rfl, Fb_zero⟩, ⟨0, rfl, Fb_zero⟩, rfl, rfl, rfl, rfl, trivial⟩, by simp [Value.cells, Value.oneCell']⟩)
theorem tyF_LawsMesh_From : TyF Try.prog 33 0 0 := TyF.mk Try.underlying33 rfl rfl (m := 3) (by kernel_rfl) (by decide)
theorem tyF_LawsMesh_Step : TyF Try.prog 33 1 3 := TyF.mk Try.underlying33 rfl rfl (m := 1) (by kernel_rfl) (by decide)
theorem tyF_LawsMesh_Wide : TyF Try.prog 33 2 4 := TyF.mk Try.underlying33 rfl rfl (m := 1) (by kernel_rfl) (by decide)
theorem tyF_LawsMesh_High : TyF Try.prog 33 3 5 := TyF.mk Try.underlying33 rfl rfl (m := 1) (by kernel_rfl) (by decide)
theorem tyF_LawsMesh_Deep : TyF Try.prog 33 4 6 := TyF.mk Try.underlying33 rfl rfl (m := 1) (by kernel_rfl) (by decide)
theorem tyF_LawsMesh_Values : TyF Try.prog 33 5 7 := TyF.mk Try.underlying33 rfl rfl (m := 1) (by kernel_rfl) (by decide)
theorem tyB_LawsMesh : TyB Try.prog 33 [fl .f32 0, fl .f32 0, fl .f32 0, fl .f32 0, vv (.int .i64 0), vv (.int .i64 0), vv (.int .i64 0), vv (.slice none 0 0)] [(0, 3), (3, 1), (4, 1), (5, 1), (6, 1), (7, 1)] := TyB.mk Try.underlying33 (z := .agg #[.float .f32 0, .float .f32 0, .float .f32 0, .float .f32 0, .int .i64 0, .int .i64 0, .int .i64 0, .slice none 0 0]) (by kernel_rfl) (by kernel_rfl) (fun w => ⟨⟨⟨0, rfl, Fb_zero⟩, ⟨0, rfl, Fb_zero⟩, ⟨0, rfl, Fb_zero⟩, ⟨0, rfl, Fb_zero⟩, rfl, rfl, rfl, rfl, trivial⟩, by simp [Value.cells, Value.oneCell']⟩)
theorem tyP_sVector : TyP Try.prog 35 := TyP.mk Try.underlying35 rfl (by kernel_rfl)
theorem sz_sVector : (Try.prog.info? 35).map (·.size) = some 1 := by kernel_rfl
theorem tyP_sLawsVector : TyP Try.prog 31 := TyP.mk Try.underlying31 rfl (by kernel_rfl)
theorem sz_sLawsVector : (Try.prog.info? 31).map (·.size) = some 1 := by kernel_rfl
end Go.Proofs.Ytjkpnnbahhlopaa
