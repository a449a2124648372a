/-
  The base texts, joined. Conditions: none.
-/
import Derived.Test.YtejpamlaacffaaaBA
import Derived.Test.YtejpamlaacffaaaRows
import Derived.Laws.AppendOwnNone
import Derived.Laws.StructEq
/-
  The types of the program: sizes, places, zeros. Conditions: none.
-/
namespace Go.Proofs.Ytejpamlaacffaaa
open Go Go.RowKit

section
variable {P : Program} {w0 : World} {ops : Array Oper} {s : AS} {rest : List Oper} {Q : Exit → Act → World → Prop} {ty : TypeId} {pos : String} {after : Array Edge} {d : Option Tmp} {ns : Option (Nat × List AV)} {K : AS → Option (Nat × List AV) → Prop}
theorem gA_move {x : Operand} (h : AOps P w0 ops s (⟨d, .move x, ty, pos, after, none⟩ :: rest) Q) : AOps P w0 ops s (⟨d, .move x, ty, pos, after, none⟩ :: rest) Q := h
theorem gA_assign {x : Operand} (h : AOps P w0 ops s (⟨d, .assign x, ty, pos, after, none⟩ :: rest) Q) : AOps P w0 ops s (⟨d, .assign x, ty, pos, after, none⟩ :: rest) Q := h
theorem gA_pick {x y z : Operand} (h : AOps P w0 ops s (⟨d, .pick x y z, ty, pos, after, none⟩ :: rest) Q) : AOps P w0 ops s (⟨d, .pick x y z, ty, pos, after, none⟩ :: rest) Q := h
theorem gA_load {t : TypeId} {x : Operand} (h : AOps P w0 ops s (⟨d, .load t x, ty, pos, after, none⟩ :: rest) Q) : AOps P w0 ops s (⟨d, .load t x, ty, pos, after, none⟩ :: rest) Q := h
theorem gA_store {t : TypeId} {x y : Operand} (h : AOps P w0 ops s (⟨d, .store t x y, ty, pos, after, none⟩ :: rest) Q) : AOps P w0 ops s (⟨d, .store t x y, ty, pos, after, none⟩ :: rest) Q := h
theorem gA_field {t : TypeId} {x : Operand} {j : Nat} (h : AOps P w0 ops s (⟨d, .fieldAddr t x j, ty, pos, after, none⟩ :: rest) Q) : AOps P w0 ops s (⟨d, .fieldAddr t x j, ty, pos, after, none⟩ :: rest) Q := h
theorem gA_index {t : TypeId} {x y : Operand} (h : AOps P w0 ops s (⟨d, .indexAddr t x y, ty, pos, after, none⟩ :: rest) Q) : AOps P w0 ops s (⟨d, .indexAddr t x y, ty, pos, after, none⟩ :: rest) Q := h
theorem gA_bin {b : BinOp} {t t2 : TypeId} {x y : Operand} (h : AOps P w0 ops s (⟨d, .binOp b t x y t2, ty, pos, after, none⟩ :: rest) Q) : AOps P w0 ops s (⟨d, .binOp b t x y t2, ty, pos, after, none⟩ :: rest) Q := h
theorem gA_un {b : UnOp} {t : TypeId} {x : Operand} (h : AOps P w0 ops s (⟨d, .unOp b t x, ty, pos, after, none⟩ :: rest) Q) : AOps P w0 ops s (⟨d, .unOp b t x, ty, pos, after, none⟩ :: rest) Q := h
theorem gA_conv {t t2 : TypeId} {x : Operand} (h : AOps P w0 ops s (⟨d, .convert t t2 x, ty, pos, after, none⟩ :: rest) Q) : AOps P w0 ops s (⟨d, .convert t t2 x, ty, pos, after, none⟩ :: rest) Q := h
theorem gA_callf {x : Operand} {xs : Array Operand} {ts : Array TypeId} (h : AOps P w0 ops s (⟨d, .call ⟨.value x, xs, ts⟩, ty, pos, after, none⟩ :: rest) Q) : AOps P w0 ops s (⟨d, .call ⟨.value x, xs, ts⟩, ty, pos, after, none⟩ :: rest) Q := h
theorem gA_callb {b : Builtin} {xs : Array Operand} {ts : Array TypeId} (h : AOps P w0 ops s (⟨d, .call ⟨.builtin b, xs, ts⟩, ty, pos, after, none⟩ :: rest) Q) : AOps P w0 ops s (⟨d, .call ⟨.builtin b, xs, ts⟩, ty, pos, after, none⟩ :: rest) Q := h
theorem gA_build {t : TypeId} {ps : Array (Nat × Operand)} (h : AOps P w0 ops s (⟨d, .build t ps, ty, pos, after, none⟩ :: rest) Q) : AOps P w0 ops s (⟨d, .build t ps, ty, pos, after, none⟩ :: rest) Q := h
theorem gA_bslice {t n : Nat} {ps : Array (Nat × Operand)} (h : AOps P w0 ops s (⟨d, .buildSlice t n ps, ty, pos, after, none⟩ :: rest) Q) : AOps P w0 ops s (⟨d, .buildSlice t n ps, ty, pos, after, none⟩ :: rest) Q := h
theorem gA_alloc {t : TypeId} (h : AOps P w0 ops s (⟨d, .alloc t, ty, pos, after, none⟩ :: rest) Q) : AOps P w0 ops s (⟨d, .alloc t, ty, pos, after, none⟩ :: rest) Q := h
theorem gA_box {t : TypeId} {x : Operand} (h : AOps P w0 ops s (⟨d, .box t x, ty, pos, after, none⟩ :: rest) Q) : AOps P w0 ops s (⟨d, .box t x, ty, pos, after, none⟩ :: rest) Q := h
theorem gA_ext {x : Operand} {j : Nat} (h : AOps P w0 ops s (⟨d, .extract x j, ty, pos, after, none⟩ :: rest) Q) : AOps P w0 ops s (⟨d, .extract x j, ty, pos, after, none⟩ :: rest) Q := h
theorem gA_func {fn : Fn} {xs ys : Array Operand} (h : AOps P w0 ops s (⟨d, .makeFunc fn xs ys, ty, pos, after, none⟩ :: rest) Q) : AOps P w0 ops s (⟨d, .makeFunc fn xs ys, ty, pos, after, none⟩ :: rest) Q := h
theorem gA_slice {t : TypeId} {x : Operand} {l hi mx : Option Operand} (h : AOps P w0 ops s (⟨d, .slice t x l hi mx, ty, pos, after, none⟩ :: rest) Q) : AOps P w0 ops s (⟨d, .slice t x l hi mx, ty, pos, after, none⟩ :: rest) Q := h
theorem gA_nilc {x : Operand} (h : AOps P w0 ops s (⟨d, .nilCheck x, ty, pos, after, none⟩ :: rest) Q) : AOps P w0 ops s (⟨d, .nilCheck x, ty, pos, after, none⟩ :: rest) Q := h
theorem gA_gd {op : Op} {g : Nat × Bool} (h : AOps P w0 ops s (⟨d, op, ty, pos, after, some g⟩ :: rest) Q) : AOps P w0 ops s (⟨d, op, ty, pos, after, some g⟩ :: rest) Q := h
theorem gA_app {xs : Array Operand} {ts : Array TypeId} (h : AOps P w0 ops s (⟨d, .call ⟨.builtin .append, xs, ts⟩, ty, pos, after, none⟩ :: rest) Q) : AOps P w0 ops s (⟨d, .call ⟨.builtin .append, xs, ts⟩, ty, pos, after, none⟩ :: rest) Q := h
theorem gA {l : List Oper} (h : AOps P w0 ops s l Q) : AOps P w0 ops s l Q := h
theorem gR {l : List Oper} {j1 : Nat} (h : ADrop P w0 ops s j1 l Q) : ADrop P w0 ops s j1 l Q := h
theorem gW {c : Code} (h : AWp P w0 s c Q) : AWp P w0 s c Q := h
theorem gX {e : Exit} (h : AEx w0 s e Q) : AEx w0 s e Q := h
end

section
variable {P : Program} {s : AS} {o : Oper}
theorem ld_Vector {A : V3} {t : TypeId} {xo : Operand} {b i : Nat} {l : List AV} (ho : o.op = .load t xo) (hx : Opd s xo (ptr b i)) (ht : TyA P t 3) (hm : HE.cells b l ∈ s.heap) (hl : (l.drop i).take 3 = [fl .f32 A.x, fl .f32 A.y, fl .f32 A.z]) : Ev P s o (vec A) := ev_loadA ho hx ht hm hl rfl
theorem ldR_Vector {A : V3} {t : TypeId} {xo : Operand} {i : Nat} {l : List AV} (ho : o.op = .load t xo) (hx : Opd s xo (rp l i)) (ht : TyA P t 3) (hl : (l.drop i).take 3 = [fl .f32 A.x, fl .f32 A.y, fl .f32 A.z]) : Ev P s o (vec A) := ev_loadRA ho hx ht hl rfl
theorem bd_Vector {A : V3} {t : TypeId} {parts : List (Nat × Operand)} {pl : List (Nat × List AV)} {zl : List AV} {places : List (Nat × Nat)} (ho : o.op = .build t parts.toArray) (ht : TyB P t zl places) (hp : Parts s parts pl) (hf : fillA (places[·]?) pl zl = some [fl .f32 A.x, fl .f32 A.y, fl .f32 A.z]) : Ev P s o (vec A) := ev_build ho ht hp hf
theorem ld_Vector3 {x y z : Nat} {t : TypeId} {xo : Operand} {b i : Nat} {l : List AV} (ho : o.op = .load t xo) (hx : Opd s xo (ptr b i)) (ht : TyA P t 3) (hm : HE.cells b l ∈ s.heap) (hl : (l.drop i).take 3 = [fl .f32 x, fl .f32 y, fl .f32 z]) : Ev P s o (vec ⟨x, y, z⟩) := ev_loadA ho hx ht hm hl rfl
theorem ldR_Vector3 {x y z : Nat} {t : TypeId} {xo : Operand} {i : Nat} {l : List AV} (ho : o.op = .load t xo) (hx : Opd s xo (rp l i)) (ht : TyA P t 3) (hl : (l.drop i).take 3 = [fl .f32 x, fl .f32 y, fl .f32 z]) : Ev P s o (vec ⟨x, y, z⟩) := ev_loadRA ho hx ht hl rfl
theorem bd_Vector3 {x y z : Nat} {t : TypeId} {parts : List (Nat × Operand)} {pl : List (Nat × List AV)} {zl : List AV} {places : List (Nat × Nat)} (ho : o.op = .build t parts.toArray) (ht : TyB P t zl places) (hp : Parts s parts pl) (hf : fillA (places[·]?) pl zl = some [fl .f32 x, fl .f32 y, fl .f32 z]) : Ev P s o (vec ⟨x, y, z⟩) := ev_build ho ht hp hf
theorem ld_Pole {A : V3} {S : Nat} {t : TypeId} {xo : Operand} {b i : Nat} {l : List AV} (ho : o.op = .load t xo) (hx : Opd s xo (ptr b i)) (ht : TyA P t 4) (hm : HE.cells b l ∈ s.heap) (hl : (l.drop i).take 4 = [fl .f32 A.x, fl .f32 A.y, fl .f32 A.z, fl .f32 S]) : Ev P s o (pole A S) := ev_loadA ho hx ht hm hl rfl
theorem ldR_Pole {A : V3} {S : Nat} {t : TypeId} {xo : Operand} {i : Nat} {l : List AV} (ho : o.op = .load t xo) (hx : Opd s xo (rp l i)) (ht : TyA P t 4) (hl : (l.drop i).take 4 = [fl .f32 A.x, fl .f32 A.y, fl .f32 A.z, fl .f32 S]) : Ev P s o (pole A S) := ev_loadRA ho hx ht hl rfl
theorem bd_Pole {A : V3} {S : Nat} {t : TypeId} {parts : List (Nat × Operand)} {pl : List (Nat × List AV)} {zl : List AV} {places : List (Nat × Nat)} (ho : o.op = .build t parts.toArray) (ht : TyB P t zl places) (hp : Parts s parts pl) (hf : fillA (places[·]?) pl zl = some [fl .f32 A.x, fl .f32 A.y, fl .f32 A.z, fl .f32 S]) : Ev P s o (pole A S) := ev_build ho ht hp hf
theorem ld_Pole3 {x y z S : Nat} {t : TypeId} {xo : Operand} {b i : Nat} {l : List AV} (ho : o.op = .load t xo) (hx : Opd s xo (ptr b i)) (ht : TyA P t 4) (hm : HE.cells b l ∈ s.heap) (hl : (l.drop i).take 4 = [fl .f32 x, fl .f32 y, fl .f32 z, fl .f32 S]) : Ev P s o (pole ⟨x, y, z⟩ S) := ev_loadA ho hx ht hm hl rfl
theorem ldR_Pole3 {x y z S : Nat} {t : TypeId} {xo : Operand} {i : Nat} {l : List AV} (ho : o.op = .load t xo) (hx : Opd s xo (rp l i)) (ht : TyA P t 4) (hl : (l.drop i).take 4 = [fl .f32 x, fl .f32 y, fl .f32 z, fl .f32 S]) : Ev P s o (pole ⟨x, y, z⟩ S) := ev_loadRA ho hx ht hl rfl
theorem bd_Pole3 {x y z S : Nat} {t : TypeId} {parts : List (Nat × Operand)} {pl : List (Nat × List AV)} {zl : List AV} {places : List (Nat × Nat)} (ho : o.op = .build t parts.toArray) (ht : TyB P t zl places) (hp : Parts s parts pl) (hf : fillA (places[·]?) pl zl = some [fl .f32 x, fl .f32 y, fl .f32 z, fl .f32 S]) : Ev P s o (pole ⟨x, y, z⟩ S) := ev_build ho ht hp hf
theorem ld_Dipole {A M : V3} {t : TypeId} {xo : Operand} {b i : Nat} {l : List AV} (ho : o.op = .load t xo) (hx : Opd s xo (ptr b i)) (ht : TyA P t 6) (hm : HE.cells b l ∈ s.heap) (hl : (l.drop i).take 6 = [fl .f32 A.x, fl .f32 A.y, fl .f32 A.z, fl .f32 M.x, fl .f32 M.y, fl .f32 M.z]) : Ev P s o (dip A M) := ev_loadA ho hx ht hm hl rfl
theorem ldR_Dipole {A M : V3} {t : TypeId} {xo : Operand} {i : Nat} {l : List AV} (ho : o.op = .load t xo) (hx : Opd s xo (rp l i)) (ht : TyA P t 6) (hl : (l.drop i).take 6 = [fl .f32 A.x, fl .f32 A.y, fl .f32 A.z, fl .f32 M.x, fl .f32 M.y, fl .f32 M.z]) : Ev P s o (dip A M) := ev_loadRA ho hx ht hl rfl
theorem bd_Dipole {A M : V3} {t : TypeId} {parts : List (Nat × Operand)} {pl : List (Nat × List AV)} {zl : List AV} {places : List (Nat × Nat)} (ho : o.op = .build t parts.toArray) (ht : TyB P t zl places) (hp : Parts s parts pl) (hf : fillA (places[·]?) pl zl = some [fl .f32 A.x, fl .f32 A.y, fl .f32 A.z, fl .f32 M.x, fl .f32 M.y, fl .f32 M.z]) : Ev P s o (dip A M) := ev_build ho ht hp hf
theorem ld_Dipole3 {x y z p q r : Nat} {t : TypeId} {xo : Operand} {b i : Nat} {l : List AV} (ho : o.op = .load t xo) (hx : Opd s xo (ptr b i)) (ht : TyA P t 6) (hm : HE.cells b l ∈ s.heap) (hl : (l.drop i).take 6 = [fl .f32 x, fl .f32 y, fl .f32 z, fl .f32 p, fl .f32 q, fl .f32 r]) : Ev P s o (dip ⟨x, y, z⟩ ⟨p, q, r⟩) := ev_loadA ho hx ht hm hl rfl
theorem ldR_Dipole3 {x y z p q r : Nat} {t : TypeId} {xo : Operand} {i : Nat} {l : List AV} (ho : o.op = .load t xo) (hx : Opd s xo (rp l i)) (ht : TyA P t 6) (hl : (l.drop i).take 6 = [fl .f32 x, fl .f32 y, fl .f32 z, fl .f32 p, fl .f32 q, fl .f32 r]) : Ev P s o (dip ⟨x, y, z⟩ ⟨p, q, r⟩) := ev_loadRA ho hx ht hl rfl
theorem bd_Dipole3 {x y z p q r : Nat} {t : TypeId} {parts : List (Nat × Operand)} {pl : List (Nat × List AV)} {zl : List AV} {places : List (Nat × Nat)} (ho : o.op = .build t parts.toArray) (ht : TyB P t zl places) (hp : Parts s parts pl) (hf : fillA (places[·]?) pl zl = some [fl .f32 x, fl .f32 y, fl .f32 z, fl .f32 p, fl .f32 q, fl .f32 r]) : Ev P s o (dip ⟨x, y, z⟩ ⟨p, q, r⟩) := ev_build ho ht hp hf
end

theorem tyA_Vector : TyA Try.prog 26 3 := TyA.mk Try.underlying26 rfl (by kernel_rfl)
theorem sz_Vector : (Try.prog.info? 26).map (·.size) = some 3 := by kernel_rfl
theorem tyZ_Vector : TyZ Try.prog 26 [fl .f32 0, fl .f32 0, fl .f32 0] := TyZ.mk (z := .agg #[.float .f32 0, .float .f32 0, .float .f32 0]) (by kernel_rfl) (fun w => ⟨⟨⟨0, rfl, Fb_zero⟩, ⟨0, rfl, Fb_zero⟩, ⟨0, rfl, Fb_zero⟩, trivial⟩, by simp [Value.cells, Value.oneCell']⟩)
theorem tyF_Vector_X : TyF Try.prog 26 0 0 := TyF.mk Try.underlying26 rfl rfl (m := 1) (by kernel_rfl) (by decide)
theorem tyF_Vector_Y : TyF Try.prog 26 1 1 := TyF.mk Try.underlying26 rfl rfl (m := 1) (by kernel_rfl) (by decide)
theorem tyF_Vector_Z : TyF Try.prog 26 2 2 := TyF.mk Try.underlying26 rfl rfl (m := 1) (by kernel_rfl) (by decide)
theorem tyB_Vector : TyB Try.prog 26 [fl .f32 0, fl .f32 0, fl .f32 0] [(0, 1), (1, 1), (2, 1)] := TyB.mk Try.underlying26 (z := .agg #[.float .f32 0, .float .f32 0, .float .f32 0]) (by kernel_rfl) (by kernel_rfl) (fun w => ⟨⟨⟨0, rfl, Fb_zero⟩, ⟨0, rfl, Fb_zero⟩, ⟨0, rfl, Fb_zero⟩, trivial⟩, by simp [Value.cells, Value.oneCell']⟩)
theorem tyS_Vector : TyS Try.prog 46 26 3 := TyS.mk Try.underlying46 (by kernel_rfl)
theorem tyE_Vector : TyE Try.prog 46 26 3 12 := TyE.mk (z := .agg #[.float .f32 0, .float .f32 0, .float .f32 0]) Try.underlying46 (by kernel_rfl) rfl (by decide) (by decide) (by decide) (by simp [Value.cells, Value.oneCell'])
theorem tyA_Dipole : TyA Try.prog 33 6 := TyA.mk Try.underlying33 rfl (by kernel_rfl)
theorem sz_Dipole : (Try.prog.info? 33).map (·.size) = some 6 := by kernel_rfl
theorem tyZ_Dipole : TyZ Try.prog 33 [fl .f32 0, fl .f32 0, fl .f32 0, fl .f32 0, fl .f32 0, fl .f32 0] := TyZ.mk (z := .agg #[.float .f32 0, .float .f32 0, .float .f32 0, .float .f32 0, .float .f32 0, .float .f32 0]) (by kernel_rfl) (fun w => ⟨⟨⟨0, rfl, Fb_zero⟩, ⟨0, rfl, Fb_zero⟩, ⟨0, rfl, Fb_zero⟩, ⟨0, rfl, Fb_zero⟩, ⟨0, rfl, Fb_zero⟩, ⟨0, rfl, Fb_zero⟩, trivial⟩, by simp [Value.cells, Value.oneCell']⟩)
theorem tyF_Dipole_At : TyF Try.prog 33 0 0 := TyF.mk Try.underlying33 rfl rfl (m := 3) (by kernel_rfl) (by decide)
theorem tyF_Dipole_Moment : TyF Try.prog 33 1 3 := TyF.mk Try.underlying33 rfl rfl (m := 3) (by kernel_rfl) (by decide)
theorem tyB_Dipole : TyB Try.prog 33 [fl .f32 0, fl .f32 0, fl .f32 0, fl .f32 0, fl .f32 0, fl .f32 0] [(0, 3), (3, 3)] := TyB.mk Try.underlying33 (z := .agg #[.float .f32 0, .float .f32 0, .float .f32 0, .float .f32 0, .float .f32 0, .float .f32 0]) (by kernel_rfl) (by kernel_rfl) (fun w => ⟨⟨⟨0, rfl, Fb_zero⟩, ⟨0, rfl, Fb_zero⟩, ⟨0, rfl, Fb_zero⟩, ⟨0, rfl, Fb_zero⟩, ⟨0, rfl, Fb_zero⟩, ⟨0, rfl, Fb_zero⟩, trivial⟩, by simp [Value.cells, Value.oneCell']⟩)
theorem tyA_Pole : TyA Try.prog 55 4 := TyA.mk Try.underlying55 rfl (by kernel_rfl)
theorem sz_Pole : (Try.prog.info? 55).map (·.size) = some 4 := by kernel_rfl
theorem tyZ_Pole : TyZ Try.prog 55 [fl .f32 0, fl .f32 0, fl .f32 0, fl .f32 0] := TyZ.mk (z := .agg #[.float .f32 0, .float .f32 0, .float .f32 0, .float .f32 0]) (by kernel_rfl) (fun w => ⟨⟨⟨0, rfl, Fb_zero⟩, ⟨0, rfl, Fb_zero⟩, ⟨0, rfl, Fb_zero⟩, ⟨0, rfl, Fb_zero⟩, trivial⟩, by simp [Value.cells, Value.oneCell']⟩)
theorem tyF_Pole_At : TyF Try.prog 55 0 0 := TyF.mk Try.underlying55 rfl rfl (m := 3) (by kernel_rfl) (by decide)
theorem tyF_Pole_Strength : TyF Try.prog 55 1 3 := TyF.mk Try.underlying55 rfl rfl (m := 1) (by kernel_rfl) (by decide)
theorem tyB_Pole : TyB Try.prog 55 [fl .f32 0, fl .f32 0, fl .f32 0, fl .f32 0] [(0, 3), (3, 1)] := TyB.mk Try.underlying55 (z := .agg #[.float .f32 0, .float .f32 0, .float .f32 0, .float .f32 0]) (by kernel_rfl) (by kernel_rfl) (fun w => ⟨⟨⟨0, rfl, Fb_zero⟩, ⟨0, rfl, Fb_zero⟩, ⟨0, rfl, Fb_zero⟩, ⟨0, rfl, Fb_zero⟩, trivial⟩, by simp [Value.cells, Value.oneCell']⟩)
theorem tyS_Pole : TyS Try.prog 28 55 4 := TyS.mk Try.underlying28 (by kernel_rfl)
theorem tyE_Pole : TyE Try.prog 28 55 4 16 := TyE.mk (z := .agg #[.float .f32 0, .float .f32 0, .float .f32 0, .float .f32 0]) Try.underlying28 (by kernel_rfl) rfl (by decide) (by decide) (by decide) (by simp [Value.cells, Value.oneCell'])
theorem tyA_LawsVector : TyA Try.prog 78 3 := TyA.mk Try.underlying78 rfl (by kernel_rfl)
theorem sz_LawsVector : (Try.prog.info? 78).map (·.size) = some 3 := by kernel_rfl
theorem tyZ_LawsVector : TyZ Try.prog 78 [fl .f32 0, fl .f32 0, fl .f32 0] := TyZ.mk (z := .agg #[.float .f32 0, .float .f32 0, .float .f32 0]) (by kernel_rfl) (fun w => ⟨⟨⟨0, rfl, Fb_zero⟩, ⟨0, rfl, Fb_zero⟩, ⟨0, rfl, Fb_zero⟩, trivial⟩, by simp [Value.cells, Value.oneCell']⟩)
theorem tyF_LawsVector_X : TyF Try.prog 78 0 0 := TyF.mk Try.underlying78 rfl rfl (m := 1) (by kernel_rfl) (by decide)
theorem tyF_LawsVector_Y : TyF Try.prog 78 1 1 := TyF.mk Try.underlying78 rfl rfl (m := 1) (by kernel_rfl) (by decide)
theorem tyF_LawsVector_Z : TyF Try.prog 78 2 2 := TyF.mk Try.underlying78 rfl rfl (m := 1) (by kernel_rfl) (by decide)
theorem tyB_LawsVector : TyB Try.prog 78 [fl .f32 0, fl .f32 0, fl .f32 0] [(0, 1), (1, 1), (2, 1)] := TyB.mk Try.underlying78 (z := .agg #[.float .f32 0, .float .f32 0, .float .f32 0]) (by kernel_rfl) (by kernel_rfl) (fun w => ⟨⟨⟨0, rfl, Fb_zero⟩, ⟨0, rfl, Fb_zero⟩, ⟨0, rfl, Fb_zero⟩, trivial⟩, by simp [Value.cells, Value.oneCell']⟩)
theorem tyS_LawsVector : TyS Try.prog 63 78 3 := TyS.mk Try.underlying63 (by kernel_rfl)
theorem tyE_LawsVector : TyE Try.prog 63 78 3 12 := TyE.mk (z := .agg #[.float .f32 0, .float .f32 0, .float .f32 0]) Try.underlying63 (by kernel_rfl) rfl (by decide) (by decide) (by decide) (by simp [Value.cells, Value.oneCell'])
theorem tyP_f32 : TyP Try.prog 24 := TyP.mk Try.underlying24 rfl (by kernel_rfl)
theorem sz_f32 : (Try.prog.info? 24).map (·.size) = some 1 := by kernel_rfl
theorem tyZ_f32 : TyZ Try.prog 24 [fl .f32 0] := TyZ.mk (z := .float .f32 0) (by kernel_rfl) (fun w => ⟨⟨⟨0, rfl, Fb_zero⟩, trivial⟩, by simp [Value.cells, Value.oneCell']⟩)
theorem tyP_i64 : TyP Try.prog 2 := TyP.mk Try.underlying2 rfl (by kernel_rfl)
theorem sz_i64 : (Try.prog.info? 2).map (·.size) = some 1 := by kernel_rfl
theorem tyZ_i64 : TyZ Try.prog 2 [vv (.int .i64 0)] := TyZ.mk (z := .int .i64 0) (by kernel_rfl) (fun w => ⟨⟨rfl, trivial⟩, by simp [Value.cells, Value.oneCell']⟩)
theorem tyP_int : TyP Try.prog 3 := TyP.mk Try.underlying3 rfl (by kernel_rfl)
theorem sz_int : (Try.prog.info? 3).map (·.size) = some 1 := by kernel_rfl
theorem tyZ_int : TyZ Try.prog 3 [vv (.int .i64 0)] := TyZ.mk (z := .int .i64 0) (by kernel_rfl) (fun w => ⟨⟨rfl, trivial⟩, by simp [Value.cells, Value.oneCell']⟩)
theorem tyP_bool : TyP Try.prog 4 := TyP.mk Try.underlying4 rfl (by kernel_rfl)
theorem sz_bool : (Try.prog.info? 4).map (·.size) = some 1 := by kernel_rfl
theorem tyZ_bool : TyZ Try.prog 4 [vv (.bool false)] := TyZ.mk (z := .bool false) (by kernel_rfl) (fun w => ⟨⟨rfl, trivial⟩, by simp [Value.cells, Value.oneCell']⟩)
end Go.Proofs.Ytejpamlaacffaaa

/-
  Slices of structs of floats: from the flat readings to the abstract ones and back; slices of the call's own that are marked. Conditions: none.
-/
namespace Go.Proofs.Ytejpamlaacffaaa
open Go Go.RowKit

/-- The content c of n elements of s floats reads flat as X. -/
def Flat (s n : Nat) (c : Nat → List AV) (X : List Nat) : Prop := 0 < s ∧ X.length = n * s ∧ ∀ k, k < n → (c k).length = s ∧ ∀ r, r < s → ∃ x, (c k)[r]? = some (fl .f32 x) ∧ X[k * s + r]? = some x

theorem Flat.at_ {s n : Nat} {c : Nat → List AV} {X : List Nat} (h : Flat s n c X) {j x : Nat} (hj : X[j]? = some x) : j / s < n ∧ (c (j / s))[j % s]? = some (fl .f32 x) := by
  have hjl : j < X.length := (List.getElem?_eq_some_iff.1 hj).1
  rw [h.2.1] at hjl
  have hk : j / s < n := by rw [Nat.div_lt_iff_lt_mul h.1]; exact hjl
  obtain ⟨_, hr⟩ := h.2.2 (j / s) hk
  obtain ⟨y, h1, h2⟩ := hr (j % s) (Nat.mod_lt _ h.1)
  rw [Nat.div_add_mod' j s, hj] at h2
  injection h2 with h2
  subst h2
  exact ⟨hk, h1⟩
/-- One entry of the memory is put in place of another. -/
inductive HRep : List HE → HE → HE → List HE → Prop where
  | here {e e' H} : HRep (e :: H) e e' (e' :: H)
  | there {x e e' H H'} : HRep H e e' H' → HRep (x :: H) e e' (x :: H')
theorem HRep.mem {H H' : List HE} {e e' : HE} (h : HRep H e e' H') : e ∈ H := by
  induction h with
  | here => exact .head _
  | there _ ih => exact .tail _ ih
theorem HRep.foots {H H' : List HE} {e e' : HE} (hf : ∀ g, e'.foot g → e.foot g) (h : HRep H e e' H') : ∀ x ∈ H', ∃ y ∈ H, ∀ g, x.foot g → y.foot g := by
  induction h with
  | here =>
    intro x hx
    cases hx with
    | head => exact ⟨_, .head _, hf⟩
    | tail _ hm => exact ⟨x, .tail _ hm, fun g hg => hg⟩
  | there _ ih =>
    intro x hx
    cases hx with
    | head => exact ⟨_, .head _, fun g hg => hg⟩
    | tail _ hm =>
      obtain ⟨y, h1, h2⟩ := ih hf x hm
      exact ⟨y, .tail _ h1, h2⟩
theorem HRep.ok {w0 w w' : World} {H H' : List HE} {e e' : HE} (hf : ∀ g, e'.foot g → e.foot g) (h : HRep H e e' H') : HOk w0 w H → w.heap.size ≤ w'.heap.size → (∀ g, g < w.heap.size → ¬ e.foot g → w'.heap[g]? = w.heap[g]?) → e'.ok w0 w' → HOk w0 w' H' := by
  induction h with
  | @here e e' H =>
    intro hH hs hk hn
    exact ⟨hn, fun g hg => ⟨(hH.2.1 g (hf g hg)).1, Nat.lt_of_lt_of_le (hH.2.1 g (hf g hg)).2.1 hs, (hH.2.1 g (hf g hg)).2.2⟩, hH.2.2.keep hs fun x hx g hg => hk g (hH.2.2.foot x hx g hg).2 fun hgb => (hH.2.1 g hgb).2.2 x hx hg⟩
  | @there x e e' H H' hp ih =>
    intro hH hs hk hn
    have hne : ∀ g, x.foot g → ¬ e.foot g := fun g hg hgb => (hH.2.1 g hg).2.2 _ hp.mem hgb
    refine ⟨hH.1.keep hs fun g hg => hk g (hH.2.1 g hg).2.1 (hne g hg), fun g hg => ⟨(hH.2.1 g hg).1, Nat.lt_of_lt_of_le (hH.2.1 g hg).2.1 hs, fun y hy hfy => ?_⟩, ih hf hH.2.2 hs hk hn⟩
    obtain ⟨z, h1, h2⟩ := hp.foots hf y hy
    exact (hH.2.1 g hg).2.2 z h1 (h2 g hfy)

/-- What a marking function does to a slice that the caller owns. -/
def Marks (P : Program) (f : FuncId) (T s : Nat) : Prop := ∀ (w : World) (v : Value) (n : Nat) (X : List Nat) (lo hi : Nat) (K : Int), Ow w lo hi T s v n X → n ≤ 1048576 → 0 ≤ K → K ≤ 16777216 →
  Calls P f #[v, .int .i64 K] w fun e w' => e = .returned (.int .i64 (K + (s : Int) * n)) ∧ Ow w' lo hi T s v n (marks K (n * s)) ∧ Only lo hi w w'
def markC (s : Nat) (K : Int) (k : Nat) : List AV := (List.range s).map fun r => fl .f32 (floatOfInt .f32 (K + ((k * s + r : Nat) : Int)))
section
variable {P : Program} {w0 : World} {ops : Array Oper} {nt : Nat} {env : List (Nat × AV)} {H : List HE} {rest : List Oper} {Q : Exit → Act → World → Prop} {ty : TypeId} {pos : String} {after : Array Edge}
end

end Go.Proofs.Ytejpamlaacffaaa

/-
  Regions that draw their order, anew: an operation of the head may use what its forerunners made; calls there may hand back new slices. Conditions: none.
-/
namespace Go.Proofs.Ytejpamlaacffaaa
open Go Go.RowKit

def made (ops : Array Oper) (j : Nat) : Option Nat := (ops[j]?).bind (·.dst)
/-- What is known of the value of an operation of the head: a relation that stands, and the blocks that it owns. -/
structure SF where
  R : Value → World → Prop
  st : ∀ v, Stable (R v)
  ft : Value → Nat → Prop
structure Stat (ops : Array Oper) (n nt : Nat) : Prop where
  dist : ∀ i j d, i < n → j < n → made ops i = some d → made ops j = some d → i = j
  bnd : ∀ i d, i < n → made ops i = some d → d < nt
theorem got_put {a : Act} {d : Nat} {v : Value} (h : d < a.tmps.size) : (a.put (some d) v).tmps.getD d undef = v := by simp [Act.put, Array.getD, h]
theorem got_ne {a : Act} {o : Option Nat} {d : Nat} {v : Value} (h : o ≠ some d) : (a.put o v).tmps.getD d undef = a.tmps.getD d undef := by
  cases o with
  | none => rfl
  | some e =>
    refine getD_put ?_
    cases h' : Nat.beq e d
    · rfl
    · exact absurd (congrArg some (Nat.eq_of_beq_eq_true h')) h
theorem put_size (a : Act) (o : Option Nat) (v : Value) : (a.put o v).tmps.size = a.tmps.size := by cases o <;> simp [Act.put]

section
variable {P : Program} {ops : Array Oper} {md : Region.Mode} {C : World → Prop} {Rs : Nat → SF} {n nt lo : Nat}

def EFact (md : Region.Mode) (ops : Array Oper) (Rs : Nat → SF) (n : Nat) (o : Oper) (a : Act) (w : World) : Prop :=
  ∀ e ∈ o.after, Region.binds md e = true → ∀ d, made ops e.on = some d → e.on < n → (Rs e.on).R (a.tmps.getD d undef) w
def relUpon2 (P : Program) (C : World → Prop) (w : World) (R : SF) : Result Next → Prop
  | .ok (.value u) w' => C w' ∧ Below w.heap.size w w' ∧ R.R u w' ∧ ∀ g, R.ft u g → w.heap.size ≤ g ∧ g < w'.heap.size
  | .ok .skip w' => C w' ∧ Below w.heap.size w w' ∧ R.R undef w' ∧ ∀ g, R.ft undef g → w.heap.size ≤ g ∧ g < w'.heap.size
  | .ok (.enter f args) w' => Calls P f args w' fun e w'' => ∃ v, e = .returned v ∧ C w'' ∧ Below w.heap.size w w'' ∧ R.R v w'' ∧ ∀ g, R.ft v g → w.heap.size ≤ g ∧ g < w''.heap.size
  | _ => False
def Yields2 (P : Program) (md : Region.Mode) (ops : Array Oper) (C : World → Prop) (Rs : Nat → SF) (n : Nat) (o : Oper) (i : Nat) (a : Act) : Prop :=
  (Region.wanted o (yielded ops a.tmps) = true ∧ ∀ w, C w → EFact md ops Rs n o a w → relUpon2 P C w (Rs i) ((execOp a.eval o).run P w)) ∨
  (Region.wanted o (yielded ops a.tmps) = false ∧ ∀ w, (Rs i).R undef w ∧ ∀ g, ¬ (Rs i).ft undef g)
def rOp2 (P : Program) (md : Region.Mode) (ops : Array Oper) (C : World → Prop) (Rs : Nat → SF) (n : Nat) (i : Nat) (K : Act → (World → Prop) → Prop) (a : Act) (F : World → Prop) : Prop :=
  match ops[i]? with
  | none => False
  | some o => Yields2 P md ops C Rs n o i a ∧ ∀ v, (∃ w, C w ∧ F w ∧ (Rs i).R v w) → K (a.put o.dst v) (fun w => F w ∧ (Rs i).R v w)
def wpAnyR2 (P : Program) (md : Region.Mode) (ops : Array Oper) (C : World → Prop) (Rs : Nat → SF) (n : Nat) (L : Array Bool → Act → (World → Prop) → Prop) : Nat → Array Bool → Act → (World → Prop) → Prop
  | 0, listed, a, F => L listed a F
  | f + 1, listed, a, F => Region.ready md ops listed ≠ [] ∧ ∀ i ∈ Region.ready md ops listed, i < n ∧ rOp2 P md ops C Rs n i (wpAnyR2 P md ops C Rs n L f (listed.setIfInBounds i true)) a F

def Known (ops : Array Oper) (Rs : Nat → SF) (n : Nat) (listed : Array Bool) (a : Act) (w : World) : Prop :=
  ∀ j d, j < n → made ops j = some d → listed.getD j false = true → (Rs j).R (a.tmps.getD d undef) w
structure Feet (ops : Array Oper) (Rs : Nat → SF) (n lo : Nat) (listed : Array Bool) (a : Act) (w : World) : Prop where
  lt : ∀ j d, j < n → made ops j = some d → listed.getD j false = true → ∀ g, (Rs j).ft (a.tmps.getD d undef) g → lo ≤ g ∧ g < w.heap.size
  ap : ∀ j k d e, j < n → k < n → j ≠ k → made ops j = some d → made ops k = some e → listed.getD j false = true → listed.getD k false = true → ∀ g, (Rs j).ft (a.tmps.getD d undef) g → ¬ (Rs k).ft (a.tmps.getD e undef) g

theorem listed_ne {listed : Array Bool} {i j : Nat} (h : i ≠ j) : (listed.setIfInBounds i true).getD j false = listed.getD j false := getD_set_ne false h
theorem made_of {i : Nat} {o : Oper} (h : ops[i]? = some o) : made ops i = o.dst := by simp [made, h]

theorem Known.step (hS : Stat ops n nt) {i : Nat} {o : Oper} (hi : i < n) (ho : ops[i]? = some o) {a : Act} {v : Value} {listed : Array Bool} {w : World} (hsz : a.tmps.size = nt) (h : Known ops Rs n listed a w) (hv : (Rs i).R v w) : Known ops Rs n (listed.setIfInBounds i true) (a.put o.dst v) w := by
  intro j d hj hm hl
  by_cases hij : i = j
  · subst hij
    have : o.dst = some d := (made_of ho).symm.trans hm
    rw [this, got_put (by rw [hsz]; exact hS.bnd _ _ hi hm)]
    exact hv
  · rw [listed_ne hij] at hl
    rw [got_ne fun e => hij (hS.dist i j d hi hj ((made_of ho).trans e) hm)]
    exact h j d hj hm hl
theorem Feet.step (hS : Stat ops n nt) {i : Nat} {o : Oper} (hi : i < n) (ho : ops[i]? = some o) {a : Act} {v : Value} {listed : Array Bool} {w w' : World} (hsz : a.tmps.size = nt) (hlo : lo ≤ w.heap.size) (hb : w.heap.size ≤ w'.heap.size) (h : Feet ops Rs n lo listed a w) (hv : ∀ g, (Rs i).ft v g → w.heap.size ≤ g ∧ g < w'.heap.size) : Feet ops Rs n lo (listed.setIfInBounds i true) (a.put o.dst v) w' := by
  have get : ∀ j d, j < n → made ops j = some d → i ≠ j → (a.put o.dst v).tmps.getD d undef = a.tmps.getD d undef := fun j d hj hm hij => got_ne fun e => hij (hS.dist i j d hi hj ((made_of ho).trans e) hm)
  have gi : ∀ d, made ops i = some d → (a.put o.dst v).tmps.getD d undef = v := fun d hm => by
    have : o.dst = some d := (made_of ho).symm.trans hm
    rw [this, got_put (by rw [hsz]; exact hS.bnd _ _ hi hm)]
  constructor
  · intro j d hj hm hl g hg
    by_cases hij : i = j
    · subst hij
      rw [gi d hm] at hg
      have := hv g hg
      omega
    · rw [listed_ne hij] at hl
      rw [get j d hj hm hij] at hg
      have := h.lt j d hj hm hl g hg
      omega
  · intro j k d e hj hk hjk hm hm' hl hl' g hg hg'
    by_cases hij : i = j
    · subst hij
      rw [gi d hm] at hg
      rw [listed_ne hjk] at hl'
      rw [get k e hk hm' hjk] at hg'
      have := h.lt k e hk hm' hl' g hg'
      have := hv g hg
      omega
    · rw [listed_ne hij] at hl
      rw [get j d hj hm hij] at hg
      by_cases hik : i = k
      · subst hik
        rw [gi e hm'] at hg'
        have := h.lt j d hj hm hl g hg
        have := hv g hg'
        omega
      · rw [listed_ne hik] at hl'
        rw [get k e hk hm' hik] at hg'
        exact h.ap j k d e hj hk hjk hm hm' hl hl' g hg hg'

theorem ready_fact {i : Nat} {o : Oper} {listed : Array Bool} {a : Act} {w : World} (hr : i ∈ Region.ready md ops listed) (ho : ops[i]? = some o) (h : Known ops Rs n listed a w) : EFact md ops Rs n o a w := fun e he hb d hm hn => by
  obtain ⟨_, o', ho', hall⟩ := mem_ready.1 hr
  obtain rfl : o = o' := by rw [ho] at ho'; exact Option.some.inj ho'
  exact h _ d hn hm (hall e he hb)

theorem wpAny_of_rel2 (hS : Stat ops n nt) (hlo : ∀ w, C w → lo ≤ w.heap.size) {g : Nat} {L : Array Bool → Act → (World → Prop) → Prop} {Q' : Exit → Act → World → Prop}
    (hL : ∀ listed a F w, C w → F w → Feet ops Rs n lo listed a w → L listed a F → wpAny P md ops Q' g listed a w) :
    ∀ (f : Nat) (listed : Array Bool) (a : Act) (F : World → Prop) (w : World), C w → F w → Stable F → a.tmps.size = nt → (∀ w, F w → Known ops Rs n listed a w) → Feet ops Rs n lo listed a w →
      wpAnyR2 P md ops C Rs n L f listed a F → wpAny P md ops Q' (f + g) listed a w
  | 0, listed, a, F, w, hC, hF, _, _, _, hft, h => by rw [Nat.zero_add]; exact hL _ _ _ _ hC hF hft h
  | f + 1, listed, a, F, w, hC, hF, hs, hsz, hK, hft, h => by
    rw [show f + 1 + g = (f + g) + 1 by omega]
    refine ⟨fun h0 => absurd h0 h.1, fun i hi => ?_⟩
    obtain ⟨hin, hh⟩ := h.2 i hi
    unfold rOp2 at hh
    unfold wpOp
    cases ho : ops[i]? with
    | none => rw [ho] at hh; exact hh.elim
    | some o =>
      rw [ho] at hh
      obtain ⟨hy, hk⟩ := hh
      have hnext : ∀ v w', C w' → Below w.heap.size w w' → (Rs i).R v w' → (∀ g, (Rs i).ft v g → w.heap.size ≤ g ∧ g < w'.heap.size) → wpAny P md ops Q' (f + g) (listed.setIfInBounds i true) (a.put o.dst v) w' := fun v w' h1 h2 h3 h4 =>
        wpAny_of_rel2 hS hlo hL f _ _ _ w' h1 ⟨hs w w' h2 hF, h3⟩ (fun w1 w2 hb hp => ⟨hs w1 w2 hb hp.1, (Rs i).st v w1 w2 hb hp.2⟩) (by rw [put_size]; exact hsz)
          (fun w'' hh => (hK w'' hh.1).step hS hin ho hsz hh.2) (hft.step hS hin ho hsz (hlo w hC) h2.size h4) (hk v ⟨w', h1, hs w w' h2 hF, h3⟩)
      rcases hy with ⟨hw, hy⟩ | ⟨hw, hy⟩
      case inr =>
        simp only [hw, Bool.false_eq_true, if_false]
        exact hnext _ _ hC (Below.refl _ _) (hy w).1 fun g hg => absurd hg ((hy w).2 g)
      simp only [hw, if_true]
      refine .inl ?_
      have h3 := hy w hC (ready_fact hi ho (hK w hF))
      unfold Oper.wp
      generalize (execOp a.eval o).run P w = r at *
      cases r with
      | ok nx w' =>
        cases nx <;> simp only [relUpon2] at h3 <;> simp only [Oper.upon]
        case value u => exact hnext _ _ h3.1 h3.2.1 h3.2.2.1 h3.2.2.2
        case skip => exact hnext _ _ h3.1 h3.2.1 h3.2.2.1 h3.2.2.2
        case enter f args =>
          refine h3.mono fun e w'' hw => ?_
          obtain ⟨v, rfl, h4, h5, h6, h7⟩ := hw
          exact hnext _ _ h4 h5 h6 h7
      | halt x w' => simp only [relUpon2] at h3

theorem Yields2.some_ {o : Oper} {i : Nat} {a : Act} {F : World → Prop} (hF : Stable F) (hex : ∃ w, C w ∧ F w) (hE : ∀ w, F w → EFact md ops Rs n o a w) (hy : Yields2 P md ops C Rs n o i a) : ∃ v w, C w ∧ F w ∧ (Rs i).R v w := by
  obtain ⟨w, hw, hf⟩ := hex
  rcases hy with ⟨_, hy⟩ | ⟨_, hy⟩
  case inr => exact ⟨undef, w, hw, hf, (hy w).1⟩
  have h3 := hy w hw (hE w hf)
  generalize (execOp a.eval o).run P w = r at *
  cases r with
  | ok n w' =>
    cases n <;> simp only [relUpon2] at h3
    case value u => exact ⟨u, w', h3.1, hF w w' h3.2.1 hf, h3.2.2.1⟩
    case skip => exact ⟨undef, w', h3.1, hF w w' h3.2.1 hf, h3.2.2.1⟩
    case enter f args =>
      obtain ⟨e, w'', _, ⟨v, _, h1, h4, h2, _⟩, _⟩ := h3 []
      exact ⟨v, w'', h1, hF w w'' h4 hf, h2⟩
  | halt x w' => simp only [relUpon2] at h3

theorem EFact.put (hS : Stat ops n nt) {o ok : Oper} {k : Nat} {a : Act} {v : Value} {w : World} (hno : ∀ e ∈ o.after, Region.binds md e = true → e.on ≠ k) (hk : ops[k]? = some ok) (hkn : k < n) : EFact md ops Rs n o (a.put ok.dst v) w ↔ EFact md ops Rs n o a w := by
  have q : ∀ e ∈ o.after, Region.binds md e = true → ∀ d, made ops e.on = some d → e.on < n → (a.put ok.dst v).tmps.getD d undef = a.tmps.getD d undef := fun e he hb d hm hn => got_ne fun x => hno e he hb (hS.dist e.on k d hn hkn hm ((made_of hk).trans x))
  constructor
  · intro h e he hb d hm hn
    rw [← q e he hb d hm hn]
    exact h e he hb d hm hn
  · intro h e he hb d hm hn
    rw [q e he hb d hm hn]
    exact h e he hb d hm hn

theorem wpAnyR2_first {i : Nat} {oi : Oper} {L : Array Bool → Act → (World → Prop) → Prop} (hS : Stat ops n nt) (hi : ops[i]? = some oi) (hsel : ∀ (j : Nat) (o : Oper) cs b, ops[j]? = some o → o.op ≠ .select cs b)
    (hs : Region.sinkB md ops n = true) (hc : Region.chainB md ops n = true) (hn : n < ops.size) (hin : i < n)
    (hdone : ∀ listed a F, L listed a F → ∀ j ∈ Region.ready md ops listed, n ≤ j) :
    ∀ (f : Nat) (listed : Array Bool) (a : Act) (F : World → Prop), HeadInv md ops n listed → Stable F → (∃ w, C w ∧ F w) → a.tmps.size = nt → (∀ w, F w → Known ops Rs n listed a w) →
      (∀ j oj, ops[j]? = some oj → j ≠ i → listed.getD j true = false → (∀ e ∈ oj.after, Region.binds md e = true → e.on ≠ i) → oi.apart ops oj = true) →
      i ∈ Region.ready md ops listed → Yields2 P md ops C Rs n oi i a →
      (∀ v, (∃ w, C w ∧ F w ∧ (Rs i).R v w) → wpAnyR2 P md ops C Rs n L f (listed.setIfInBounds i true) (a.put oi.dst v) (fun w => F w ∧ (Rs i).R v w)) → wpAnyR2 P md ops C Rs n L (f + 1) listed a F := by
  intro f
  induction f with
  | zero =>
    intro listed a F inv hst hex hsz hK _ hr hy H
    have hun := (mem_ready.1 hr).1
    refine ⟨fun h => (by rw [h] at hr; cases hr), fun j hj => ?_⟩
    have hjn : j < n := by
      rcases Nat.lt_or_ge j n with h | h
      · exact h
      · exact absurd hj (tail_waits hs hc hn inv _ i rfl hin hun j h)
    refine ⟨hjn, ?_⟩
    by_cases hji : j = i
    · subst hji
      unfold rOp2
      rw [hi]
      exact ⟨hy, H⟩
    · obtain ⟨v, w, h1, h2⟩ := hy.some_ hst hex fun w hw => ready_fact hr hi (hK w hw)
      have := hdone _ _ _ (H v ⟨w, h1, h2⟩) j (ready_mono hj hji)
      omega
  | succ f ih =>
    intro listed a F inv hst hex hsz hK hfree hr hy H
    have hun := (mem_ready.1 hr).1
    refine ⟨fun h => (by rw [h] at hr; cases hr), fun j hj => ?_⟩
    have hjn : j < n := by
      rcases Nat.lt_or_ge j n with h | h
      · exact h
      · exact absurd hj (tail_waits hs hc hn inv _ i rfl hin hun j h)
    refine ⟨hjn, ?_⟩
    by_cases hji : j = i
    · subst hji
      unfold rOp2
      rw [hi]
      exact ⟨hy, H⟩
    · obtain ⟨hjun, oj, hoj, hall⟩ := mem_ready.1 hj
      have hnot : ∀ e ∈ oj.after, Region.binds md e = true → e.on ≠ i := fun e he hb heq => by
        have h1 := hall e he hb
        rw [heq, getD_both hun] at h1
        cases h1
      have hnoti : ∀ e ∈ oi.after, Region.binds md e = true → e.on ≠ j := fun e he hb heq => by
        obtain ⟨_, oi', hoi', halli⟩ := mem_ready.1 hr
        obtain rfl : oi = oi' := by rw [hi] at hoi'; exact Option.some.inj hoi'
        have h1 := halli e he hb
        rw [heq, getD_both hjun] at h1
        cases h1
      obtain ⟨a1, a2, a3⟩ := Oper.apart_spec (hfree j oj hoj hji hjun hnot)
      have hseli := fun cs b => hsel i oi cs b hi
      have hselj := fun cs b => hsel j oj cs b hoj
      have hj1 : ∀ v, (∃ w, C w ∧ F w ∧ (Rs i).R v w) → rOp2 P md ops C Rs n j (wpAnyR2 P md ops C Rs n L f ((listed.setIfInBounds i true).setIfInBounds j true)) (a.put oi.dst v) (fun w => F w ∧ (Rs i).R v w) := fun v hv => ((H v hv).2 j (ready_mono hj hji)).2
      have hfree' : ∀ k ok, ops[k]? = some ok → k ≠ i → (listed.setIfInBounds j true).getD k true = false →
          (∀ e ∈ ok.after, Region.binds md e = true → e.on ≠ i) → oi.apart ops ok = true := fun k ok hk hki hun hno => by
        refine hfree k ok hk hki ?_ hno
        by_cases hjk : j = k
        · subst hjk; exact hjun
        · rw [getD_set_ne true hjk] at hun; exact hun
      obtain ⟨v0, w0, hw0, hF0, hR0⟩ := hy.some_ hst hex fun w hw => ready_fact hr hi (hK w hw)
      have hyj : Yields2 P md ops C Rs n oj j a := by
        have := hj1 v0 ⟨w0, hw0, hF0, hR0⟩
        unfold rOp2 at this
        rw [hoj] at this
        rcases this.1 with ⟨t1, t2⟩ | ⟨t1, t2⟩
        · rw [wanted_put oj a oi.dst v0 a1] at t1
          rw [execOp_put oj hselj a oi.dst v0 a1] at t2
          exact .inl ⟨t1, fun w hw hE => t2 w hw ((EFact.put hS hnot hi hin).2 hE)⟩
        · rw [wanted_put oj a oi.dst v0 a1] at t1
          exact .inr ⟨t1, t2⟩
      unfold rOp2
      rw [hoj]
      refine ⟨hyj, fun u hu => ?_⟩
      have hyi : Yields2 P md ops C Rs n oi i (a.put oj.dst u) := by
        rcases hy with ⟨t1, t2⟩ | ⟨t1, t2⟩
        case inr => exact .inr ⟨by rw [wanted_put oi a oj.dst u a3]; exact t1, t2⟩
        refine .inl ⟨by rw [wanted_put oi a oj.dst u a3]; exact t1, fun w hw hE => ?_⟩
        rw [execOp_put oi hseli a oj.dst u a3]
        exact t2 w hw ((EFact.put hS hnoti hoj hjn).1 hE)
      obtain ⟨wu, hwu, hFu, hRu⟩ := hu
      refine ih (listed.setIfInBounds j true) (a.put oj.dst u) _ (inv.set hj hjn) (fun w1 w2 hb hp => ⟨hst w1 w2 hb hp.1, (Rs j).st u w1 w2 hb hp.2⟩) ⟨wu, hwu, hFu, hRu⟩ (by rw [put_size]; exact hsz)
        (fun w hh => (hK w hh.1).step hS hjn hoj hsz hh.2) hfree' (ready_mono hr (Ne.symm hji)) hyi fun v hv => ?_
      obtain ⟨wv, hwv, ⟨hFv, hRuv⟩, hRv⟩ := hv
      have h4 := hj1 v ⟨wv, hwv, hFv, hRv⟩
      unfold rOp2 at h4
      rw [hoj] at h4
      have h5 := h4.2 u ⟨wv, hwv, ⟨hFv, hRv⟩, hRuv⟩
      rw [Array.setIfInBounds_comm _ _ hji, Act.put_comm a u v (fun d hd e => a2 d e hd)]
      have e : (fun w => (F w ∧ (Rs j).R u w) ∧ (Rs i).R v w) = (fun w => (F w ∧ (Rs i).R v w) ∧ (Rs j).R u w) := funext fun w => propext ⟨fun h => ⟨⟨h.1.1, h.2⟩, h.1.2⟩, fun h => ⟨⟨h.1.1, h.2⟩, h.1.2⟩⟩
      rw [e]
      exact h5

/-- The walk in the order of the text: k is the number of the operation at hand. -/
def wpRel2 (P : Program) (md : Region.Mode) (ops : Array Oper) (C : World → Prop) (Rs : Nat → SF) (n : Nat) (T : Act → (World → Prop) → Prop) : Nat → List Oper → Act → (World → Prop) → Prop
  | _, [], a, F => T a F
  | k, o :: rest, a, F => Yields2 P md ops C Rs n o k a ∧ ∀ v, (∃ w, C w ∧ F w ∧ (Rs k).R v w) → wpRel2 P md ops C Rs n T (k + 1) rest (a.put o.dst v) (fun w => F w ∧ (Rs k).R v w)

theorem wpAnyR2_lex {g : Nat} {T : Act → (World → Prop) → Prop} (hS : Stat ops n nt) (hsel : Region.noSelect ops = true) (hs : Region.sinkB md ops n = true) (hc : Region.chainB md ops n = true) (hn : n < ops.size) :
    ∀ (l : List Oper) (k : Nat) (listed : Array Bool) (a : Act) (F : World → Prop), (∀ j, j < l.length → l[j]? = ops[k + j]?) → k + l.length = n → HeadInv md ops n listed → (∀ j, j < k → listed.getD j false = true) →
    Stable F → (∃ w, C w ∧ F w) → a.tmps.size = nt → (∀ w, F w → Known ops Rs n listed a w) →
    Region.lexHead md ops g l.length k listed = true → wpRel2 P md ops C Rs n T k l a F →
    wpAnyR2 P md ops C Rs n (fun listed' a' F' => (Region.seqB md ops g n listed' = true ∧ ∀ j, j < n → listed'.getD j false = true) ∧ T a' F') l.length listed a F
  | [], k, listed, a, F, _, hk, _, hall, _, _, _, _, hB, h => by
    have : k = n := by simpa using hk
    subst this
    exact ⟨⟨by simpa [Region.lexHead] using hB, hall⟩, h⟩
  | o :: l, k, listed, a, F, hl, hk, inv, hall, hst, hex, hsz, hK, hB, h => by
    have h0 : ops[k]? = some o := by simpa using (hl 0 (by simp)).symm
    simp only [List.length_cons, Region.lexHead, Bool.and_eq_true] at hB
    obtain ⟨⟨hr, hf⟩, hB'⟩ := hB
    have hkn : k < n := by simp only [List.length_cons] at hk; omega
    have hr' : k ∈ Region.ready md ops listed := by simpa using hr
    refine wpAnyR2_first hS h0 (Region.noSelect_spec hsel) hs hc hn hkn (fun listed' a' F' hL => seqB_ready hL.1.1) l.length listed a F inv hst hex hsz hK (Region.free_spec h0 hf) hr' h.1
      fun v hv => wpAnyR2_lex hS hsel hs hc hn l (k + 1) _ _ _ (fun j hj => by have := hl (j + 1) (by simp; omega); simpa [Nat.add_assoc, Nat.add_comm 1 j] using this) (by simp only [List.length_cons] at hk; omega) (inv.set hr' hkn) (fun j hj => ?_)
        (fun w1 w2 hb hp => ⟨hst w1 w2 hb hp.1, (Rs k).st v w1 w2 hb hp.2⟩) hv (by rw [put_size]; exact hsz) (fun w hh => (hK w hh.1).step hS hkn h0 hsz hh.2) hB' (h.2 v hv)
    by_cases hjk : k = j
    · subst hjk
      have : k < listed.size := by rw [inv.size]; omega
      simp [Array.getD_eq_getD_getElem?, this]
    · rw [listed_ne hjk]
      exact hall j (by omega)

theorem wp_region_rel2 {id : Nat} {Q : Exit → Act → World → Prop} {a : Act} {w : World} {l : List Oper} (n : Nat) (Rs : Nat → SF) (C : World → Prop) (hm : P.follows .mixedOrders = true) (hB : Region.lexTailB .any l.toArray n = true)
    (hS : Stat l.toArray n a.tmps.size) (hlo : ∀ w, C w → lo ≤ w.heap.size) (hC : C (w.drewN 1))
    (h : wpRel2 P .any l.toArray C Rs n (fun a' F => ∀ w' listed, C w' → F w' → Feet l.toArray Rs n lo listed a' w' → (∀ j, j < n → listed.getD j false = true) → wpList P l.toArray Q (l.drop n) a' w') 0 (l.take n) a (fun _ => True)) : (Code.region id l.toArray true).wp P Q a w := by
  simp only [Region.lexTailB, Bool.and_eq_true, decide_eq_true_eq] at hB
  obtain ⟨⟨⟨⟨hsel, hn⟩, hs⟩, hc⟩, hlex⟩ := hB
  have hn' : n < l.length := by simpa using hn
  have htl : (l.take n).length = n := by simp; omega
  have hdl : (l.drop n).length = l.toArray.size - n := by simp
  have inv0 : HeadInv .any l.toArray n (Array.replicate l.toArray.size false) :=
    ⟨by simp, fun j oj _ hl => (by rw [getD_replicate_false] at hl; cases hl), fun t _ ht => getD_in (by simpa using ht) (getD_replicate_false _ _)⟩
  have hno : ∀ w, Known l.toArray Rs n (Array.replicate l.toArray.size false) a w := fun w j d _ _ hl => by rw [getD_replicate_false] at hl; cases hl
  have h1 := wpAnyR2_lex (P := P) (C := C) (Rs := Rs) (md := .any) (g := l.toArray.size - n) hS hsel hs hc hn (l.take n) 0 (Array.replicate l.toArray.size false) a (fun _ => True)
    (fun j hj => by rw [htl] at hj; simp [hj]) (by rw [htl]; omega) inv0 (fun j hj => absurd hj (by omega)) (fun _ _ _ h => h) ⟨_, hC, trivial⟩ rfl (fun w _ => hno w) (by rw [htl]; exact hlex) h
  rw [htl] at h1
  refine wp_region_any hm ?_
  have h2 := wpAny_of_rel2 (Q' := Q) (g := l.toArray.size - n) (lo := lo) hS hlo (fun listed a' F' w' hw hF hft hL => ?_) n _ a _ (w.drewN 1) hC trivial (fun _ _ _ h => h) rfl (fun w _ => hno w)
    ⟨fun j d _ _ hl => (by rw [getD_replicate_false] at hl; cases hl), fun j k d e _ _ _ _ _ hl => (by rw [getD_replicate_false] at hl; cases hl)⟩ h1
  · rw [show n + (l.toArray.size - n) = l.toArray.size by omega] at h2
    exact h2
  · have := wpAny_of_seq (P := P) (md := .any) (ops := l.toArray) (Q' := Q) (l.drop n) n listed a' w' (fun j => by simp [List.getElem?_drop]) (by rw [hdl]; exact hL.1.1) (hL.2 w' listed hw hF hft hL.1.2)
    rwa [hdl] at this
end
end Go.Proofs.Ytejpamlaacffaaa

/-
  Regions that draw their order, anew, with abstract states. Conditions: none.
-/
namespace Go.Proofs.Ytejpamlaacffaaa
open Go Go.RowKit

/-- What an operation of the head laid: a new variable, or a value about a new slice. -/
inductive Made where
  | box (zl : List AV)
  | row (T size n : Nat) (c : Nat → List AV) (mk : Value → AV)
  | late (A : AV)
structure Ent where
  j : Nat
  d : Nat
  k : Made
structure NS where
  k : Nat
  es : List Ent
def NS.up (ns : NS) : NS := ⟨ns.k + 1, ns.es⟩
def NS.add (ns : NS) (d : Nat) (m : Made) : NS := ⟨ns.k + 1, ⟨ns.k, d, m⟩ :: ns.es⟩

/-- The new slice may be told from the value. -/
def Inj (mk : Value → AV) : Prop := ∀ w sv sv' v, (mk sv).R w v → (mk sv').R w v → sv = sv'
def Made.R (w0 : World) : Made → Value → World → Prop
  | .box zl, v, w => ∃ b, v = .pointer (some ⟨b, 0, none⟩) ∧ b < w.heap.size ∧ (HE.cells b zl).ok w0 w
  | .row T size n c mk, v, w => ∃ sv, (mk sv).R w0 v ∧ (∀ g, sv.ownBlock = some g → g < w.heap.size) ∧ (HE.row sv T size n c).ok w0 w
  | .late A, v, w => A.R w v
def Made.ft (w0 : World) : Made → Value → Nat → Prop
  | .box _, v, g => v = .pointer (some ⟨g, 0, none⟩)
  | .row _ _ _ _ mk, v, g => ∃ sv, (mk sv).R w0 v ∧ sv.ownBlock = some g
  | .late _, _, _ => False
theorem Made.stable (w0 : World) (m : Made) (v : Value) : Stable (m.R w0 v) := fun w w' hb h => by
  cases m with
  | box zl =>
    obtain ⟨b, e, h1, h2⟩ := h
    exact ⟨b, e, Nat.lt_of_lt_of_le h1 hb.size, h2.keep hb.size fun g hg => by obtain rfl : g = b := hg; exact hb.block _ h1⟩
  | row T size n c mk =>
    obtain ⟨sv, e, h1, h2⟩ := h
    exact ⟨sv, e, fun g hg => Nat.lt_of_lt_of_le (h1 g hg) hb.size, h2.keep hb.size fun g hg => hb.block g (h1 g hg)⟩
  | late A => exact A.mono hb h
def Made.sf (w0 : World) (m : Made) : SF := ⟨m.R w0, m.stable w0, m.ft w0⟩
def SF.pure (R : Value → Prop) : SF := ⟨fun v _ => R v, fun _ _ _ _ h => h, fun _ _ => False⟩

/-- The forerunners of an operation, as far as they laid something. -/
def Fore (after : Array Edge) (e : Ent) : Bool := after.toList.any fun x => Region.binds .any x && Nat.beq x.on e.j
def Facts (w0 : World) (es : List Ent) (after : Array Edge) (a : Act) (w : World) : Prop := ∀ e ∈ es, Fore after e = true → e.k.R w0 (a.tmps.getD e.d undef) w
structure EvE (P : Program) (s : AS) (es : List Ent) (o : Oper) (A : AV) : Prop where
  out : ∀ w0 a w, Sat w0 s a w → Facts w0 es o.after a w → EvRes P w (fun v => A.R w0 v) ((execOp a.eval o).run P w)
def EvNRes (P : Program) (w0 w : World) (m : Made) : Result Next → Prop
  | .ok (.value u) w' => Below w.heap.size w w' ∧ m.R w0 u w' ∧ ∀ g, m.ft w0 u g → w.heap.size ≤ g ∧ g < w'.heap.size
  | .ok (.enter f args) w' => Below w.heap.size w w' ∧ Calls P f args w' fun e w'' => ∃ v, e = .returned v ∧ Below w'.heap.size w' w'' ∧ m.R w0 v w'' ∧ ∀ g, m.ft w0 v g → w.heap.size ≤ g ∧ g < w''.heap.size
  | _ => False
structure EvN (P : Program) (s : AS) (es : List Ent) (o : Oper) (m : Made) : Prop where
  out : ∀ w0 a w, Sat w0 s a w → Facts w0 es o.after a w → EvNRes P w0 w m ((execOp a.eval o).run P w)

structure GOn (ops : Array Oper) (s : AS) (o : Oper) : Prop where
  out : ∀ w0 a w, Sat w0 s a w → Region.wanted o (yielded ops a.tmps) = true
structure GOff (ops : Array Oper) (s : AS) (o : Oper) : Prop where
  out : ∀ w0 a w, Sat w0 s a w → Region.wanted o (yielded ops a.tmps) = false
def DU (P : Program) (ops : Array Oper) : AS → NS → List Oper → (AS → NS → Prop) → Prop
  | s, ns, [], K => K s ns
  | s, ns, o :: rest, K => dok s o.dst = true ∧
      ((GOn ops s o ∧ ((∃ A, EvE P s ns.es o A ∧ DU P ops (s.put o.dst A) ns.up rest K) ∨ (∃ d m, o.dst = some d ∧ EvN P s ns.es o m ∧ DU P ops (s.put (some d) top) (ns.add d m) rest K))) ∨
       (GOff ops s o ∧ DU P ops (s.put o.dst (vv undef)) ns.up rest K))
/-- Behind the head. -/
def FinU (K : AS → Prop) : AS → List Ent → Prop
  | s, [] => K s
  | s, ⟨_, d, .box zl⟩ :: es => ∀ b, FinU K ⟨s.nt, (d, ptr b 0) :: s.env, .cells b zl :: s.heap⟩ es
  | s, ⟨_, d, .row T size n c mk⟩ :: es => ∀ sv, FinU K ⟨s.nt, (d, mk sv) :: s.env, .row sv T size n c :: s.heap⟩ es
  | s, ⟨_, _, .late _⟩ :: es => FinU K s es

structure PreU (w0 w1 : World) (ops : Array Oper) (n : Nat) (Rs : Nat → SF) (s : AS) (ns : NS) (a : Act) (F : World → Prop) : Prop where
  size : a.tmps.size = s.nt
  defers : a.defers = []
  env : ∀ t A, look t s.env = some A → A.R w0 (a.tmps.getD t undef)
  heap : HOk w0 w1 s.heap
  ents : ∀ e ∈ ns.es, made ops e.j = some e.d ∧ e.j < ns.k ∧ Rs e.j = e.k.sf w0 ∧ ∀ w, F w → e.k.R w0 (a.tmps.getD e.d undef) w
  nodup : (ns.es.map (·.j)).Nodup
theorem PreU.sat {w0 w1 : World} {ops : Array Oper} {n : Nat} {Rs : Nat → SF} {s : AS} {ns : NS} {a : Act} {F : World → Prop} (h : PreU w0 w1 ops n Rs s ns a F) (h0 : Below w0.heap.size w0 w1) {w : World} (hw : CB w1 w) : Sat w0 s a w :=
  ⟨h0.trans (Below.mono hw h0.size), h.size, h.defers, h.env, h.heap.below hw⟩

theorem du_rel {P : Program} {w0 w1 : World} {ops : Array Oper} {n nt : Nat} {T : (Nat → SF) → Act → (World → Prop) → Prop} (h0 : Below w0.heap.size w0 w1) (hS : Stat ops n nt) :
    ∀ (l : List Oper) (s : AS) (ns : NS) (K : AS → NS → Prop), DU P ops s ns l K → (∀ j, j < l.length → l[j]? = ops[ns.k + j]?) → ns.k + l.length = n → ∀ Rs0 : Nat → SF,
    ∃ Rs : Nat → SF, (∀ i, i < ns.k → Rs i = Rs0 i) ∧ ∀ a F, PreU w0 w1 ops n Rs s ns a F →
    (∀ s' ns' a' F', K s' ns' → ns'.k = n → PreU w0 w1 ops n Rs s' ns' a' F' → T Rs a' F') → wpRel2 P .any ops (CB w1) Rs n (T Rs) ns.k l a F
  | [], s, ns, K, h, _, hk, Rs0 => ⟨Rs0, fun _ _ => rfl, fun a F hp hT => hT s ns a F h (by simpa using hk) hp⟩
  | o :: l, s, ns, K, h, hl, hk, Rs0 => by
    obtain ⟨hd, h⟩ := h
    have ho : ops[ns.k]? = some o := by simpa using (hl 0 (by simp)).symm
    have hl' : ∀ j, j < l.length → l[j]? = ops[ns.k + 1 + j]? := fun j hj => by have := hl (j + 1) (by simp; omega); simpa [Nat.add_assoc, Nat.add_comm 1 j] using this
    have hk' : ns.k + 1 + l.length = n := by simp only [List.length_cons] at hk; omega
    have facts : ∀ {Rs a F w}, PreU w0 w1 ops n Rs s ns a F → EFact .any ops Rs n o a w → Facts w0 ns.es o.after a w := fun {Rs a F w} hp hE e he hf => by
      obtain ⟨h1, h2, h3, _⟩ := hp.ents e he
      unfold Fore at hf
      rw [List.any_eq_true] at hf
      obtain ⟨x, hx, hxx⟩ := hf
      have hx : x ∈ o.after := by simpa using hx
      simp only [Bool.and_eq_true] at hxx
      have hon : x.on = e.j := Nat.eq_of_beq_eq_true hxx.2
      have := hE x hx hxx.1 e.d (by rw [hon]; exact h1) (by rw [hon]; omega)
      rw [hon, h3] at this
      exact this
    have keep : ∀ {Rs a F}, PreU w0 w1 ops n Rs s ns a F → ∀ (v : Value), ∀ e ∈ ns.es, (a.put o.dst v).tmps.getD e.d undef = a.tmps.getD e.d undef := fun {Rs a F} hp v e he => by
      obtain ⟨h1, h2, _⟩ := hp.ents e he
      exact got_ne fun q => absurd (hS.dist ns.k e.j e.d (by omega) (by omega) ((made_of ho).trans q) h1) (by omega)
    rcases h with ⟨hg, ⟨A, hev, hrest⟩ | ⟨d, m, hdd, hev, hrest⟩⟩ | ⟨hg, hrest⟩
    · obtain ⟨Rs, hRs, hgo⟩ := du_rel (P := P) (T := T) h0 hS l _ _ _ hrest hl' hk' (fun i => if i = ns.k then SF.pure (fun v => A.R w0 v) else Rs0 i)
      have hk0 : Rs ns.k = SF.pure (fun v => A.R w0 v) := by rw [hRs ns.k (by show _ < ns.k + 1; omega), if_pos rfl]
      refine ⟨Rs, fun i hi => by rw [hRs i (by show _ < ns.k + 1; omega), if_neg (by omega)], fun a F hp hT => ⟨.inl ⟨hg.out w0 a w1 (hp.sat h0 (Below.refl _ _)), fun w hw hE => ?_⟩, fun v hv => ?_⟩⟩
      · have := hev.out w0 a w (hp.sat h0 hw) (facts hp hE)
        rw [hk0]
        generalize (execOp a.eval o).run P w = r at this
        cases r with
        | ok n w' =>
          cases n <;> simp only [EvRes] at this <;> simp only [relUpon2]
          case value u => exact ⟨hw.step this.1, this.1, this.2, fun g hg => hg.elim⟩
          case skip => exact ⟨hw.step this.1, this.1, this.2, fun g hg => hg.elim⟩
          case enter f args =>
            refine this.2.mono fun e w'' h => ?_
            obtain ⟨v, rfl, hb, hr⟩ := h
            have hb2 := this.1.trans (hb.mono this.1.size)
            exact ⟨v, rfl, hw.step hb2, hb2, hr, fun g hg => hg.elim⟩
        | halt x w' => simp only [EvRes] at this
      · obtain ⟨w, hw, hF, hv⟩ := hv
        rw [hk0] at hv
        have hv : A.R w0 v := hv
        refine hgo _ _ ?_ hT
        have hs := (hp.sat h0 hw).put (Below.refl _ _) hv hd
        refine ⟨hs.size, hs.defers, hs.env, ?_, fun e he => ?_, hp.nodup⟩
        · cases h : o.dst <;> simp only [AS.put, h] <;> exact hp.heap
        · obtain ⟨h1, h2, h3, h4⟩ := hp.ents e he
          exact ⟨h1, Nat.lt_succ_of_lt h2, h3, fun w2 hF => by rw [keep hp v e he]; exact h4 w2 hF.1⟩
    · obtain ⟨Rs, hRs, hgo⟩ := du_rel (P := P) (T := T) h0 hS l _ _ _ hrest hl' hk' (fun i => if i = ns.k then m.sf w0 else Rs0 i)
      have hk0 : Rs ns.k = m.sf w0 := by rw [hRs ns.k (by show _ < ns.k + 1; omega), if_pos rfl]
      have hd' : Nat.blt d s.nt = true := by rw [hdd] at hd; exact hd
      refine ⟨Rs, fun i hi => by rw [hRs i (by show _ < ns.k + 1; omega), if_neg (by omega)], fun a F hp hT => ⟨.inl ⟨hg.out w0 a w1 (hp.sat h0 (Below.refl _ _)), fun w hw hE => ?_⟩, fun v hv => ?_⟩⟩
      · have := hev.out w0 a w (hp.sat h0 hw) (facts hp hE)
        rw [hk0]
        generalize (execOp a.eval o).run P w = r at this
        cases r with
        | ok n w' =>
          cases n <;> simp only [EvNRes] at this <;> simp only [relUpon2]
          case value u => exact ⟨hw.step this.1, this.1, this.2.1, this.2.2⟩
          case enter f args =>
            refine this.2.mono fun e w'' h => ?_
            obtain ⟨v, rfl, hb, hr, hf⟩ := h
            have hb2 := this.1.trans (hb.mono this.1.size)
            exact ⟨v, rfl, hw.step hb2, hb2, hr, hf⟩
        | halt x w' => simp only [EvNRes] at this
      · obtain ⟨w, hw, hF, hv⟩ := hv
        refine hgo _ _ ?_ hT
        have hs := (hp.sat h0 hw).put (A := top) (v := v) (dst := some d) (Below.refl _ _) trivial hd'
        have hlt : d < a.tmps.size := by rw [hp.size]; exact Nat.blt_eq ▸ hd'
        rw [hdd]
        refine ⟨hs.size, hs.defers, hs.env, hp.heap, fun e he => ?_, List.nodup_cons.2 ⟨fun hm => ?_, hp.nodup⟩⟩
        · rcases List.mem_cons.1 he with rfl | he
          · exact ⟨(made_of ho).trans hdd, Nat.lt_succ_self _, hk0, fun w2 hF => by rw [got_put hlt]; have := hF.2; rw [hk0] at this; exact this⟩
          · obtain ⟨h1, h2, h3, h4⟩ := hp.ents e he
            exact ⟨h1, Nat.lt_succ_of_lt h2, h3, fun w2 hF => by have := keep hp v e he; rw [hdd] at this; rw [this]; exact h4 w2 hF.1⟩
        · obtain ⟨e, he, hj⟩ := List.mem_map.1 hm
          have := (hp.ents e he).2.1
          simp only at hj
          omega
    · obtain ⟨Rs, hRs, hgo⟩ := du_rel (P := P) (T := T) h0 hS l _ _ _ hrest hl' hk' (fun i => if i = ns.k then SF.pure (fun v => (vv undef).R w0 v) else Rs0 i)
      have hk0 : Rs ns.k = SF.pure (fun v => (vv undef).R w0 v) := by rw [hRs ns.k (by show _ < ns.k + 1; omega), if_pos rfl]
      refine ⟨Rs, fun i hi => by rw [hRs i (by show _ < ns.k + 1; omega), if_neg (by omega)], fun a F hp hT => ⟨.inr ⟨hg.out w0 a w1 (hp.sat h0 (Below.refl _ _)), fun w => ?_⟩, fun v hv => ?_⟩⟩
      · rw [hk0]
        exact ⟨rfl, fun g h => h⟩
      · obtain ⟨w, hw, hF, hv⟩ := hv
        rw [hk0] at hv
        have hv : (vv undef).R w0 v := hv
        refine hgo _ _ ?_ hT
        have hs := (hp.sat h0 hw).put (Below.refl _ _) hv hd
        refine ⟨hs.size, hs.defers, hs.env, ?_, fun e he => ?_, hp.nodup⟩
        · cases h : o.dst <;> simp only [AS.put, h] <;> exact hp.heap
        · obtain ⟨h1, h2, h3, h4⟩ := hp.ents e he
          exact ⟨h1, Nat.lt_succ_of_lt h2, h3, fun w2 hF => by rw [keep hp v e he]; exact h4 w2 hF.1⟩

theorem finU_sat {w0 : World} {K : AS → Prop} {a : Act} {w : World} : ∀ (es : List Ent) (s : AS), FinU K s es → Sat w0 s a w → (∀ e ∈ es, e.k.R w0 (a.tmps.getD e.d undef) w) →
    (∀ e ∈ es, ∀ g, e.k.ft w0 (a.tmps.getD e.d undef) g → w0.heap.size ≤ g ∧ g < w.heap.size ∧ ∀ h ∈ s.heap, ¬ h.foot g) →
    es.Pairwise (fun e e' => ∀ g, e.k.ft w0 (a.tmps.getD e.d undef) g → ¬ e'.k.ft w0 (a.tmps.getD e'.d undef) g) → ∃ s', K s' ∧ Sat w0 s' a w
  | [], s, h, hs, _, _, _ => ⟨s, h, hs⟩
  | ⟨j, d, .box zl⟩ :: es, s, h, hs, hR, hf, hp => by
    obtain ⟨b, hv, hlt, hok⟩ := hR _ List.mem_cons_self
    have hft := hf _ List.mem_cons_self b hv
    obtain ⟨hp1, hp2⟩ := List.pairwise_cons.1 hp
    refine finU_sat es _ (h b) ⟨hs.below, hs.size, hs.defers, fun t A e => ?_, hs.heap.cons hok fun g hg => ?_⟩ (fun e he => hR e (List.mem_cons_of_mem _ he)) (fun e he g hg => ?_) hp2
    · unfold look at e
      split at e
      · rename_i hbq
        obtain rfl : t = d := Nat.eq_of_beq_eq_true hbq
        injection e with e
        subst e
        exact hv
      · exact hs.env t A e
    · obtain rfl : g = b := hg
      exact hft
    · obtain ⟨h1, h2, h3⟩ := hf e (List.mem_cons_of_mem _ he) g hg
      refine ⟨h1, h2, fun x hx hxf => ?_⟩
      rcases List.mem_cons.1 hx with rfl | hx
      · obtain rfl : g = b := hxf
        exact hp1 e he g hv hg
      · exact h3 x hx hxf
  | ⟨j, d, .row T size n c mk⟩ :: es, s, h, hs, hR, hf, hp => by
    obtain ⟨sv, hv, hlt, hok⟩ := hR _ List.mem_cons_self
    have hft := fun g hg => hf _ List.mem_cons_self g ⟨sv, hv, hg⟩
    obtain ⟨hp1, hp2⟩ := List.pairwise_cons.1 hp
    refine finU_sat es _ (h sv) ⟨hs.below, hs.size, hs.defers, fun t A e => ?_, hs.heap.cons hok fun g hg => hft g hg⟩ (fun e he => hR e (List.mem_cons_of_mem _ he)) (fun e he g hg => ?_) hp2
    · unfold look at e
      split at e
      · rename_i hbq
        obtain rfl : t = d := Nat.eq_of_beq_eq_true hbq
        injection e with e
        subst e
        exact hv
      · exact hs.env t A e
    · obtain ⟨h1, h2, h3⟩ := hf e (List.mem_cons_of_mem _ he) g hg
      refine ⟨h1, h2, fun x hx hxf => ?_⟩
      rcases List.mem_cons.1 hx with rfl | hx
      · exact hp1 e he g ⟨sv, hv, hxf⟩ hg
      · exact h3 x hx hxf
  | ⟨j, d, .late A⟩ :: es, s, h, hs, hR, hf, hp => finU_sat es s h hs (fun e he => hR e (List.mem_cons_of_mem _ he)) (fun e he => hf e (List.mem_cons_of_mem _ he)) (List.pairwise_cons.1 hp).2

/-- No two operations of the head have the same place, and all places lie in the frame. -/
def distB (nt : Nat) : List Oper → Bool
  | [] => true
  | o :: r => (match o.dst with
    | none => true
    | some d => Nat.blt d nt && r.all fun q => match q.dst with
      | none => true
      | some e => !Nat.beq d e) && distB nt r
theorem distB_spec {nt : Nat} : ∀ {l : List Oper}, distB nt l = true → (∀ (i : Nat) (oi : Oper) (d : Nat), l[i]? = some oi → oi.dst = some d → d < nt) ∧ ∀ (i j : Nat) (oi oj : Oper) (d : Nat), l[i]? = some oi → l[j]? = some oj → oi.dst = some d → oj.dst = some d → i = j
  | [], _ => ⟨fun i oi d h => by simp at h, fun i j oi oj d h => by simp at h⟩
  | o :: r, h => by
    unfold distB at h
    rw [Bool.and_eq_true] at h
    obtain ⟨h1, h2⟩ := h
    obtain ⟨k1, k2⟩ := distB_spec h2
    have ha : ∀ d, o.dst = some d → d < nt ∧ ∀ q ∈ r, q.dst ≠ some d := fun d hd => by
      rw [hd] at h1
      simp only [Bool.and_eq_true, List.all_eq_true] at h1
      refine ⟨Nat.blt_eq ▸ h1.1, fun q hq e => ?_⟩
      have := h1.2 q hq
      rw [e] at this
      simp at this
    refine ⟨fun i oi d hi hd => ?_, fun i j oi oj d hi hj hd hd' => ?_⟩
    · cases i with
      | zero => simp at hi; subst hi; exact (ha d hd).1
      | succ i => exact k1 i oi d (by simpa using hi) hd
    · cases i with
      | zero =>
        cases j with
        | zero => rfl
        | succ j => simp at hi hj; subst hi; exact absurd hd' ((ha d hd).2 oj (List.mem_of_getElem? hj))
      | succ i =>
        cases j with
        | zero => simp at hi hj; subst hj; exact absurd hd ((ha d hd').2 oi (List.mem_of_getElem? hi))
        | succ j => exact congrArg _ (k2 i j oi oj d (by simpa using hi) (by simpa using hj) hd hd')
theorem stat_of {l : List Oper} {n nt : Nat} (h : distB nt (l.take n) = true) : Stat l.toArray n nt := by
  obtain ⟨h1, h2⟩ := distB_spec h
  have get : ∀ i d, i < n → made l.toArray i = some d → ∃ oi, (l.take n)[i]? = some oi ∧ oi.dst = some d := fun i d hi hm => by
    unfold made at hm
    cases ho : l.toArray[i]? with
    | none => rw [ho] at hm; cases hm
    | some o => rw [ho] at hm; exact ⟨o, by rw [List.getElem?_take, if_pos hi]; simpa using ho, hm⟩
  constructor
  · intro i j d hi hj hm hm'
    obtain ⟨oi, a1, a2⟩ := get i d hi hm
    obtain ⟨oj, b1, b2⟩ := get j d hj hm'
    exact h2 i j oi oj d a1 b1 a2 b2
  · intro i d hi hm
    obtain ⟨oi, a1, a2⟩ := get i d hi hm
    exact h1 i oi d a1 a2

theorem awp_region_drawU {P : Program} {w0 : World} {s : AS} {Q : Exit → Act → World → Prop} {id : Nat} {l : List Oper} (n : Nat) (hm : P.follows .mixedOrders = true) (hB : (Region.lexTailB .any l.toArray n && distB s.nt (l.take n)) = true)
    (h : DU P l.toArray s ⟨0, []⟩ (l.take n) fun s' ns => FinU (fun s'' => AOps P w0 l.toArray s'' (l.drop n) Q) s' ns.es) : AWp P w0 s (.region id l.toArray true) Q := by
  rw [Bool.and_eq_true] at hB
  obtain ⟨hB, hD⟩ := hB
  have hS := stat_of hD
  have hn' : n < l.length := by
    simp only [Region.lexTailB, Bool.and_eq_true, decide_eq_true_eq] at hB
    simpa using hB.1.1.1.2
  refine ⟨fun a w hs => ?_⟩
  have hb1 : Below w0.heap.size w0 (w.drewN 1) := below_drewN hs.below 1
  obtain ⟨Rs, _, hRs⟩ := du_rel (P := P) (ops := l.toArray) (n := n) (T := fun Rs a' F => ∀ w' listed, CB (w.drewN 1) w' → F w' → Feet l.toArray Rs n (w.drewN 1).heap.size listed a' w' → (∀ j, j < n → listed.getD j false = true) → wpList P l.toArray Q (l.drop n) a' w') hb1 hS _ _ _ _ h
    (fun j hj => by simp at hj; simp [hj]) (by simp; omega) (fun _ => SF.pure fun _ => True)
  refine wp_region_rel2 (lo := (w.drewN 1).heap.size) n Rs (CB (w.drewN 1)) hm hB (by rw [hs.size]; exact hS) (fun w' hw => Below.size hw) (Below.refl _ _) (hRs a _ ⟨hs.size, hs.defers, hs.env, hs.heap.below (below_drewN (Below.refl _ _) 1), (fun e he => by cases he), (by simp)⟩ fun s' ns a' F hK hnk hp w' listed hw hF hft hall => ?_)
  have hsat := hp.sat hb1 hw
  have hfin := finU_sat ns.es s' hK hsat (fun e he => (hp.ents e he).2.2.2 w' hF) (fun e he g hg => by
    obtain ⟨h1, h2, h3, h4⟩ := hp.ents e he
    have hg' : (Rs e.j).ft (a'.tmps.getD e.d undef) g := by rw [h3]; exact hg
    obtain ⟨q1, q2⟩ := hft.lt e.j e.d (by omega) h1 (hall _ (by omega)) g hg'
    exact ⟨Nat.le_trans hb1.size q1, q2, fun x hx hxf => absurd (hp.heap.foot x hx g hxf).2 (by omega)⟩) (by
    have hnd := hp.nodup
    rw [List.nodup_iff_pairwise_ne, List.pairwise_map] at hnd
    refine hnd.imp_of_mem fun {e e'} he he' hne g hg hg' => ?_
    obtain ⟨h1, h2, h3, h4⟩ := hp.ents e he
    obtain ⟨h1', h2', h3', h4'⟩ := hp.ents e' he'
    exact hft.ap e.j e'.j e.d e'.d (by omega) (by omega) hne h1 h1' (hall _ (by omega)) (hall _ (by omega)) g (by rw [h3]; exact hg) (by rw [h3']; exact hg'))
  obtain ⟨s2, hK2, hs2⟩ := hfin
  exact hK2.out a' w' hs2

structure DWU (P : Program) (ops : Array Oper) (s : AS) (ns : NS) (j : Nat) (l : List Oper) (K : AS → NS → Prop) : Prop where
  out : DU P ops s ns (l.take j) K
structure FinV (K : AS → Prop) (s : AS) (es : List Ent) : Prop where
  out : FinU K s es
theorem FinU.mono {K K' : AS → Prop} (h : ∀ s, K s → K' s) : ∀ {es : List Ent} {s : AS}, FinU K s es → FinU K' s es
  | [], _, k => h _ k
  | ⟨_, _, .box _⟩ :: _, _, k => fun b => FinU.mono h (k b)
  | ⟨_, _, .row ..⟩ :: _, _, k => fun sv => FinU.mono h (k sv)
  | ⟨_, _, .late _⟩ :: es, s, k => FinU.mono (es := es) (s := s) h k
theorem DU.mono {P : Program} {ops : Array Oper} {K K' : AS → NS → Prop} (h : ∀ s ns, K s ns → K' s ns) : ∀ {l : List Oper} {s : AS} {ns : NS}, DU P ops s ns l K → DU P ops s ns l K'
  | [], _, _, k => h _ _ k
  | _ :: _, _, _, ⟨h1, .inl ⟨h2, .inl ⟨A, h4, h5⟩⟩⟩ => ⟨h1, .inl ⟨h2, .inl ⟨A, h4, DU.mono h h5⟩⟩⟩
  | _ :: _, _, _, ⟨h1, .inl ⟨h2, .inr ⟨d, m, h5, h6, h8⟩⟩⟩ => ⟨h1, .inl ⟨h2, .inr ⟨d, m, h5, h6, DU.mono h h8⟩⟩⟩
  | _ :: _, _, _, ⟨h1, .inr ⟨h2, h8⟩⟩ => ⟨h1, .inr ⟨h2, DU.mono h h8⟩⟩
theorem awp_drawU {P : Program} {w0 : World} {s : AS} {Q : Exit → Act → World → Prop} {id : Nat} {l : List Oper} (n : Nat) (hm : P.follows .mixedOrders = true) (hB : (Region.lexTailB .any l.toArray n && distB s.nt (l.take n)) = true)
    (h : DWU P l.toArray s ⟨0, []⟩ n l fun s' ns => FinV (fun s'' => ADrop P w0 l.toArray s'' n l Q) s' ns.es) : AWp P w0 s (.region id l.toArray true) Q :=
  awp_region_drawU n hm hB (h.out.mono fun s' ns k => k.out.mono fun s2 k2 => k2.out)

/-- What an operand of the head is for a callee that enters now. -/
def GivE (s : AS) (es : List Ent) (after : Array Edge) (x : Operand) (A : AV) : Prop := ∀ w0 a w, Sat w0 s a w → Facts w0 es after a w → A.R w (a.eval x)
def GivsE (s : AS) (es : List Ent) (after : Array Edge) : List Operand → List AV → Prop
  | [], [] => True
  | x :: xs, A :: As => GivE s es after x A ∧ GivsE s es after xs As
  | _, _ => False
def Turns (mk : Value → AV) (size n : Nat) (c : Nat → List AV) (A : AV) : Prop := ∀ w0 w u sv, Below w0.heap.size w0 w → (mk sv).R w0 u → (rs size n c).R w sv → A.R w u
theorem turns_vv {size n : Nat} {c : Nat → List AV} : Turns (fun sv => vv sv) size n c (rs size n c) := fun w0 w u sv _ h k => by
  obtain rfl : u = sv := h
  exact k
section
variable {P : Program} {s : AS} {es : List Ent} {after : Array Edge}
theorem GivE.of {x : Operand} {A : AV} (h : Giv s x A) : GivE s es after x A := fun w0 a w hs _ => h w0 a w hs
theorem rs_of_ok {w0 w : World} {v : Value} {T size n : Nat} {c : Nat → List AV} (hb : Below w0.heap.size w0 w) (h : (HE.row v T size n c).ok w0 w) (hl : ∀ g, v.ownBlock = some g → g < w.heap.size) : (rs size n c).R w v := by
  obtain ⟨xs, ⟨hlen, h1⟩, h2, h3⟩ := h
  rcases h1 with ⟨rfl, rfl⟩ | ⟨g, cap, cur, rfl, hg, hh, hnc, hcm, hcs, ht⟩
  · exact ⟨none, 0, rfl, Nat.le_refl _, fun h0 => absurd h0 (by omega)⟩
  · refine ⟨_, cap, rfl, hnc, fun _ => ⟨g, 0, rfl, fun k hk => ⟨hl g rfl, fun j A hj => ?_⟩⟩⟩
    obtain ⟨u, hu, hr⟩ := (h2 k hk).get hj
    refine ⟨u, ?_, A.mono hb hr, h3 u (List.mem_of_mem_drop (List.mem_of_mem_take (List.mem_of_getElem? hu)))⟩
    rw [List.getElem?_take] at hu
    split at hu
    · rename_i hj2
      rw [List.getElem?_drop, ← ht, List.getElem?_take] at hu
      split at hu
      · rw [Nat.zero_add, cell_of_row w g _ cur T (0, 0) hh, ← Array.getElem?_toList]
        exact hu
      · cases hu
    · cases hu
theorem GivE.row {j d T size n : Nat} {c : Nat → List AV} {mk : Value → AV} {A : AV} (hm : ⟨j, d, .row T size n c mk⟩ ∈ es) (hf : Fore after ⟨j, d, .row T size n c mk⟩ = true) (hA : Turns mk size n c A) : GivE s es after (.tmp d) A := fun w0 a w hs hF => by
  obtain ⟨sv, h1, h2, h3⟩ := hF _ hm hf
  exact hA w0 w _ sv hs.below h1 (rs_of_ok hs.below h3 h2)
theorem GivE.late {j d : Nat} {A : AV} (hm : ⟨j, d, .late A⟩ ∈ es) (hf : Fore after ⟨j, d, .late A⟩ = true) : GivE s es after (.tmp d) A := fun w0 a w hs hF => hF _ hm hf
theorem GivsE.nil : GivsE s es after [] [] := trivial
theorem GivsE.cons {x : Operand} {A : AV} {xs : List Operand} {As : List AV} (h : GivE s es after x A) (k : GivsE s es after xs As) : GivsE s es after (x :: xs) (A :: As) := ⟨h, k⟩
theorem GivsE.all {w0 : World} {a : Act} {w : World} (hs : Sat w0 s a w) (hF : Facts w0 es after a w) : ∀ {xs : List Operand} {As : List AV}, GivsE s es after xs As → All w As (xs.map a.eval)
  | [], [], _ => trivial
  | _ :: _, _ :: _, h => ⟨h.1 w0 a w hs hF, GivsE.all hs hF h.2⟩
  | [], _ :: _, h => h.elim
  | _ :: _, [], h => h.elim
end

section
variable {P : Program} {nt : Nat} {env : List (Nat × AV)} {H : List HE} {ops : Array Oper} {rest : List Oper} {op : Op} {ty : TypeId} {pos : String} {after : Array Edge} {ns : NS} {K : AS → NS → Prop}
theorem gon_none {s : AS} {d : Option Tmp} : GOn ops s ⟨d, op, ty, pos, after, none⟩ := ⟨fun _ _ _ _ => by simp [Region.wanted]⟩
theorem du_ev {d j : Nat} {A : AV} (h : Ev P ⟨nt, env, H⟩ ⟨some d, op, ty, pos, after, none⟩ A) (hd : Nat.blt d nt = true) (k : DWU P ops ⟨nt, (d, A) :: env, H⟩ ns.up j rest K) : DWU P ops ⟨nt, env, H⟩ ns (j + 1) (⟨some d, op, ty, pos, after, none⟩ :: rest) K :=
  ⟨⟨hd, .inl ⟨gon_none, .inl ⟨A, ⟨fun w0 a w hs _ => h.out w0 a w hs⟩, k.out⟩⟩⟩⟩
theorem du_alloc {d j : Nat} {t : TypeId} {zl : List AV} (hz : TyZ P t zl) (hd : Nat.blt d nt = true) (k : DWU P ops ⟨nt, (d, top) :: env, H⟩ (ns.add d (.box zl)) j rest K) : DWU P ops ⟨nt, env, H⟩ ns (j + 1) (⟨some d, .alloc t, ty, pos, after, none⟩ :: rest) K :=
  ⟨⟨hd, .inl ⟨gon_none, .inr ⟨d, .box zl, rfl, ⟨fun w0 a w hs _ => by
    obtain ⟨i, z, hi, hzz, hl⟩ := hz
    have hr : (execOp a.eval ⟨some d, .alloc t, ty, pos, after, none⟩).run P w = .ok (.value (.pointer (some ⟨w.heap.size, 0, none⟩))) (w.alloc (.cells z.cells t)) := by
      simp [execOp, Instr.alloc, zeroValue, typeInfo, hi, hzz, newVar, newRow]
    rw [hr]
    have hb : Below w.heap.size w (w.alloc (.cells z.cells t)) := (Below.refl _ _).alloc (Nat.le_refl _) _
    refine ⟨hb, ⟨w.heap.size, rfl, by simp, z.cells, t, heap_alloc_new w _, (hl w0).1, (hl w0).2⟩, fun g hg => ?_⟩
    have hg : Value.pointer (some ⟨w.heap.size, 0, none⟩) = .pointer (some ⟨g, 0, none⟩) := hg
    obtain rfl : w.heap.size = g := by simpa using hg
    simp⟩, k.out⟩⟩⟩⟩
theorem du_call {d f j : Nat} {x : Operand} {A : AV} {As : List AV} {args : List Operand} {ts : Array TypeId} (hx : Opd ⟨nt, env, H⟩ x (vv (.func (.func f) #[] #[]))) (hc : Con P f As (RetA A)) (ha : GivsE ⟨nt, env, H⟩ ns.es after args As) (hd : Nat.blt d nt = true)
    (k : DWU P ops ⟨nt, (d, A) :: env, H⟩ ns.up j rest K) : DWU P ops ⟨nt, env, H⟩ ns (j + 1) (⟨some d, .call ⟨.value x, args.toArray, ts⟩, ty, pos, after, none⟩ :: rest) K :=
  ⟨⟨hd, .inl ⟨gon_none, .inl ⟨A, ⟨fun w0 a w hs hF => by
    have e : a.eval x = _ := hx w0 a w hs
    rw [run_call hc.1 x args.toArray ts rfl a e w]
    refine ⟨Below.refl _ _, ?_⟩
    have := hc.2 w (args.map a.eval) (ha.all hs hF)
    rw [show args.toArray.map a.eval = (args.map a.eval).toArray by simp]
    refine this.mono fun e w' h => ?_
    obtain ⟨v, rfl, hb, hq⟩ := h
    exact ⟨v, rfl, hb, hq _⟩⟩, k.out⟩⟩⟩⟩
/-- What a function hands back that lies in new memory alone. -/
def RetFresh (A : AV) (w : World) (v : Value) (w' : World) : Prop := ∀ w2 : World, w'.heap.size ≤ w2.heap.size → (∀ g, w.heap.size ≤ g → g < w'.heap.size → w2.heap[g]? = w'.heap[g]?) → A.R w2 v
theorem du_gyes {d : Option Tmp} {j dj j1 : Nat} {want b : Bool} {s : AS} (hj : (ops[j]?).bind (·.dst) = some dj) (hb : look dj s.env = some (vv (.bool b))) (he : b = want) (k : DWU P ops s ns (j1 + 1) (⟨d, op, ty, pos, after, none⟩ :: rest) K) : DWU P ops s ns (j1 + 1) (⟨d, op, ty, pos, after, some (j, want)⟩ :: rest) K := by
  have hon : GOn ops s ⟨d, op, ty, pos, after, some (j, want)⟩ := ⟨fun w0 a w hs => by
    have hy := yielded_of (ops := ops) hs hj hb
    subst he
    simp [Region.wanted, hy]⟩
  obtain ⟨hd, h⟩ := k.out
  rcases h with ⟨_, ⟨A, h1, h2⟩ | ⟨d', m, h1, h2, h3⟩⟩ | ⟨hg, _⟩
  · exact ⟨⟨hd, .inl ⟨hon, .inl ⟨A, ⟨h1.out⟩, h2⟩⟩⟩⟩
  · exact ⟨⟨hd, .inl ⟨hon, .inr ⟨d', m, h1, ⟨h2.out⟩, h3⟩⟩⟩⟩
  · refine ⟨⟨hd, .inl ⟨hon, .inl ⟨vv undef, ⟨fun w0 a w hs _ => ?_⟩, by assumption⟩⟩⟩⟩
    have := hg.out w0 a w hs
    simp [Region.wanted] at this
theorem du_gno {d j dj j1 : Nat} {want b : Bool} (hj : (ops[j]?).bind (·.dst) = some dj) (hb : look dj env = some (vv (.bool b))) (he : b = !want) (hd : Nat.blt d nt = true) (k : DWU P ops ⟨nt, (d, vv undef) :: env, H⟩ ns.up j1 rest K) : DWU P ops ⟨nt, env, H⟩ ns (j1 + 1) (⟨some d, op, ty, pos, after, some (j, want)⟩ :: rest) K :=
  ⟨⟨hd, .inr ⟨⟨fun w0 a w hs => by
    have hy := yielded_of (ops := ops) hs hj hb
    subst he
    simp [Region.wanted, hy]⟩, k.out⟩⟩⟩
theorem du_nil {s : AS} {l : List Oper} (h : K s ns) : DWU P ops s ns 0 l K := ⟨h⟩
theorem finv_nil {s : AS} {es : List Ent} {K : AS → Prop} (he : es = []) (h : K s) : FinV K s es := by subst he; exact ⟨h⟩
theorem finv_box {j d : Nat} {zl : List AV} {es es' : List Ent} {K : AS → Prop} (he : es = ⟨j, d, .box zl⟩ :: es') (h : ∀ b, FinV K ⟨nt, (d, ptr b 0) :: env, .cells b zl :: H⟩ es') : FinV K ⟨nt, env, H⟩ es := by subst he; exact ⟨fun b => (h b).out⟩
theorem finv_row {j d T size n : Nat} {c : Nat → List AV} {mk : Value → AV} {es es' : List Ent} {K : AS → Prop} (he : es = ⟨j, d, .row T size n c mk⟩ :: es') (h : ∀ sv, FinV K ⟨nt, (d, mk sv) :: env, .row sv T size n c :: H⟩ es') : FinV K ⟨nt, env, H⟩ es := by subst he; exact ⟨fun sv => (h sv).out⟩
theorem finv_late {j d : Nat} {A : AV} {s : AS} {es es' : List Ent} {K : AS → Prop} (he : es = ⟨j, d, .late A⟩ :: es') (h : FinV K s es') : FinV K s es := by subst he; exact ⟨h.out⟩
end
end Go.Proofs.Ytejpamlaacffaaa

/-
  Regions that draw their order: one more edge, where a part of a tuple is taken early or late. Conditions: none.
-/
namespace Go.Proofs.Ytejpamlaacffaaa
open Go Go.RowKit

def withE (p : Nat) (o : Oper) : Oper := { o with after := o.after.push ⟨p, .data⟩ }
def addE (p : Nat) : Nat → List Oper → List Oper
  | _, [] => []
  | 0, o :: r => withE p o :: r
  | q + 1, o :: r => o :: addE p q r
/-- What is looked at of an edge from p to q. -/
def edgeB (p q : Nat) (l : List Oper) : Bool :=
  !(Nat.beq p q) && Region.noSelect l.toArray && (match l[p]?, l[q]? with
    | some op, some oq => (match op.op with
      | .extract _ _ => true
      | _ => false) && op.guard.isNone && op.dst.isSome &&
      (op.after.toList.all fun e => !Region.binds .any e || oq.after.toList.any fun e' => Region.binds .any e' && Nat.beq e'.on e.on) &&
      ((List.range l.length).all fun j => Nat.beq j p || (op.after.toList.any fun e => Region.binds .any e && Nat.beq e.on j) || match l[j]? with
        | some oj => (oj.after.toList.any fun e => Region.binds .any e && Nat.beq e.on p) || op.apart l.toArray oj
        | none => true)
    | _, _ => false)

section
variable {P : Program} {Q : Exit → Act → World → Prop} {l : List Oper} {p q : Nat}
end

/-- Only what ends as usual. -/
def NoP (Q : Exit → Act → World → Prop) : Exit → Act → World → Prop := fun e a w => e = .normal ∧ Q e a w
def addEs : List (Nat × Nat) → List Oper → List Oper
  | [], l => l
  | (p, q) :: r, l => addEs r (addE p q l)
def edgesB (n : Nat) : List (Nat × Nat) → List Oper → Bool
  | [], _ => true
  | (p, q) :: r, l => Nat.ble n q && edgeB p q l && edgesB n r (addE p q l)
section
variable {P : Program} {Q : Exit → Act → World → Prop}
end

theorem aex_nop {w0 : World} {s : AS} {Q : Exit → Act → World → Prop} (h : AEx w0 s .normal Q) : AEx w0 s .normal (NoP Q) := ⟨fun a w hs => ⟨rfl, h.out a w hs⟩⟩
end Go.Proofs.Ytejpamlaacffaaa

/-
  Remainders of integers. Conditions: none.
-/
namespace Go.Proofs.Ytejpamlaacffaaa
open Go Go.RowKit
section
variable {P : Program} {s : AS} {o : Oper}
theorem ev_irem64 {t t' : TypeId} {x y : Operand} {a b : Int} (ho : o.op = .binOp .rem t x y t') (hx : Opd s x (vv (.int .i64 a))) (hy : Opd s y (vv (.int .i64 b))) (ha : 0 ≤ a) (ha' : a ≤ 9223372036854775807) (hb : 0 < b) : Ev P s o (vv (.int .i64 (a.tmod b))) := by
  refine ⟨fun w0 ac w hs => ?_⟩
  have e : ac.eval x = .int .i64 a := hx w0 ac w hs
  have e2 : ac.eval y = .int .i64 b := hy w0 ac w hs
  have hb0 : b ≠ 0 := by omega
  have h0 : 0 ≤ a.tmod b := by rw [Int.tmod_eq_emod_of_nonneg ha]; exact Int.emod_nonneg _ hb0
  have h1 : a.tmod b ≤ a := by
    rw [Int.tmod_eq_emod_of_nonneg ha, Int.emod_def]
    have h2 := Int.mul_nonneg (Int.le_of_lt hb) (Int.ediv_nonneg ha (Int.le_of_lt hb))
    omega
  have hw : IntKind.wrap .i64 (a.tmod b) = a.tmod b := IntWalk.i64_in _ (by omega)
  have : (binOp .rem t (.int .i64 a) (.int .i64 b)).run P w = .ok (.int .i64 (a.tmod b)) w := by
    simp [binOp, Op.intArith, Op.intDiv, hw, hb0]
  simp only [execOp, ho, e, e2, run_eqGuard_int, this, Sem.run_bind, Sem.run_pure, Result.andThen_ok]
  exact .of_val rfl
end
end Go.Proofs.Ytejpamlaacffaaa

/-
  Slices made by 'make', and elements written: slices of the call's own. Conditions: none.
-/
namespace Go.Proofs.Ytejpamlaacffaaa
open Go Go.RowKit

section
variable {P : Program} {s : AS} {o : Oper}
/-- The address of an element of a slice of the call's own. -/
theorem ev_indexOwn {t e : TypeId} {x y : Operand} {q : IntKind} {g size n cap k : Nat} (ho : o.op = .indexAddr t x y) (hx : Opd s x (vv (.slice (some ⟨g, 0, none⟩) n cap))) (hy : Opd s y (vv (.int q (k : Int)))) (ht : TyS P t e size) (hk : k < n) : Ev P s o (ptr g (k * size)) := by
  refine ⟨fun w0 a w hs => ?_⟩
  have ex : a.eval x = .slice (some ⟨g, 0, none⟩) n cap := hx w0 a w hs
  have ey : a.eval y = .int q (k : Int) := hy w0 a w hs
  obtain ⟨i, hu, hi, hs'⟩ := ht
  have : (Instr.indexAt t (.slice (some ⟨g, 0, none⟩) n cap) (.int q (k : Int))).run P w = .ok (.pointer (some ⟨g, k * size, none⟩)) w := by
    simp [Instr.indexAt, asIntOf, run_underlying hu, sizeOf, typeInfo, hi, hs', add_lit]
    omega
  simp only [execOp, ho, ex, ey, this, Sem.run_bind, Sem.run_pure, Result.andThen_ok]
  exact .of_val rfl
end

section
variable {P : Program} {w0 : World} {ops : Array Oper} {nt : Nat} {env : List (Nat × AV)} {H : List HE} {rest : List Oper} {Q : Exit → Act → World → Prop} {ty : TypeId} {pos : String} {after : Array Edge}
end
end Go.Proofs.Ytejpamlaacffaaa

/-
  Calls that turn memory of the caller's own; closures; parts of elements written and read; slices that grow by slices; slices cut. Conditions: none.
-/
namespace Go.Proofs.Ytejpamlaacffaaa
open Go Go.RowKit

theorem HSub.refl : ∀ H, HSub H H
  | [] => .nil
  | _ :: H => .keep (HSub.refl H)

/-- Memory in two parts. -/
inductive HSplit : List HE → List HE → List HE → Prop where
  | nil : HSplit [] [] []
  | left {e A H R} : HSplit A H R → HSplit (e :: A) (e :: H) R
  | right {e A H R} : HSplit A H R → HSplit (e :: A) H (e :: R)
theorem HSplit.mem {A H R : List HE} (h : HSplit A H R) : (∀ e ∈ H, e ∈ A) ∧ ∀ e ∈ R, e ∈ A := by
  induction h with
  | nil => exact ⟨fun e h => h, fun e h => h⟩
  | left _ ih => exact ⟨fun e h => by
      cases h with
      | head => exact .head _
      | tail _ h => exact .tail _ (ih.1 e h), fun e h => .tail _ (ih.2 e h)⟩
  | right _ ih => exact ⟨fun e h => .tail _ (ih.1 e h), fun e h => by
      cases h with
      | head => exact .head _
      | tail _ h => exact .tail _ (ih.2 e h)⟩
theorem HSplit.ok {w0 w : World} {A H R : List HE} (h : HSplit A H R) : HOk w0 w A → HOk w0 w H ∧ HOk w0 w R ∧ ∀ e ∈ H, ∀ e' ∈ R, ∀ g, e.foot g → ¬ e'.foot g := by
  induction h with
  | nil => intro _; exact ⟨trivial, trivial, fun e h => by cases h⟩
  | @left e A H R hs ih =>
    intro hA
    obtain ⟨h1, h2, h3⟩ := ih hA.2.2
    refine ⟨⟨hA.1, fun g hg => ⟨(hA.2.1 g hg).1, (hA.2.1 g hg).2.1, fun e' he' => (hA.2.1 g hg).2.2 e' (hs.mem.1 e' he')⟩, h1⟩, h2, fun x hx e' he' g hg => ?_⟩
    cases hx with
    | head => exact (hA.2.1 g hg).2.2 e' (hs.mem.2 e' he')
    | tail _ hx => exact h3 x hx e' he' g hg
  | @right e A H R hs ih =>
    intro hA
    obtain ⟨h1, h2, h3⟩ := ih hA.2.2
    refine ⟨h1, ⟨hA.1, fun g hg => ⟨(hA.2.1 g hg).1, (hA.2.1 g hg).2.1, fun e' he' => (hA.2.1 g hg).2.2 e' (hs.mem.2 e' he')⟩, h2⟩, fun x hx e' he' g hg hg' => ?_⟩
    cases he' with
    | head => exact (hA.2.1 g hg').2.2 x (hs.mem.1 x hx) hg
    | tail _ he' => exact h3 x hx e' he' g hg hg'
theorem HOk.append {w0 w : World} : ∀ {H R : List HE}, HOk w0 w H → HOk w0 w R → (∀ e ∈ H, ∀ e' ∈ R, ∀ g, e.foot g → ¬ e'.foot g) → HOk w0 w (H ++ R)
  | [], _, _, hR, _ => hR
  | e :: H, R, hH, hR, hd => ⟨hH.1, fun g hg => ⟨(hH.2.1 g hg).1, (hH.2.1 g hg).2.1, fun e' he' => by
      rcases List.mem_append.1 he' with h | h
      · exact (hH.2.1 g hg).2.2 e' h
      · exact hd e (.head _) e' h g hg⟩, HOk.append hH.2.2 hR fun x hx => hd x (.tail _ hx)⟩
theorem HOk.parts {w0 w : World} : ∀ {H R : List HE}, HOk w0 w (H ++ R) → HOk w0 w H ∧ HOk w0 w R ∧ ∀ e ∈ H, ∀ e' ∈ R, ∀ g, e.foot g → ¬ e'.foot g
  | [], _, h => ⟨trivial, h, fun e he => by cases he⟩
  | e :: H, R, h => by
    obtain ⟨h1, h2, h3⟩ := HOk.parts h.2.2
    refine ⟨⟨h.1, fun g hg => ⟨(h.2.1 g hg).1, (h.2.1 g hg).2.1, fun e' he' => (h.2.1 g hg).2.2 e' (List.mem_append_left _ he')⟩, h1⟩, h2, fun x hx e' he' g hg => ?_⟩
    cases hx with
    | head => exact (h.2.1 g hg).2.2 e' (List.mem_append_right _ he')
    | tail _ hx => exact h3 x hx e' he' g hg

/-- What is left alone by a call that is handed the entries H. -/
def Rest (w0 w : World) (H : List HE) (g : Nat) : Prop := w0.heap.size ≤ g ∧ g < w.heap.size ∧ ∀ e ∈ H, ¬ e.foot g
/-- The contract of a function that turns memory of its caller's own: H becomes H' i, for some i, and the value is A i. -/
def ConM (P : Program) (f : FuncId) (As : List AV) (H : List HE) {ι : Type} (A : ι → AV) (H' : ι → List HE) : Prop :=
  Can P f ∧ ∀ w0 w vs, Below w0.heap.size w0 w → All w0 As vs → HOk w0 w H → Calls P f vs.toArray w fun e w' => ∃ v i, e = .returned v ∧ (A i).R w0 v ∧ Below w0.heap.size w0 w' ∧ HOk w0 w' (H' i) ∧ w.heap.size ≤ w'.heap.size ∧
    (∀ g, Rest w0 w H g → w'.heap[g]? = w.heap[g]?) ∧ ∀ e ∈ H' i, ∀ g, e.foot g → ¬ Rest w0 w H g

theorem HOk.rest {w0 w : World} {H : List HE} (h : HOk w0 w H) : HOk w0 w (H ++ [.fr w (Rest w0 w H)]) :=
  h.append ⟨⟨Nat.le_refl _, fun _ _ => rfl⟩, fun g hg => ⟨hg.1, hg.2.1, fun e' he' => by cases he'⟩, trivial⟩ fun e he e' he' g hg hg' => by
    cases he' with
    | head => exact hg'.2.2 e he hg
    | tail _ he' => cases he'

section
variable {P : Program}
def RetM (w0 w : World) (H : List HE) {ι : Type} (A : ι → AV) (H' : ι → List HE) (e : Ending) (w' : World) : Prop :=
  ∃ v i, e = .returned v ∧ (A i).R w0 v ∧ Below w0.heap.size w0 w' ∧ HOk w0 w' (H' i) ∧ w.heap.size ≤ w'.heap.size ∧ (∀ g, Rest w0 w H g → w'.heap[g]? = w.heap[g]?) ∧ ∀ e ∈ H' i, ∀ g, e.foot g → ¬ Rest w0 w H g
/-- The way into a function that turns memory of its caller's own. -/
theorem conM_enter {f : FuncId} {fn : Func} {c : Code} {As : List AV} {nt : Nat} {H : List HE} {ι : Type} {A : ι → AV} {H' : ι → List HE} (hf : P.funcs[f]? = some fn) (hb : fn.body = some c) (hn : (fn.name == "runtime.NumGoroutine") = false) (ht : fn.ntmps = nt) (hl : Nat.ble As.length nt = true)
    (h : ∀ w0 w, AWp P w0 ⟨nt, zipEnv 0 As, H ++ [.fr w (Rest w0 w H)]⟩ c (bodyPost P fn (RetM w0 w H A H'))) : ConM P f As H A H' := by
  refine ⟨⟨fn, hf, by rw [hb]; rfl, hn⟩, fun w0 w vs hbel hv hH => calls_of_wp hf hb ((h w0 w).out _ w ⟨hbel, ?_, rfl, fun t A e => ?_, hH.rest⟩)⟩
  · have := hv.length
    have hl' : As.length ≤ nt := Nat.ble_eq ▸ hl
    simp [ht]
    omega
  · obtain ⟨j, rfl, u, hu, hr⟩ := zipEnv_look 0 hv t A e
    have hj : j < vs.length := (List.getElem?_eq_some_iff.1 hu).1
    have : (vs.toArray ++ Array.replicate (fn.ntmps - vs.toArray.size) undef).getD (0 + j) undef = u := by
      rw [Array.getD_eq_getD_getElem?, Nat.zero_add, Array.getElem?_append_left (by simpa using hj)]
      simp [hu]
    rw [this]
    exact hr
theorem retM_of {w0 w w' : World} {H : List HE} {ι : Type} {A : ι → AV} {H' : ι → List HE} {v : Value} (i : ι) (hv : (A i).R w0 v) (hb : Below w0.heap.size w0 w') (hH : HOk w0 w' (H' i ++ [.fr w (Rest w0 w H)])) : RetM w0 w H A H' (.returned v) w' := by
  obtain ⟨h1, h2, h3⟩ := hH.parts
  exact ⟨v, i, rfl, hv, hb, h1, h2.1.1, fun g hg => h2.1.2 g hg, fun e he g hg => h3 e he _ (.head _) g hg⟩
theorem aex_retM {w0 w : World} {s : AS} {fn : Func} {r : ResultVar} {H : List HE} {ι : Type} {A : ι → AV} {H' : ι → List HE} (i : ι) (hf : fn.results = #[r]) (h : ResV P s r (A i)) (hH : HSub s.heap (H' i ++ [.fr w (Rest w0 w H)])) : AEx w0 s .ret (bodyPost P fn (RetM w0 w H A H')) := by
  refine ⟨fun a w' hs => ?_⟩
  obtain ⟨v, hr, hv⟩ := h w0 a w' hs
  refine ⟨hs.defers, v, ?_, retM_of i hv hs.below (hH.ok hs.heap)⟩
  rw [results_eq, hf]
  simp [hr]
/-- A function value: a function of the program with what it has captured. -/
def clo (f : FuncId) (l : List AV) : AV := ⟨fun w v => ∃ cs : List Value, v = .func (.func f) #[] cs.toArray ∧ All w l cs, l.all (·.p),
  fun hb h => by obtain ⟨cs, e, h⟩ := h; exact ⟨cs, e, h.mono hb⟩, fun hp _ _ _ h => by obtain ⟨cs, e, h⟩ := h; exact ⟨cs, e, All.pure hp h⟩⟩
def Opds (s : AS) : List Operand → List AV → Prop
  | [], [] => True
  | x :: xs, A :: As => Opd s x A ∧ Opds s xs As
  | _, _ => False
theorem Opds.nil {s : AS} : Opds s [] [] := trivial
theorem Opds.cons {s : AS} {x : Operand} {A : AV} {xs : List Operand} {As : List AV} (h : Opd s x A) (k : Opds s xs As) : Opds s (x :: xs) (A :: As) := ⟨h, k⟩
theorem Opds.all {s : AS} {w0 w : World} {a : Act} (hs : Sat w0 s a w) : ∀ {xs : List Operand} {As : List AV}, Opds s xs As → All w0 As (xs.map a.eval)
  | [], [], _ => trivial
  | _ :: _, _ :: _, h => ⟨h.1 w0 a w hs, Opds.all hs h.2⟩
  | [], _ :: _, h => h.elim
  | _ :: _, [], h => h.elim
theorem Opd.cloF {s : AS} (f : FuncId) : Opd s (.func f) (clo f []) := fun _ _ _ _ => ⟨[], rfl, trivial⟩
theorem run_callC {o : Oper} {f : FuncId} (hc : Can P f) (x : Operand) (args : Array Operand) (ts : Array TypeId) (ho : o.op = .call { callee := .value x, args := args, argTypes := ts }) (a : Act) (cs : List Value) (hx : a.eval x = .func (.func f) #[] cs.toArray) (w : World) :
    (execOp a.eval o).run P w = .ok (.enter f (args.map a.eval ++ cs.toArray)) w := by
  obtain ⟨fn, hf, hb, hn⟩ := hc
  simp only [execOp, ho, resolve, hx, Deferred.ofValue, Sem.run_bind, Sem.run_pure, Result.andThen_ok, invoke, callFunc, run_program, hf, hn, hb]
  simp
theorem ev_makeFunc {s : AS} {o : Oper} {f : FuncId} {xs : List Operand} {l : List AV} (ho : o.op = .makeFunc (.func f) #[] xs.toArray) (h : Opds s xs l) : Ev P s o (clo f l) := by
  refine ⟨fun w0 a w hs => ?_⟩
  have he : (xs.toArray.map a.eval) = (xs.map a.eval).toArray := by simp
  simp only [execOp, ho, Instr.makeFunc, he, List.map_toArray, List.map_nil, Array.map_empty, Sem.run_bind, Sem.run_pure, Result.andThen_ok]
  exact .of_val ⟨_, rfl, h.all hs⟩
end

section
variable {P : Program} {w0 : World} {ops : Array Oper} {nt : Nat} {env : List (Nat × AV)} {H : List HE} {rest : List Oper} {Q : Exit → Act → World → Prop} {ty : TypeId} {pos : String} {after : Array Edge}
theorem Sat.step2 {w0 : World} {s : AS} {a : Act} {w w' : World} {A : AV} {v : Value} {dst : Option Tmp} {H : List HE} (h : Sat w0 s a w) (hb0 : Below w0.heap.size w0 w') (hv : A.R w0 v) (hd : dok s dst = true) (hH : HOk w0 w' H) : Sat w0 (s.with dst A H) (a.put dst v) w' := by
  cases dst with
  | none => exact ⟨hb0, h.size, h.defers, h.env, hH⟩
  | some d =>
    have hd' : d < a.tmps.size := by rw [h.size]; exact Nat.blt_eq ▸ hd
    exact ⟨hb0, by simp [AS.with, Act.put, h.size], h.defers, look_put h.env hv hd', hH⟩
theorem callM_sat {s : AS} {a : Act} {w w' : World} {H1 R : List HE} {dst : Option Tmp} {ι : Type} {A : ι → AV} {H' : ι → List HE} {v : Value} {i : ι} (hs : Sat w0 s a w) (hsp : HSplit s.heap H1 R) (hd : dok s dst = true)
    (hv : (A i).R w0 v) (hb : Below w0.heap.size w0 w') (hH : HOk w0 w' (H' i)) (hsz : w.heap.size ≤ w'.heap.size) (hk : ∀ g, Rest w0 w H1 g → w'.heap[g]? = w.heap[g]?) (hf : ∀ e ∈ H' i, ∀ g, e.foot g → ¬ Rest w0 w H1 g) : Sat w0 (s.with dst (A i) (H' i ++ R)) (a.put dst v) w' := by
  obtain ⟨k1, k2, k3⟩ := hsp.ok hs.heap
  have hr : ∀ e ∈ R, ∀ g, e.foot g → Rest w0 w H1 g := fun e he g hg => ⟨(k2.foot e he g hg).1, (k2.foot e he g hg).2, fun e' he' hg' => k3 e' he' e he g hg' hg⟩
  exact hs.step2 hb hv hd (hH.append (k2.keep hsz fun e he g hg => hk g (hr e he g hg)) fun e he e' he' g hg hg' => hf e he g hg (hr e' he' g hg'))
/-- A call that turns memory of the call's own. -/
theorem aops_callM {d : Nat} {f : FuncId} {x : Operand} {As l : List AV} {H1 R : List HE} {ι : Type} {A : ι → AV} {H' : ι → List HE} {args : List Operand} {ts : Array TypeId} (hc : ConM P f (As ++ l) H1 A H') (hx : Opd ⟨nt, env, H⟩ x (clo f l)) (ha : Opds ⟨nt, env, H⟩ args As) (hsp : HSplit H H1 R) (hd : Nat.blt d nt = true)
    (k : ∀ i, AOps P w0 ops ⟨nt, (d, A i) :: env, H' i ++ R⟩ rest Q) : AOps P w0 ops ⟨nt, env, H⟩ (⟨some d, .call { callee := .value x, args := args.toArray, argTypes := ts }, ty, pos, after, none⟩ :: rest) Q := by
  refine ⟨fun a w hs => wpList_plain rfl fun K hK => ?_⟩
  obtain ⟨cs, e, hcs⟩ := hx w0 a w hs
  unfold Oper.wp
  rw [run_callC hc.1 x args.toArray ts rfl a cs e w]
  simp only [Oper.upon]
  rw [show args.toArray.map a.eval ++ cs.toArray = (args.map a.eval ++ cs).toArray by simp]
  refine (hc.2 w0 w _ hs.below ((ha.all hs).append hcs) (hsp.ok hs.heap).1).mono fun e w' h => ?_
  obtain ⟨v, i, rfl, hv, hb, hH, hsz, hk, hf⟩ := h
  exact hK _ _ ((k i).out _ _ (callM_sat (dst := some d) hs hsp hd hv hb hH hsz hk hf))
/-- A slice of the call's own that is not empty lies in a block. -/
theorem row_case {w0 w : World} {v : Value} {T size n : Nat} {c : Nat → List AV} (h : (HE.row v T size n c).ok w0 w) (hn : 0 < n) : ∃ g cap, v = .slice (some ⟨g, 0, none⟩) n cap := by
  obtain ⟨xs, ⟨_, h1⟩, _⟩ := h
  rcases h1 with ⟨_, h0⟩ | ⟨g, cap, cur, rfl, _⟩
  · omega
  · exact ⟨g, cap, rfl⟩
theorem awp_rowcase {s : AS} {cd : Code} {v : Value} {T size n : Nat} {c : Nat → List AV} (hm : HE.row v T size n c ∈ s.heap) (hn : 0 < n) (k : ∀ g cap, v = .slice (some ⟨g, 0, none⟩) n cap → AWp P w0 s cd Q) : AWp P w0 s cd Q := by
  refine ⟨fun a w hs => ?_⟩
  obtain ⟨g, cap, e⟩ := row_case (hs.heap.get _ hm) hn
  exact (k g cap e).out a w hs
/-- A cell of a slice of the call's own. -/
theorem own_row_cell {s : AS} {a : Act} {w : World} (hs : Sat w0 s a w) {g size n cap T k r : Nat} {c : Nat → List AV} {A : AV} (hm : HE.row (.slice (some ⟨g, 0, none⟩) n cap) T size n c ∈ s.heap) (hk : k < n) (hr : (c k)[r]? = some A) : ∃ u, w.cell? ⟨g, k * size + r, none⟩ = some u ∧ A.R w0 u ∧ u.oneCell' = true := by
  obtain ⟨xs, ⟨hlen, h1⟩, h2, h3⟩ := hs.heap.get _ hm
  rcases h1 with ⟨h1, _⟩ | ⟨g', cap', cur, hvv, hg, hh, hnc, hcm, hcs, htk⟩
  · cases h1
  injection hvv with q1 q2 q3
  injection q1 with q1
  injection q1 with q1 q4
  subst q1
  obtain ⟨u, hu, hru⟩ := (h2 k hk).get hr
  rw [List.getElem?_take] at hu
  split at hu
  · rw [List.getElem?_drop] at hu
    refine ⟨u, ?_, hru, h3 u (List.mem_of_getElem? hu)⟩
    rw [← htk, List.getElem?_take] at hu
    split at hu
    · rw [cell_of_row w g _ cur T (0, 0) hh, ← Array.getElem?_toList]
      exact hu
    · cases hu
  · cases hu
end
section
variable {P : Program} {s : AS} {o : Oper}
theorem ev_loadRowA {t : TypeId} {x : Operand} {g size n cap T k r i m : Nat} {c : Nat → List AV} {l : List AV} (ho : o.op = .load t x) (hx : Opd s x (ptr g i)) (ht : TyA P t m) (hm : HE.row (.slice (some ⟨g, 0, none⟩) n cap) T size n c ∈ s.heap) (hi : i = k * size + r) (hk : k < n) (hl : ((c k).drop r).take m = l) (hlm : l.length = m) : Ev P s o (agg l) := by
  refine ⟨fun w0 a w hs => ?_⟩
  subst hi
  have e : a.eval x = .pointer (some ⟨g, k * size + r, none⟩) := hx w0 a w hs
  obtain ⟨v, hr, hv⟩ := run_loadA (w := w) (w0 := w0) (b := g) (p := k * size + r) ht hlm fun j A hj => by
    rw [← hl, List.getElem?_take] at hj
    split at hj
    · rw [List.getElem?_drop] at hj
      obtain ⟨u, h1, h2, h3⟩ := own_row_cell hs hm hk hj
      exact ⟨u, by rw [Nat.add_assoc]; exact h1, h2, h3⟩
    · cases hj
  simp only [execOp, ho, e, Instr.loadAt, Instr.sureAddr, Sem.run_bind, Sem.run_pure, Result.andThen_ok, hr]
  exact .of_val hv
end

section
variable {P : Program} {w0 : World} {ops : Array Oper} {nt : Nat} {env : List (Nat × AV)} {H : List HE} {rest : List Oper} {Q : Exit → Act → World → Prop} {ty : TypeId} {pos : String} {after : Array Edge}
/-- An empty slice without room. -/
def es0 : AV := ⟨fun _ v => ∃ a, v = .slice a 0 0, true, fun _ h => h, fun _ _ _ _ h => h⟩
/-- 's[:h]', s of the call's own. -/
theorem aops_cut {d t e size n h cap g T : Nat} {x y : Operand} {q : IntKind} {c : Nat → List AV} {H' : List HE} (ht : TyS P t e size) (hx : Opd ⟨nt, env, H⟩ x (vv (.slice (some ⟨g, 0, none⟩) n cap))) (hy : Opd ⟨nt, env, H⟩ y (vv (.int q (h : Int)))) (hh : h ≤ n)
    (hr : HRep H (.row (.slice (some ⟨g, 0, none⟩) n cap) T size n c) (.row (.slice (some ⟨g, 0, none⟩) h cap) T size h c) H') (hd : Nat.blt d nt = true)
    (k : AOps P w0 ops ⟨nt, (d, vv (.slice (some ⟨g, 0, none⟩) h cap)) :: env, H'⟩ rest Q) : AOps P w0 ops ⟨nt, env, H⟩ (⟨some d, .slice t x none (some y) none, ty, pos, after, none⟩ :: rest) Q := by
  refine ⟨fun a w hs => wpList_plain rfl fun K hK => ?_⟩
  have ex : a.eval x = .slice (some ⟨g, 0, none⟩) n cap := hx w0 a w hs
  have ey : a.eval y = .int q (h : Int) := hy w0 a w hs
  obtain ⟨i, hu, hi, hs'⟩ := ht
  obtain ⟨xs, ⟨hlen, h1⟩, hrow, hone⟩ := hs.heap.get _ hr.mem
  rcases h1 with ⟨h1, _⟩ | ⟨g', cap', cur, hvv, hg, hh', hnc, hcm, hcs, htk⟩
  · cases h1
  injection hvv with q1 q2 q3
  injection q1 with q1
  injection q1 with q1 q4
  subst q1
  subst q3
  have hrun : (Instr.sliceAt t (.slice (some ⟨g, 0, none⟩) n cap) none (some (.int q (h : Int))) none).run P w = .ok (.slice (some ⟨g, 0, none⟩) h cap) w := by
    simp [Instr.sliceAt, Instr.slice, run_underlying hu, Instr.sliceBounds, Instr.sliceBound, asIntOf, sizeOf, typeInfo, hi, hs', Nat.le_trans hh hnc, add_lit]
  unfold Oper.wp
  simp only [execOp, ex, ey, Option.map_some, Option.map_none, hrun, Sem.run_bind, Sem.run_pure, Result.andThen_ok]
  have hle : h * size ≤ n * size := Nat.mul_le_mul_right _ hh
  refine hK _ _ (k.out _ _ (hs.step (A := vv _) (dst := some d) (Below.refl _ _) rfl hd (hr.ok (show ∀ b, (HE.row (.slice (some ⟨g, 0, none⟩) h cap) T size h c).foot b → (HE.row (.slice (some ⟨g, 0, none⟩) n cap) T size n c).foot b from fun _ h => h) hs.heap (Nat.le_refl _) (fun _ _ _ => rfl) ⟨xs.take (h * size), ⟨by rw [List.length_take, hlen]; omega, .inr ⟨g, cap, cur, rfl, hg, hh', Nat.le_trans hh hnc, hcm, hcs, by rw [← htk, List.take_take, Nat.min_eq_left hle]⟩⟩, fun j hj => ?_, fun u hu => hone u (List.mem_of_mem_take hu)⟩)))
  have hj2 : (j + 1) * size ≤ h * size := Nat.mul_le_mul_right _ hj
  rw [Nat.add_mul, Nat.one_mul] at hj2
  rw [List.drop_take, List.take_take, Nat.min_eq_left (by omega)]
  exact hrow j (by omega)
end
section
variable {P : Program} {s : AS} {o : Oper}
end
end Go.Proofs.Ytejpamlaacffaaa

/-
  Structs that hold a slice: meshes, wires. Slices as cells. Conditions: none.
-/
namespace Go.Proofs.Ytejpamlaacffaaa
open Go Go.RowKit

/-- The head of a mesh. -/
structure MH where
  F : V3
  S : Nat
  a : Int
  b : Int
  c : Int
def mesh (M : MH) (A : AV) : AV := agg [fl .f32 M.F.x, fl .f32 M.F.y, fl .f32 M.F.z, fl .f32 M.S, vv (.int .i64 M.a), vv (.int .i64 M.b), vv (.int .i64 M.c), A]
def wire (A : AV) (b : Bool) (X : Nat) : AV := agg [A, vv (.bool b), fl .f32 X]
theorem All_turn {w0 w : World} (hb : Below w0.heap.size w0 w) {A B : AV} (hAB : ∀ u, A.R w0 u → B.R w u) : ∀ {l1 l2 : List AV} {cs : List Value}, All w0 (l1 ++ A :: l2) cs → All w (l1 ++ B :: l2) cs
  | [], l2, c :: cs, h => ⟨hAB c h.1, h.2.mono hb⟩
  | C :: l1, l2, c :: cs, h => ⟨C.mono hb h.1, All_turn hb hAB (l1 := l1) h.2⟩
  | [], _, [], h => h.elim
  | _ :: _, _, [], h => h.elim
theorem agg_turn {w0 w : World} (hb : Below w0.heap.size w0 w) {A B : AV} (hAB : ∀ u, A.R w0 u → B.R w u) (l1 l2 : List AV) {v : Value} (h : (agg (l1 ++ A :: l2)).R w0 v) : (agg (l1 ++ B :: l2)).R w v := by
  obtain ⟨cs, e, h1, h2⟩ := h
  exact ⟨cs, e, All_turn hb hAB h1, h2⟩
section
variable {s : AS}
theorem row_now {w0 w : World} {a : Act} (hs : Sat w0 s a w) {v : Value} {T size n : Nat} {c : Nat → List AV} (hm : HE.row v T size n c ∈ s.heap) {u : Value} (hu : (vv v).R w0 u) : (rs size n c).R w u := by
  obtain rfl : u = v := hu
  exact rs_of_ok hs.below (hs.heap.get _ hm) (fun g hg => (hs.heap.foot _ hm g hg).2)
theorem Giv.mesh {x : Operand} {M : MH} {v : Value} {T size n : Nat} {c : Nat → List AV} (h : Opd s x (Go.Proofs.Ytejpamlaacffaaa.mesh M (vv v))) (hm : HE.row v T size n c ∈ s.heap) : Giv s x (Go.Proofs.Ytejpamlaacffaaa.mesh M (rs size n c)) := fun w0 a w hs =>
  agg_turn hs.below (fun _ hu => row_now hs hm hu) [fl .f32 M.F.x, fl .f32 M.F.y, fl .f32 M.F.z, fl .f32 M.S, vv (.int .i64 M.a), vv (.int .i64 M.b), vv (.int .i64 M.c)] [] (h w0 a w hs)
theorem Giv.wire {x : Operand} {b : Bool} {X : Nat} {v : Value} {T size n : Nat} {c : Nat → List AV} (h : Opd s x (Go.Proofs.Ytejpamlaacffaaa.wire (vv v) b X)) (hm : HE.row v T size n c ∈ s.heap) : Giv s x (Go.Proofs.Ytejpamlaacffaaa.wire (rs size n c) b X) := fun w0 a w hs =>
  agg_turn hs.below (fun _ hu => row_now hs hm hu) [] [vv (.bool b), fl .f32 X] (h w0 a w hs)
/-- A box of the call's own whose cells hold a slice of the call's own, handed to a callee that reads both. -/
theorem Giv.boxrow {x : Operand} {b i : Nat} {l1 l2 : List AV} {v : Value} {T size n : Nat} {c : Nat → List AV} (h : Opd s x (ptr b i)) (hm : HE.cells b (l1 ++ vv v :: l2) ∈ s.heap) (hr : HE.row v T size n c ∈ s.heap) : Giv s x (rp (l1 ++ rs size n c :: l2) i) := fun w0 a w hs => by
  have e : a.eval x = _ := h w0 a w hs
  rw [e]
  obtain ⟨cs, T', h1, h2, h3⟩ := hs.heap.get _ hm
  have h2' := All_turn hs.below (fun u hu => row_now hs hr hu) h2
  refine ⟨b, 0, by simp, (hs.heap.foot _ hm b rfl).2, fun j A hj => ?_⟩
  obtain ⟨u, hu, hru⟩ := h2'.get hj
  refine ⟨u, ?_, hru, h3 u (List.mem_of_getElem? hu)⟩
  rw [Nat.zero_add, cell_of_row w b j cs T' (0, 0) h1, ← Array.getElem?_toList]
  exact hu
theorem Giv.boxmesh {x : Operand} {b : Nat} {M : MH} {v : Value} {T size n : Nat} {c : Nat → List AV} (h : Opd s x (ptr b 0)) (hm : HE.cells b [fl .f32 M.F.x, fl .f32 M.F.y, fl .f32 M.F.z, fl .f32 M.S, vv (.int .i64 M.a), vv (.int .i64 M.b), vv (.int .i64 M.c), vv v] ∈ s.heap) (hr : HE.row v T size n c ∈ s.heap) : Giv s x (rp [fl .f32 M.F.x, fl .f32 M.F.y, fl .f32 M.F.z, fl .f32 M.S, vv (.int .i64 M.a), vv (.int .i64 M.b), vv (.int .i64 M.c), rs size n c] 0) :=
  Giv.boxrow (l1 := [fl .f32 M.F.x, fl .f32 M.F.y, fl .f32 M.F.z, fl .f32 M.S, vv (.int .i64 M.a), vv (.int .i64 M.b), vv (.int .i64 M.c)]) (l2 := []) h hm hr
theorem turns_mesh {M : MH} {size n : Nat} {c : Nat → List AV} : Turns (fun sv => mesh M (vv sv)) size n c (mesh M (rs size n c)) := fun w0 w u sv hb h k =>
  agg_turn hb (fun u' hu => by obtain rfl : u' = sv := hu; exact k) [fl .f32 M.F.x, fl .f32 M.F.y, fl .f32 M.F.z, fl .f32 M.S, vv (.int .i64 M.a), vv (.int .i64 M.b), vv (.int .i64 M.c)] [] h
theorem turns_wire {b : Bool} {X size n : Nat} {c : Nat → List AV} : Turns (fun sv => wire (vv sv) b X) size n c (wire (rs size n c) b X) := fun w0 w u sv hb h k =>
  agg_turn hb (fun u' hu => by obtain rfl : u' = sv := hu; exact k) [] [vv (.bool b), fl .f32 X] h
end
section
variable {P : Program} {s : AS} {o : Oper}
end
section
variable {P : Program} {w0 : World} {ops : Array Oper} {Q : Exit → Act → World → Prop}
theorem row_one {w0 w : World} {v : Value} {T size n : Nat} {c : Nat → List AV} (h : (HE.row v T size n c).ok w0 w) : v.oneCell' = true := by
  obtain ⟨xs, ⟨_, h1⟩, _⟩ := h
  rcases h1 with ⟨rfl, _⟩ | ⟨g, cap, cur, rfl, _⟩ <;> rfl
theorem aops_rowone {s : AS} {l : List Oper} {v : Value} {T size n : Nat} {c : Nat → List AV} (hm : HE.row v T size n c ∈ s.heap) (k : v.oneCell' = true → AOps P w0 ops s l Q) : AOps P w0 ops s l Q :=
  ⟨fun a w hs => (k (row_one (hs.heap.get _ hm))).out a w hs⟩
end


/-- A value that stands for A, handed to a callee that enters now, stands for B. -/
structure Cv (s : AS) (A B : AV) : Prop where
  out : ∀ w0 a w v, Sat w0 s a w → A.R w0 v → B.R w v
theorem Cv.same {s : AS} {A : AV} : Cv s A A := ⟨fun w0 a w v hs h => A.mono hs.below h⟩
theorem Cv.box {s : AS} {b i : Nat} {l : List AV} (hm : HE.cells b l ∈ s.heap) : Cv s (ptr b i) (rp l i) := ⟨fun w0 a w v hs e => by
  obtain rfl : v = _ := e
  obtain ⟨cs, T, h1, h2, h3⟩ := hs.heap.get _ hm
  refine ⟨b, 0, by simp, (hs.heap.foot _ hm b rfl).2, fun j A hj => ?_⟩
  obtain ⟨u, hu, hr⟩ := h2.get hj
  refine ⟨u, ?_, A.mono hs.below hr, h3 u (List.mem_of_getElem? hu)⟩
  rw [Nat.zero_add, cell_of_row w b j cs T (0, 0) h1, ← Array.getElem?_toList]
  exact hu⟩
theorem Cv.row {s : AS} {v : Value} {T size n : Nat} {c : Nat → List AV} (hm : HE.row v T size n c ∈ s.heap) : Cv s (vv v) (rs size n c) := ⟨fun w0 a w u hs e => row_now hs hm e⟩
inductive Cvs (s : AS) : List AV → List AV → Prop where
  | nil : Cvs s [] []
  | cons {A B l l'} (h : Cv s A B) (k : Cvs s l l') : Cvs s (A :: l) (B :: l')
theorem Cvs.refl {s : AS} : ∀ {l : List AV}, Cvs s l l
  | [] => .nil
  | _ :: _ => .cons Cv.same Cvs.refl
theorem Cvs.all {s : AS} {w0 w : World} {a : Act} (hs : Sat w0 s a w) {l l' : List AV} (h : Cvs s l l') : ∀ {us : List Value}, All w0 l us → All w l' us := by
  induction h with
  | nil => intro us h; cases us with
    | nil => trivial
    | cons => exact h.elim
  | cons h _ ih => intro us hu; cases us with
    | nil => exact hu.elim
    | cons u us => exact ⟨h.out w0 a w u hs hu.1, ih hu.2⟩
theorem Giv.cv {s : AS} {x : Operand} {A B : AV} (h : Opd s x A) (k : Cv s A B) : Giv s x B := fun w0 a w hs => k.out w0 a w _ hs (h w0 a w hs)
/-- A closure handed on. -/
theorem Giv.clo {s : AS} {x : Operand} {f : FuncId} {l l' : List AV} (h : Opd s x (Go.Proofs.Ytejpamlaacffaaa.clo f l)) (k : Cvs s l l') : Giv s x (Go.Proofs.Ytejpamlaacffaaa.clo f l') := fun w0 a w hs => by
  obtain ⟨cs, e, hc⟩ := h w0 a w hs
  exact ⟨cs, e, k.all hs hc⟩
/-- A value whose memory is new between two worlds. -/
structure Fresh (wa w1 : World) (v : Value) (A : AV) : Prop where
  out : ∀ w2 : World, w1.heap.size ≤ w2.heap.size → (∀ g, wa.heap.size ≤ g → g < w1.heap.size → w2.heap[g]? = w1.heap[g]?) → A.R w2 v
def Span (wa w1 : World) (g : Nat) : Prop := wa.heap.size ≤ g ∧ g < w1.heap.size
theorem Giv.fresh {s : AS} {x : Operand} {v : Value} {A : AV} {wa w1 : World} (h : Opd s x (vv v)) (hf : Fresh wa w1 v A) (hm : HE.fr w1 (Span wa w1) ∈ s.heap) : Giv s x A := fun w0 a w hs => by
  obtain rfl : a.eval x = v := h w0 a w hs
  obtain ⟨h1, h2⟩ := hs.heap.get _ hm
  exact hf.out w h1 fun g h3 h4 => h2 g ⟨h3, h4⟩
section
variable {P : Program} {w0 : World} {ops : Array Oper} {nt : Nat} {env : List (Nat × AV)} {H : List HE} {rest : List Oper} {Q : Exit → Act → World → Prop} {ty : TypeId} {pos : String} {after : Array Edge}
end
section
variable {P : Program}
end
section
variable {P : Program} {nt : Nat} {env : List (Nat × AV)} {H : List HE} {ops : Array Oper} {rest : List Oper} {ty : TypeId} {pos : String} {after : Array Edge} {ns : NS} {K : AS → NS → Prop}
end
section
variable {P : Program} {s : AS} {o : Oper}
end
theorem tyP_sVector : TyP Try.prog 46 := TyP.mk Try.underlying46 rfl (by kernel_rfl)
theorem sz_sVector : (Try.prog.info? 46).map (·.size) = some 1 := by kernel_rfl
theorem tyP_sLawsVector : TyP Try.prog 63 := TyP.mk Try.underlying63 rfl (by kernel_rfl)
theorem sz_sLawsVector : (Try.prog.info? 63).map (·.size) = some 1 := by kernel_rfl
end Go.Proofs.Ytejpamlaacffaaa
