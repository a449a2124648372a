/-
  The types of the program: sizes, places, zeros. Conditions: none.
-/
import Derived.Test.YthnlpbfheefldaaAi
import Derived.Test.YthnlpbfheefldaaRows
namespace Go.Proofs.Ythnlpbfheefldaa
open Go Go.RowKit

section
variable {P : Program} {w0 : World} {ops : Array Oper} {s : AS} {rest : List Oper} {Q : Exit → Act → World → Prop} {ty : TypeId} {pos : String} {after : Array Edge} {d : Option Tmp} {ns : Option (Nat × List AV)} {K : AS → Option (Nat × List AV) → Prop}
theorem gA_move {x : Operand} (h : AOps P w0 ops s (⟨d, .move x, ty, pos, after, none⟩ :: rest) Q) : AOps P w0 ops s (⟨d, .move x, ty, pos, after, none⟩ :: rest) Q := h
theorem gD_move {j1 : Nat} {x : Operand} (h : DWT P s ns (j1 + 1) (⟨d, .move x, ty, pos, after, none⟩ :: rest) K) : DWT P s ns (j1 + 1) (⟨d, .move x, ty, pos, after, none⟩ :: rest) K := h
theorem gA_assign {x : Operand} (h : AOps P w0 ops s (⟨d, .assign x, ty, pos, after, none⟩ :: rest) Q) : AOps P w0 ops s (⟨d, .assign x, ty, pos, after, none⟩ :: rest) Q := h
theorem gD_assign {j1 : Nat} {x : Operand} (h : DWT P s ns (j1 + 1) (⟨d, .assign x, ty, pos, after, none⟩ :: rest) K) : DWT P s ns (j1 + 1) (⟨d, .assign x, ty, pos, after, none⟩ :: rest) K := h
theorem gA_pick {x y z : Operand} (h : AOps P w0 ops s (⟨d, .pick x y z, ty, pos, after, none⟩ :: rest) Q) : AOps P w0 ops s (⟨d, .pick x y z, ty, pos, after, none⟩ :: rest) Q := h
theorem gD_pick {j1 : Nat} {x y z : Operand} (h : DWT P s ns (j1 + 1) (⟨d, .pick x y z, ty, pos, after, none⟩ :: rest) K) : DWT P s ns (j1 + 1) (⟨d, .pick x y z, ty, pos, after, none⟩ :: rest) K := h
theorem gA_load {t : TypeId} {x : Operand} (h : AOps P w0 ops s (⟨d, .load t x, ty, pos, after, none⟩ :: rest) Q) : AOps P w0 ops s (⟨d, .load t x, ty, pos, after, none⟩ :: rest) Q := h
theorem gD_load {j1 : Nat} {t : TypeId} {x : Operand} (h : DWT P s ns (j1 + 1) (⟨d, .load t x, ty, pos, after, none⟩ :: rest) K) : DWT P s ns (j1 + 1) (⟨d, .load t x, ty, pos, after, none⟩ :: rest) K := h
theorem gA_store {t : TypeId} {x y : Operand} (h : AOps P w0 ops s (⟨d, .store t x y, ty, pos, after, none⟩ :: rest) Q) : AOps P w0 ops s (⟨d, .store t x y, ty, pos, after, none⟩ :: rest) Q := h
theorem gD_store {j1 : Nat} {t : TypeId} {x y : Operand} (h : DWT P s ns (j1 + 1) (⟨d, .store t x y, ty, pos, after, none⟩ :: rest) K) : DWT P s ns (j1 + 1) (⟨d, .store t x y, ty, pos, after, none⟩ :: rest) K := h
theorem gA_field {t : TypeId} {x : Operand} {j : Nat} (h : AOps P w0 ops s (⟨d, .fieldAddr t x j, ty, pos, after, none⟩ :: rest) Q) : AOps P w0 ops s (⟨d, .fieldAddr t x j, ty, pos, after, none⟩ :: rest) Q := h
theorem gD_field {j1 : Nat} {t : TypeId} {x : Operand} {j : Nat} (h : DWT P s ns (j1 + 1) (⟨d, .fieldAddr t x j, ty, pos, after, none⟩ :: rest) K) : DWT P s ns (j1 + 1) (⟨d, .fieldAddr t x j, ty, pos, after, none⟩ :: rest) K := h
theorem gA_index {t : TypeId} {x y : Operand} (h : AOps P w0 ops s (⟨d, .indexAddr t x y, ty, pos, after, none⟩ :: rest) Q) : AOps P w0 ops s (⟨d, .indexAddr t x y, ty, pos, after, none⟩ :: rest) Q := h
theorem gD_index {j1 : Nat} {t : TypeId} {x y : Operand} (h : DWT P s ns (j1 + 1) (⟨d, .indexAddr t x y, ty, pos, after, none⟩ :: rest) K) : DWT P s ns (j1 + 1) (⟨d, .indexAddr t x y, ty, pos, after, none⟩ :: rest) K := h
theorem gA_bin {b : BinOp} {t t2 : TypeId} {x y : Operand} (h : AOps P w0 ops s (⟨d, .binOp b t x y t2, ty, pos, after, none⟩ :: rest) Q) : AOps P w0 ops s (⟨d, .binOp b t x y t2, ty, pos, after, none⟩ :: rest) Q := h
theorem gD_bin {j1 : Nat} {b : BinOp} {t t2 : TypeId} {x y : Operand} (h : DWT P s ns (j1 + 1) (⟨d, .binOp b t x y t2, ty, pos, after, none⟩ :: rest) K) : DWT P s ns (j1 + 1) (⟨d, .binOp b t x y t2, ty, pos, after, none⟩ :: rest) K := h
theorem gA_un {b : UnOp} {t : TypeId} {x : Operand} (h : AOps P w0 ops s (⟨d, .unOp b t x, ty, pos, after, none⟩ :: rest) Q) : AOps P w0 ops s (⟨d, .unOp b t x, ty, pos, after, none⟩ :: rest) Q := h
theorem gD_un {j1 : Nat} {b : UnOp} {t : TypeId} {x : Operand} (h : DWT P s ns (j1 + 1) (⟨d, .unOp b t x, ty, pos, after, none⟩ :: rest) K) : DWT P s ns (j1 + 1) (⟨d, .unOp b t x, ty, pos, after, none⟩ :: rest) K := h
theorem gA_conv {t t2 : TypeId} {x : Operand} (h : AOps P w0 ops s (⟨d, .convert t t2 x, ty, pos, after, none⟩ :: rest) Q) : AOps P w0 ops s (⟨d, .convert t t2 x, ty, pos, after, none⟩ :: rest) Q := h
theorem gD_conv {j1 : Nat} {t t2 : TypeId} {x : Operand} (h : DWT P s ns (j1 + 1) (⟨d, .convert t t2 x, ty, pos, after, none⟩ :: rest) K) : DWT P s ns (j1 + 1) (⟨d, .convert t t2 x, ty, pos, after, none⟩ :: rest) K := h
theorem gA_callf {x : Operand} {xs : Array Operand} {ts : Array TypeId} (h : AOps P w0 ops s (⟨d, .call ⟨.value x, xs, ts⟩, ty, pos, after, none⟩ :: rest) Q) : AOps P w0 ops s (⟨d, .call ⟨.value x, xs, ts⟩, ty, pos, after, none⟩ :: rest) Q := h
theorem gD_callf {j1 : Nat} {x : Operand} {xs : Array Operand} {ts : Array TypeId} (h : DWT P s ns (j1 + 1) (⟨d, .call ⟨.value x, xs, ts⟩, ty, pos, after, none⟩ :: rest) K) : DWT P s ns (j1 + 1) (⟨d, .call ⟨.value x, xs, ts⟩, ty, pos, after, none⟩ :: rest) K := h
theorem gA_callb {b : Builtin} {xs : Array Operand} {ts : Array TypeId} (h : AOps P w0 ops s (⟨d, .call ⟨.builtin b, xs, ts⟩, ty, pos, after, none⟩ :: rest) Q) : AOps P w0 ops s (⟨d, .call ⟨.builtin b, xs, ts⟩, ty, pos, after, none⟩ :: rest) Q := h
theorem gD_callb {j1 : Nat} {b : Builtin} {xs : Array Operand} {ts : Array TypeId} (h : DWT P s ns (j1 + 1) (⟨d, .call ⟨.builtin b, xs, ts⟩, ty, pos, after, none⟩ :: rest) K) : DWT P s ns (j1 + 1) (⟨d, .call ⟨.builtin b, xs, ts⟩, ty, pos, after, none⟩ :: rest) K := h
theorem gA_build {t : TypeId} {ps : Array (Nat × Operand)} (h : AOps P w0 ops s (⟨d, .build t ps, ty, pos, after, none⟩ :: rest) Q) : AOps P w0 ops s (⟨d, .build t ps, ty, pos, after, none⟩ :: rest) Q := h
theorem gD_build {j1 : Nat} {t : TypeId} {ps : Array (Nat × Operand)} (h : DWT P s ns (j1 + 1) (⟨d, .build t ps, ty, pos, after, none⟩ :: rest) K) : DWT P s ns (j1 + 1) (⟨d, .build t ps, ty, pos, after, none⟩ :: rest) K := h
theorem gA_bslice {t n : Nat} {ps : Array (Nat × Operand)} (h : AOps P w0 ops s (⟨d, .buildSlice t n ps, ty, pos, after, none⟩ :: rest) Q) : AOps P w0 ops s (⟨d, .buildSlice t n ps, ty, pos, after, none⟩ :: rest) Q := h
theorem gD_bslice {j1 : Nat} {t n : Nat} {ps : Array (Nat × Operand)} (h : DWT P s ns (j1 + 1) (⟨d, .buildSlice t n ps, ty, pos, after, none⟩ :: rest) K) : DWT P s ns (j1 + 1) (⟨d, .buildSlice t n ps, ty, pos, after, none⟩ :: rest) K := h
theorem gA_alloc {t : TypeId} (h : AOps P w0 ops s (⟨d, .alloc t, ty, pos, after, none⟩ :: rest) Q) : AOps P w0 ops s (⟨d, .alloc t, ty, pos, after, none⟩ :: rest) Q := h
theorem gD_alloc {j1 : Nat} {t : TypeId} (h : DWT P s ns (j1 + 1) (⟨d, .alloc t, ty, pos, after, none⟩ :: rest) K) : DWT P s ns (j1 + 1) (⟨d, .alloc t, ty, pos, after, none⟩ :: rest) K := h
theorem gA_box {t : TypeId} {x : Operand} (h : AOps P w0 ops s (⟨d, .box t x, ty, pos, after, none⟩ :: rest) Q) : AOps P w0 ops s (⟨d, .box t x, ty, pos, after, none⟩ :: rest) Q := h
theorem gD_box {j1 : Nat} {t : TypeId} {x : Operand} (h : DWT P s ns (j1 + 1) (⟨d, .box t x, ty, pos, after, none⟩ :: rest) K) : DWT P s ns (j1 + 1) (⟨d, .box t x, ty, pos, after, none⟩ :: rest) K := h
theorem gA_ext {x : Operand} {j : Nat} (h : AOps P w0 ops s (⟨d, .extract x j, ty, pos, after, none⟩ :: rest) Q) : AOps P w0 ops s (⟨d, .extract x j, ty, pos, after, none⟩ :: rest) Q := h
theorem gD_ext {j1 : Nat} {x : Operand} {j : Nat} (h : DWT P s ns (j1 + 1) (⟨d, .extract x j, ty, pos, after, none⟩ :: rest) K) : DWT P s ns (j1 + 1) (⟨d, .extract x j, ty, pos, after, none⟩ :: rest) K := h
theorem gA_func {fn : Fn} {xs ys : Array Operand} (h : AOps P w0 ops s (⟨d, .makeFunc fn xs ys, ty, pos, after, none⟩ :: rest) Q) : AOps P w0 ops s (⟨d, .makeFunc fn xs ys, ty, pos, after, none⟩ :: rest) Q := h
theorem gD_func {j1 : Nat} {fn : Fn} {xs ys : Array Operand} (h : DWT P s ns (j1 + 1) (⟨d, .makeFunc fn xs ys, ty, pos, after, none⟩ :: rest) K) : DWT P s ns (j1 + 1) (⟨d, .makeFunc fn xs ys, ty, pos, after, none⟩ :: rest) K := h
theorem gA_slice {t : TypeId} {x : Operand} {l hi mx : Option Operand} (h : AOps P w0 ops s (⟨d, .slice t x l hi mx, ty, pos, after, none⟩ :: rest) Q) : AOps P w0 ops s (⟨d, .slice t x l hi mx, ty, pos, after, none⟩ :: rest) Q := h
theorem gD_slice {j1 : Nat} {t : TypeId} {x : Operand} {l hi mx : Option Operand} (h : DWT P s ns (j1 + 1) (⟨d, .slice t x l hi mx, ty, pos, after, none⟩ :: rest) K) : DWT P s ns (j1 + 1) (⟨d, .slice t x l hi mx, ty, pos, after, none⟩ :: rest) K := h
theorem gA_mks {t : TypeId} {x y : Operand} (h : AOps P w0 ops s (⟨d, .makeSlice t x y, ty, pos, after, none⟩ :: rest) Q) : AOps P w0 ops s (⟨d, .makeSlice t x y, ty, pos, after, none⟩ :: rest) Q := h
theorem gD_mks {j1 : Nat} {t : TypeId} {x y : Operand} (h : DWT P s ns (j1 + 1) (⟨d, .makeSlice t x y, ty, pos, after, none⟩ :: rest) K) : DWT P s ns (j1 + 1) (⟨d, .makeSlice t x y, ty, pos, after, none⟩ :: rest) K := h
theorem gA_nilc {x : Operand} (h : AOps P w0 ops s (⟨d, .nilCheck x, ty, pos, after, none⟩ :: rest) Q) : AOps P w0 ops s (⟨d, .nilCheck x, ty, pos, after, none⟩ :: rest) Q := h
theorem gD_nilc {j1 : Nat} {x : Operand} (h : DWT P s ns (j1 + 1) (⟨d, .nilCheck x, ty, pos, after, none⟩ :: rest) K) : DWT P s ns (j1 + 1) (⟨d, .nilCheck x, ty, pos, after, none⟩ :: rest) K := h
theorem gA_gd {op : Op} {g : Nat × Bool} (h : AOps P w0 ops s (⟨d, op, ty, pos, after, some g⟩ :: rest) Q) : AOps P w0 ops s (⟨d, op, ty, pos, after, some g⟩ :: rest) Q := h
theorem gA_app {xs : Array Operand} {ts : Array TypeId} (h : AOps P w0 ops s (⟨d, .call ⟨.builtin .append, xs, ts⟩, ty, pos, after, none⟩ :: rest) Q) : AOps P w0 ops s (⟨d, .call ⟨.builtin .append, xs, ts⟩, ty, pos, after, none⟩ :: rest) Q := h
theorem gA {l : List Oper} (h : AOps P w0 ops s l Q) : AOps P w0 ops s l Q := h
theorem gD {l : List Oper} {j1 : Nat} (h : DWT P s ns j1 l K) : DWT P s ns j1 l K := h
theorem gR {l : List Oper} {j1 : Nat} (h : ADrop P w0 ops s j1 l Q) : ADrop P w0 ops s j1 l Q := h
theorem gF {K1 : AS → Prop} (h : Fin1 s K1 ns) : Fin1 s K1 ns := h
theorem gW {c : Code} (h : AWp P w0 s c Q) : AWp P w0 s c Q := h
theorem gX {e : Exit} (h : AEx w0 s e Q) : AEx w0 s e Q := h
end

section
variable {P : Program} {s : AS} {o : Oper}
theorem ld_Vector {A : V3} {t : TypeId} {xo : Operand} {b i : Nat} {l : List AV} (ho : o.op = .load t xo) (hx : Opd s xo (ptr b i)) (ht : TyA P t 3) (hm : HE.cells b l ∈ s.heap) (hl : (l.drop i).take 3 = [fl .f32 A.x, fl .f32 A.y, fl .f32 A.z]) : Ev P s o (vec A) := ev_loadA ho hx ht hm hl rfl
theorem ldR_Vector {A : V3} {t : TypeId} {xo : Operand} {i : Nat} {l : List AV} (ho : o.op = .load t xo) (hx : Opd s xo (rp l i)) (ht : TyA P t 3) (hl : (l.drop i).take 3 = [fl .f32 A.x, fl .f32 A.y, fl .f32 A.z]) : Ev P s o (vec A) := ev_loadRA ho hx ht hl rfl
theorem bd_Vector {A : V3} {t : TypeId} {parts : List (Nat × Operand)} {pl : List (Nat × List AV)} {zl : List AV} {places : List (Nat × Nat)} (ho : o.op = .build t parts.toArray) (ht : TyB P t zl places) (hp : Parts s parts pl) (hf : fillA (places[·]?) pl zl = some [fl .f32 A.x, fl .f32 A.y, fl .f32 A.z]) : Ev P s o (vec A) := ev_build ho ht hp hf
theorem ld_Vector3 {x y z : Nat} {t : TypeId} {xo : Operand} {b i : Nat} {l : List AV} (ho : o.op = .load t xo) (hx : Opd s xo (ptr b i)) (ht : TyA P t 3) (hm : HE.cells b l ∈ s.heap) (hl : (l.drop i).take 3 = [fl .f32 x, fl .f32 y, fl .f32 z]) : Ev P s o (vec ⟨x, y, z⟩) := ev_loadA ho hx ht hm hl rfl
theorem ldR_Vector3 {x y z : Nat} {t : TypeId} {xo : Operand} {i : Nat} {l : List AV} (ho : o.op = .load t xo) (hx : Opd s xo (rp l i)) (ht : TyA P t 3) (hl : (l.drop i).take 3 = [fl .f32 x, fl .f32 y, fl .f32 z]) : Ev P s o (vec ⟨x, y, z⟩) := ev_loadRA ho hx ht hl rfl
theorem bd_Vector3 {x y z : Nat} {t : TypeId} {parts : List (Nat × Operand)} {pl : List (Nat × List AV)} {zl : List AV} {places : List (Nat × Nat)} (ho : o.op = .build t parts.toArray) (ht : TyB P t zl places) (hp : Parts s parts pl) (hf : fillA (places[·]?) pl zl = some [fl .f32 x, fl .f32 y, fl .f32 z]) : Ev P s o (vec ⟨x, y, z⟩) := ev_build ho ht hp hf
theorem ld_Pole {A : V3} {S : Nat} {t : TypeId} {xo : Operand} {b i : Nat} {l : List AV} (ho : o.op = .load t xo) (hx : Opd s xo (ptr b i)) (ht : TyA P t 4) (hm : HE.cells b l ∈ s.heap) (hl : (l.drop i).take 4 = [fl .f32 A.x, fl .f32 A.y, fl .f32 A.z, fl .f32 S]) : Ev P s o (pole A S) := ev_loadA ho hx ht hm hl rfl
theorem ldR_Pole {A : V3} {S : Nat} {t : TypeId} {xo : Operand} {i : Nat} {l : List AV} (ho : o.op = .load t xo) (hx : Opd s xo (rp l i)) (ht : TyA P t 4) (hl : (l.drop i).take 4 = [fl .f32 A.x, fl .f32 A.y, fl .f32 A.z, fl .f32 S]) : Ev P s o (pole A S) := ev_loadRA ho hx ht hl rfl
theorem bd_Pole {A : V3} {S : Nat} {t : TypeId} {parts : List (Nat × Operand)} {pl : List (Nat × List AV)} {zl : List AV} {places : List (Nat × Nat)} (ho : o.op = .build t parts.toArray) (ht : TyB P t zl places) (hp : Parts s parts pl) (hf : fillA (places[·]?) pl zl = some [fl .f32 A.x, fl .f32 A.y, fl .f32 A.z, fl .f32 S]) : Ev P s o (pole A S) := ev_build ho ht hp hf
theorem ld_Pole3 {x y z S : Nat} {t : TypeId} {xo : Operand} {b i : Nat} {l : List AV} (ho : o.op = .load t xo) (hx : Opd s xo (ptr b i)) (ht : TyA P t 4) (hm : HE.cells b l ∈ s.heap) (hl : (l.drop i).take 4 = [fl .f32 x, fl .f32 y, fl .f32 z, fl .f32 S]) : Ev P s o (pole ⟨x, y, z⟩ S) := ev_loadA ho hx ht hm hl rfl
theorem ldR_Pole3 {x y z S : Nat} {t : TypeId} {xo : Operand} {i : Nat} {l : List AV} (ho : o.op = .load t xo) (hx : Opd s xo (rp l i)) (ht : TyA P t 4) (hl : (l.drop i).take 4 = [fl .f32 x, fl .f32 y, fl .f32 z, fl .f32 S]) : Ev P s o (pole ⟨x, y, z⟩ S) := ev_loadRA ho hx ht hl rfl
theorem bd_Pole3 {x y z S : Nat} {t : TypeId} {parts : List (Nat × Operand)} {pl : List (Nat × List AV)} {zl : List AV} {places : List (Nat × Nat)} (ho : o.op = .build t parts.toArray) (ht : TyB P t zl places) (hp : Parts s parts pl) (hf : fillA (places[·]?) pl zl = some [fl .f32 x, fl .f32 y, fl .f32 z, fl .f32 S]) : Ev P s o (pole ⟨x, y, z⟩ S) := ev_build ho ht hp hf
theorem ld_Dipole {A M : V3} {t : TypeId} {xo : Operand} {b i : Nat} {l : List AV} (ho : o.op = .load t xo) (hx : Opd s xo (ptr b i)) (ht : TyA P t 6) (hm : HE.cells b l ∈ s.heap) (hl : (l.drop i).take 6 = [fl .f32 A.x, fl .f32 A.y, fl .f32 A.z, fl .f32 M.x, fl .f32 M.y, fl .f32 M.z]) : Ev P s o (dip A M) := ev_loadA ho hx ht hm hl rfl
theorem ldR_Dipole {A M : V3} {t : TypeId} {xo : Operand} {i : Nat} {l : List AV} (ho : o.op = .load t xo) (hx : Opd s xo (rp l i)) (ht : TyA P t 6) (hl : (l.drop i).take 6 = [fl .f32 A.x, fl .f32 A.y, fl .f32 A.z, fl .f32 M.x, fl .f32 M.y, fl .f32 M.z]) : Ev P s o (dip A M) := ev_loadRA ho hx ht hl rfl
theorem bd_Dipole {A M : V3} {t : TypeId} {parts : List (Nat × Operand)} {pl : List (Nat × List AV)} {zl : List AV} {places : List (Nat × Nat)} (ho : o.op = .build t parts.toArray) (ht : TyB P t zl places) (hp : Parts s parts pl) (hf : fillA (places[·]?) pl zl = some [fl .f32 A.x, fl .f32 A.y, fl .f32 A.z, fl .f32 M.x, fl .f32 M.y, fl .f32 M.z]) : Ev P s o (dip A M) := ev_build ho ht hp hf
theorem ld_Dipole3 {x y z p q r : Nat} {t : TypeId} {xo : Operand} {b i : Nat} {l : List AV} (ho : o.op = .load t xo) (hx : Opd s xo (ptr b i)) (ht : TyA P t 6) (hm : HE.cells b l ∈ s.heap) (hl : (l.drop i).take 6 = [fl .f32 x, fl .f32 y, fl .f32 z, fl .f32 p, fl .f32 q, fl .f32 r]) : Ev P s o (dip ⟨x, y, z⟩ ⟨p, q, r⟩) := ev_loadA ho hx ht hm hl rfl
theorem ldR_Dipole3 {x y z p q r : Nat} {t : TypeId} {xo : Operand} {i : Nat} {l : List AV} (ho : o.op = .load t xo) (hx : Opd s xo (rp l i)) (ht : TyA P t 6) (hl : (l.drop i).take 6 = [fl .f32 x, fl .f32 y, fl .f32 z, fl .f32 p, fl .f32 q, fl .f32 r]) : Ev P s o (dip ⟨x, y, z⟩ ⟨p, q, r⟩) := ev_loadRA ho hx ht hl rfl
theorem bd_Dipole3 {x y z p q r : Nat} {t : TypeId} {parts : List (Nat × Operand)} {pl : List (Nat × List AV)} {zl : List AV} {places : List (Nat × Nat)} (ho : o.op = .build t parts.toArray) (ht : TyB P t zl places) (hp : Parts s parts pl) (hf : fillA (places[·]?) pl zl = some [fl .f32 x, fl .f32 y, fl .f32 z, fl .f32 p, fl .f32 q, fl .f32 r]) : Ev P s o (dip ⟨x, y, z⟩ ⟨p, q, r⟩) := ev_build ho ht hp hf
theorem ld_Relay {U D W : Nat} {t : TypeId} {xo : Operand} {b i : Nat} {l : List AV} (ho : o.op = .load t xo) (hx : Opd s xo (ptr b i)) (ht : TyA P t 3) (hm : HE.cells b l ∈ s.heap) (hl : (l.drop i).take 3 = [fl .f32 U, fl .f32 D, fl .f32 W]) : Ev P s o (rel3 U D W) := ev_loadA ho hx ht hm hl rfl
theorem ldR_Relay {U D W : Nat} {t : TypeId} {xo : Operand} {i : Nat} {l : List AV} (ho : o.op = .load t xo) (hx : Opd s xo (rp l i)) (ht : TyA P t 3) (hl : (l.drop i).take 3 = [fl .f32 U, fl .f32 D, fl .f32 W]) : Ev P s o (rel3 U D W) := ev_loadRA ho hx ht hl rfl
theorem bd_Relay {U D W : Nat} {t : TypeId} {parts : List (Nat × Operand)} {pl : List (Nat × List AV)} {zl : List AV} {places : List (Nat × Nat)} (ho : o.op = .build t parts.toArray) (ht : TyB P t zl places) (hp : Parts s parts pl) (hf : fillA (places[·]?) pl zl = some [fl .f32 U, fl .f32 D, fl .f32 W]) : Ev P s o (rel3 U D W) := ev_build ho ht hp hf
end

theorem tyA_Vector : TyA Try.prog 28 3 := TyA.mk Try.underlying28 rfl (by kernel_rfl)
theorem sz_Vector : (Try.prog.info? 28).map (·.size) = some 3 := by kernel_rfl
theorem tyZ_Vector : TyZ Try.prog 28 [fl .f32 0, fl .f32 0, fl .f32 0] := TyZ.mk (z := .agg #[.float .f32 0, .float .f32 0, .float .f32 0]) (by kernel_rfl) (fun w => ⟨⟨⟨0, rfl, Fb_zero⟩, ⟨0, rfl, Fb_zero⟩, ⟨0, rfl, Fb_zero⟩, trivial⟩, by simp [Value.cells, Value.oneCell']⟩)
theorem tyF_Vector_X : TyF Try.prog 28 0 0 := TyF.mk Try.underlying28 rfl rfl (m := 1) (by kernel_rfl) (by decide)
theorem tyF_Vector_Y : TyF Try.prog 28 1 1 := TyF.mk Try.underlying28 rfl rfl (m := 1) (by kernel_rfl) (by decide)
theorem tyF_Vector_Z : TyF Try.prog 28 2 2 := TyF.mk Try.underlying28 rfl rfl (m := 1) (by kernel_rfl) (by decide)
theorem tyB_Vector : TyB Try.prog 28 [fl .f32 0, fl .f32 0, fl .f32 0] [(0, 1), (1, 1), (2, 1)] := TyB.mk Try.underlying28 (z := .agg #[.float .f32 0, .float .f32 0, .float .f32 0]) (by kernel_rfl) (by kernel_rfl) (fun w => ⟨⟨⟨0, rfl, Fb_zero⟩, ⟨0, rfl, Fb_zero⟩, ⟨0, rfl, Fb_zero⟩, trivial⟩, by simp [Value.cells, Value.oneCell']⟩)
theorem tyS_Vector : TyS Try.prog 68 28 3 := TyS.mk Try.underlying68 (by kernel_rfl)
theorem tyE_Vector : TyE Try.prog 68 28 3 12 := TyE.mk (z := .agg #[.float .f32 0, .float .f32 0, .float .f32 0]) Try.underlying68 (by kernel_rfl) rfl (by decide) (by decide) (by decide) (by simp [Value.cells, Value.oneCell'])
theorem tyA_Dipole : TyA Try.prog 30 6 := TyA.mk Try.underlying30 rfl (by kernel_rfl)
theorem sz_Dipole : (Try.prog.info? 30).map (·.size) = some 6 := by kernel_rfl
theorem tyZ_Dipole : TyZ Try.prog 30 [fl .f32 0, fl .f32 0, fl .f32 0, fl .f32 0, fl .f32 0, fl .f32 0] := TyZ.mk (z := .agg #[.float .f32 0, .float .f32 0, .float .f32 0, .float .f32 0, .float .f32 0, .float .f32 0]) (by kernel_rfl) (fun w => ⟨⟨⟨0, rfl, Fb_zero⟩, ⟨0, rfl, Fb_zero⟩, ⟨0, rfl, Fb_zero⟩, ⟨0, rfl, Fb_zero⟩, ⟨0, rfl, Fb_zero⟩, ⟨0, rfl, Fb_zero⟩, trivial⟩, by simp [Value.cells, Value.oneCell']⟩)
theorem tyF_Dipole_At : TyF Try.prog 30 0 0 := TyF.mk Try.underlying30 rfl rfl (m := 3) (by kernel_rfl) (by decide)
theorem tyF_Dipole_Moment : TyF Try.prog 30 1 3 := TyF.mk Try.underlying30 rfl rfl (m := 3) (by kernel_rfl) (by decide)
theorem tyB_Dipole : TyB Try.prog 30 [fl .f32 0, fl .f32 0, fl .f32 0, fl .f32 0, fl .f32 0, fl .f32 0] [(0, 3), (3, 3)] := TyB.mk Try.underlying30 (z := .agg #[.float .f32 0, .float .f32 0, .float .f32 0, .float .f32 0, .float .f32 0, .float .f32 0]) (by kernel_rfl) (by kernel_rfl) (fun w => ⟨⟨⟨0, rfl, Fb_zero⟩, ⟨0, rfl, Fb_zero⟩, ⟨0, rfl, Fb_zero⟩, ⟨0, rfl, Fb_zero⟩, ⟨0, rfl, Fb_zero⟩, ⟨0, rfl, Fb_zero⟩, trivial⟩, by simp [Value.cells, Value.oneCell']⟩)
theorem tyA_Pole : TyA Try.prog 59 4 := TyA.mk Try.underlying59 rfl (by kernel_rfl)
theorem sz_Pole : (Try.prog.info? 59).map (·.size) = some 4 := by kernel_rfl
theorem tyZ_Pole : TyZ Try.prog 59 [fl .f32 0, fl .f32 0, fl .f32 0, fl .f32 0] := TyZ.mk (z := .agg #[.float .f32 0, .float .f32 0, .float .f32 0, .float .f32 0]) (by kernel_rfl) (fun w => ⟨⟨⟨0, rfl, Fb_zero⟩, ⟨0, rfl, Fb_zero⟩, ⟨0, rfl, Fb_zero⟩, ⟨0, rfl, Fb_zero⟩, trivial⟩, by simp [Value.cells, Value.oneCell']⟩)
theorem tyF_Pole_At : TyF Try.prog 59 0 0 := TyF.mk Try.underlying59 rfl rfl (m := 3) (by kernel_rfl) (by decide)
theorem tyF_Pole_Strength : TyF Try.prog 59 1 3 := TyF.mk Try.underlying59 rfl rfl (m := 1) (by kernel_rfl) (by decide)
theorem tyB_Pole : TyB Try.prog 59 [fl .f32 0, fl .f32 0, fl .f32 0, fl .f32 0] [(0, 3), (3, 1)] := TyB.mk Try.underlying59 (z := .agg #[.float .f32 0, .float .f32 0, .float .f32 0, .float .f32 0]) (by kernel_rfl) (by kernel_rfl) (fun w => ⟨⟨⟨0, rfl, Fb_zero⟩, ⟨0, rfl, Fb_zero⟩, ⟨0, rfl, Fb_zero⟩, ⟨0, rfl, Fb_zero⟩, trivial⟩, by simp [Value.cells, Value.oneCell']⟩)
theorem tyS_Pole : TyS Try.prog 41 59 4 := TyS.mk Try.underlying41 (by kernel_rfl)
theorem tyE_Pole : TyE Try.prog 41 59 4 16 := TyE.mk (z := .agg #[.float .f32 0, .float .f32 0, .float .f32 0, .float .f32 0]) Try.underlying41 (by kernel_rfl) rfl (by decide) (by decide) (by decide) (by simp [Value.cells, Value.oneCell'])
theorem tyA_LawsVector : TyA Try.prog 24 3 := TyA.mk Try.underlying24 rfl (by kernel_rfl)
theorem sz_LawsVector : (Try.prog.info? 24).map (·.size) = some 3 := by kernel_rfl
theorem tyZ_LawsVector : TyZ Try.prog 24 [fl .f32 0, fl .f32 0, fl .f32 0] := TyZ.mk (z := .agg #[.float .f32 0, .float .f32 0, .float .f32 0]) (by kernel_rfl) (fun w => ⟨⟨⟨0, rfl, Fb_zero⟩, ⟨0, rfl, Fb_zero⟩, ⟨0, rfl, Fb_zero⟩, trivial⟩, by simp [Value.cells, Value.oneCell']⟩)
theorem tyF_LawsVector_X : TyF Try.prog 24 0 0 := TyF.mk Try.underlying24 rfl rfl (m := 1) (by kernel_rfl) (by decide)
theorem tyF_LawsVector_Y : TyF Try.prog 24 1 1 := TyF.mk Try.underlying24 rfl rfl (m := 1) (by kernel_rfl) (by decide)
theorem tyF_LawsVector_Z : TyF Try.prog 24 2 2 := TyF.mk Try.underlying24 rfl rfl (m := 1) (by kernel_rfl) (by decide)
theorem tyB_LawsVector : TyB Try.prog 24 [fl .f32 0, fl .f32 0, fl .f32 0] [(0, 1), (1, 1), (2, 1)] := TyB.mk Try.underlying24 (z := .agg #[.float .f32 0, .float .f32 0, .float .f32 0]) (by kernel_rfl) (by kernel_rfl) (fun w => ⟨⟨⟨0, rfl, Fb_zero⟩, ⟨0, rfl, Fb_zero⟩, ⟨0, rfl, Fb_zero⟩, trivial⟩, by simp [Value.cells, Value.oneCell']⟩)
theorem tyS_LawsVector : TyS Try.prog 73 24 3 := TyS.mk Try.underlying73 (by kernel_rfl)
theorem tyE_LawsVector : TyE Try.prog 73 24 3 12 := TyE.mk (z := .agg #[.float .f32 0, .float .f32 0, .float .f32 0]) Try.underlying73 (by kernel_rfl) rfl (by decide) (by decide) (by decide) (by simp [Value.cells, Value.oneCell'])
theorem tyA_LawsDipole : TyA Try.prog 26 6 := TyA.mk Try.underlying26 rfl (by kernel_rfl)
theorem sz_LawsDipole : (Try.prog.info? 26).map (·.size) = some 6 := by kernel_rfl
theorem tyZ_LawsDipole : TyZ Try.prog 26 [fl .f32 0, fl .f32 0, fl .f32 0, fl .f32 0, fl .f32 0, fl .f32 0] := TyZ.mk (z := .agg #[.float .f32 0, .float .f32 0, .float .f32 0, .float .f32 0, .float .f32 0, .float .f32 0]) (by kernel_rfl) (fun w => ⟨⟨⟨0, rfl, Fb_zero⟩, ⟨0, rfl, Fb_zero⟩, ⟨0, rfl, Fb_zero⟩, ⟨0, rfl, Fb_zero⟩, ⟨0, rfl, Fb_zero⟩, ⟨0, rfl, Fb_zero⟩, trivial⟩, by simp [Value.cells, Value.oneCell']⟩)
theorem tyF_LawsDipole_At : TyF Try.prog 26 0 0 := TyF.mk Try.underlying26 rfl rfl (m := 3) (by kernel_rfl) (by decide)
theorem tyF_LawsDipole_Moment : TyF Try.prog 26 1 3 := TyF.mk Try.underlying26 rfl rfl (m := 3) (by kernel_rfl) (by decide)
theorem tyB_LawsDipole : TyB Try.prog 26 [fl .f32 0, fl .f32 0, fl .f32 0, fl .f32 0, fl .f32 0, fl .f32 0] [(0, 3), (3, 3)] := TyB.mk Try.underlying26 (z := .agg #[.float .f32 0, .float .f32 0, .float .f32 0, .float .f32 0, .float .f32 0, .float .f32 0]) (by kernel_rfl) (by kernel_rfl) (fun w => ⟨⟨⟨0, rfl, Fb_zero⟩, ⟨0, rfl, Fb_zero⟩, ⟨0, rfl, Fb_zero⟩, ⟨0, rfl, Fb_zero⟩, ⟨0, rfl, Fb_zero⟩, ⟨0, rfl, Fb_zero⟩, trivial⟩, by simp [Value.cells, Value.oneCell']⟩)
theorem tyA_LawsPole : TyA Try.prog 56 4 := TyA.mk Try.underlying56 rfl (by kernel_rfl)
theorem sz_LawsPole : (Try.prog.info? 56).map (·.size) = some 4 := by kernel_rfl
theorem tyZ_LawsPole : TyZ Try.prog 56 [fl .f32 0, fl .f32 0, fl .f32 0, fl .f32 0] := TyZ.mk (z := .agg #[.float .f32 0, .float .f32 0, .float .f32 0, .float .f32 0]) (by kernel_rfl) (fun w => ⟨⟨⟨0, rfl, Fb_zero⟩, ⟨0, rfl, Fb_zero⟩, ⟨0, rfl, Fb_zero⟩, ⟨0, rfl, Fb_zero⟩, trivial⟩, by simp [Value.cells, Value.oneCell']⟩)
theorem tyF_LawsPole_At : TyF Try.prog 56 0 0 := TyF.mk Try.underlying56 rfl rfl (m := 3) (by kernel_rfl) (by decide)
theorem tyF_LawsPole_Strength : TyF Try.prog 56 1 3 := TyF.mk Try.underlying56 rfl rfl (m := 1) (by kernel_rfl) (by decide)
theorem tyB_LawsPole : TyB Try.prog 56 [fl .f32 0, fl .f32 0, fl .f32 0, fl .f32 0] [(0, 3), (3, 1)] := TyB.mk Try.underlying56 (z := .agg #[.float .f32 0, .float .f32 0, .float .f32 0, .float .f32 0]) (by kernel_rfl) (by kernel_rfl) (fun w => ⟨⟨⟨0, rfl, Fb_zero⟩, ⟨0, rfl, Fb_zero⟩, ⟨0, rfl, Fb_zero⟩, ⟨0, rfl, Fb_zero⟩, trivial⟩, by simp [Value.cells, Value.oneCell']⟩)
theorem tyS_LawsPole : TyS Try.prog 38 56 4 := TyS.mk Try.underlying38 (by kernel_rfl)
theorem tyE_LawsPole : TyE Try.prog 38 56 4 16 := TyE.mk (z := .agg #[.float .f32 0, .float .f32 0, .float .f32 0, .float .f32 0]) Try.underlying38 (by kernel_rfl) rfl (by decide) (by decide) (by decide) (by simp [Value.cells, Value.oneCell'])
theorem tyP_f32 : TyP Try.prog 22 := TyP.mk Try.underlying22 rfl (by kernel_rfl)
theorem sz_f32 : (Try.prog.info? 22).map (·.size) = some 1 := by kernel_rfl
theorem tyZ_f32 : TyZ Try.prog 22 [fl .f32 0] := TyZ.mk (z := .float .f32 0) (by kernel_rfl) (fun w => ⟨⟨⟨0, rfl, Fb_zero⟩, trivial⟩, by simp [Value.cells, Value.oneCell']⟩)
theorem tyP_i64 : TyP Try.prog 2 := TyP.mk Try.underlying2 rfl (by kernel_rfl)
theorem sz_i64 : (Try.prog.info? 2).map (·.size) = some 1 := by kernel_rfl
theorem tyZ_i64 : TyZ Try.prog 2 [vv (.int .i64 0)] := TyZ.mk (z := .int .i64 0) (by kernel_rfl) (fun w => ⟨⟨rfl, trivial⟩, by simp [Value.cells, Value.oneCell']⟩)
theorem tyP_int : TyP Try.prog 3 := TyP.mk Try.underlying3 rfl (by kernel_rfl)
theorem sz_int : (Try.prog.info? 3).map (·.size) = some 1 := by kernel_rfl
theorem tyZ_int : TyZ Try.prog 3 [vv (.int .i64 0)] := TyZ.mk (z := .int .i64 0) (by kernel_rfl) (fun w => ⟨⟨rfl, trivial⟩, by simp [Value.cells, Value.oneCell']⟩)
theorem tyP_bool : TyP Try.prog 4 := TyP.mk Try.underlying4 rfl (by kernel_rfl)
theorem sz_bool : (Try.prog.info? 4).map (·.size) = some 1 := by kernel_rfl
theorem tyZ_bool : TyZ Try.prog 4 [vv (.bool false)] := TyZ.mk (z := .bool false) (by kernel_rfl) (fun w => ⟨⟨rfl, trivial⟩, by simp [Value.cells, Value.oneCell']⟩)
end Go.Proofs.Ythnlpbfheefldaa
