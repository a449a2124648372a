/-
  Structs that hold a slice: meshes, wires. Slices as cells. Conditions: none.
-/
import Derived.Test.YthnlpbfheefldaaTy
import Derived.Test.YthnlpbfheefldaaAl
import Derived.Test.YthnlpbfheefldaaHr
import Derived.Test.YthnlpbfheefldaaAo
import Derived.Laws.StructEq
namespace Go.Proofs.Ythnlpbfheefldaa
open Go Go.RowKit

/-- The head of a mesh. -/
structure MH where
  F : V3
  S : Nat
  a : Int
  b : Int
  c : Int
def mesh (M : MH) (A : AV) : AV := agg [fl .f32 M.F.x, fl .f32 M.F.y, fl .f32 M.F.z, fl .f32 M.S, vv (.int .i64 M.a), vv (.int .i64 M.b), vv (.int .i64 M.c), A]
def wire (A : AV) (b : Bool) (X : Nat) : AV := agg [A, vv (.bool b), fl .f32 X]
theorem All_turn {w0 w : World} (hb : Below w0.heap.size w0 w) {A B : AV} (hAB : ∀ u, A.R w0 u → B.R w u) : ∀ {l1 l2 : List AV} {cs : List Value}, All w0 (l1 ++ A :: l2) cs → All w (l1 ++ B :: l2) cs
  | [], l2, c :: cs, h => ⟨hAB c h.1, h.2.mono hb⟩
  | C :: l1, l2, c :: cs, h => ⟨C.mono hb h.1, All_turn hb hAB (l1 := l1) h.2⟩
  | [], _, [], h => h.elim
  | _ :: _, _, [], h => h.elim
theorem agg_turn {w0 w : World} (hb : Below w0.heap.size w0 w) {A B : AV} (hAB : ∀ u, A.R w0 u → B.R w u) (l1 l2 : List AV) {v : Value} (h : (agg (l1 ++ A :: l2)).R w0 v) : (agg (l1 ++ B :: l2)).R w v := by
  obtain ⟨cs, e, h1, h2⟩ := h
  exact ⟨cs, e, All_turn hb hAB h1, h2⟩
section
variable {s : AS}
theorem row_now {w0 w : World} {a : Act} (hs : Sat w0 s a w) {v : Value} {T size n : Nat} {c : Nat → List AV} (hm : HE.row v T size n c ∈ s.heap) {u : Value} (hu : (vv v).R w0 u) : (rs size n c).R w u := by
  obtain rfl : u = v := hu
  exact rs_of_ok hs.below (hs.heap.get _ hm) (fun g hg => (hs.heap.foot _ hm g hg).2)
theorem Giv.mesh {x : Operand} {M : MH} {v : Value} {T size n : Nat} {c : Nat → List AV} (h : Opd s x (Go.Proofs.Ythnlpbfheefldaa.mesh M (vv v))) (hm : HE.row v T size n c ∈ s.heap) : Giv s x (Go.Proofs.Ythnlpbfheefldaa.mesh M (rs size n c)) := fun w0 a w hs =>
  agg_turn hs.below (fun _ hu => row_now hs hm hu) [fl .f32 M.F.x, fl .f32 M.F.y, fl .f32 M.F.z, fl .f32 M.S, vv (.int .i64 M.a), vv (.int .i64 M.b), vv (.int .i64 M.c)] [] (h w0 a w hs)
theorem Giv.wire {x : Operand} {b : Bool} {X : Nat} {v : Value} {T size n : Nat} {c : Nat → List AV} (h : Opd s x (Go.Proofs.Ythnlpbfheefldaa.wire (vv v) b X)) (hm : HE.row v T size n c ∈ s.heap) : Giv s x (Go.Proofs.Ythnlpbfheefldaa.wire (rs size n c) b X) := fun w0 a w hs =>
  agg_turn hs.below (fun _ hu => row_now hs hm hu) [] [vv (.bool b), fl .f32 X] (h w0 a w hs)
/-- A box of the call's own whose cells hold a slice of the call's own, handed to a callee that reads both. -/
theorem Giv.boxrow {x : Operand} {b i : Nat} {l1 l2 : List AV} {v : Value} {T size n : Nat} {c : Nat → List AV} (h : Opd s x (ptr b i)) (hm : HE.cells b (l1 ++ vv v :: l2) ∈ s.heap) (hr : HE.row v T size n c ∈ s.heap) : Giv s x (rp (l1 ++ rs size n c :: l2) i) := fun w0 a w hs => by
  have e : a.eval x = _ := h w0 a w hs
  rw [e]
  obtain ⟨cs, T', h1, h2, h3⟩ := hs.heap.get _ hm
  have h2' := All_turn hs.below (fun u hu => row_now hs hr hu) h2
  refine ⟨b, 0, by simp, (hs.heap.foot _ hm b rfl).2, fun j A hj => ?_⟩
  obtain ⟨u, hu, hru⟩ := h2'.get hj
  refine ⟨u, ?_, hru, h3 u (List.mem_of_getElem? hu)⟩
  rw [Nat.zero_add, cell_of_row w b j cs T' (0, 0) h1, ← Array.getElem?_toList]
  exact hu
theorem Giv.boxmesh {x : Operand} {b : Nat} {M : MH} {v : Value} {T size n : Nat} {c : Nat → List AV} (h : Opd s x (ptr b 0)) (hm : HE.cells b [fl .f32 M.F.x, fl .f32 M.F.y, fl .f32 M.F.z, fl .f32 M.S, vv (.int .i64 M.a), vv (.int .i64 M.b), vv (.int .i64 M.c), vv v] ∈ s.heap) (hr : HE.row v T size n c ∈ s.heap) : Giv s x (rp [fl .f32 M.F.x, fl .f32 M.F.y, fl .f32 M.F.z, fl .f32 M.S, vv (.int .i64 M.a), vv (.int .i64 M.b), vv (.int .i64 M.c), rs size n c] 0) :=
  Giv.boxrow (l1 := [fl .f32 M.F.x, fl .f32 M.F.y, fl .f32 M.F.z, fl .f32 M.S, vv (.int .i64 M.a), vv (.int .i64 M.b), vv (.int .i64 M.c)]) (l2 := []) h hm hr
theorem turns_mesh {M : MH} {size n : Nat} {c : Nat → List AV} : Turns (fun sv => mesh M (vv sv)) size n c (mesh M (rs size n c)) := fun w0 w u sv hb h k =>
  agg_turn hb (fun u' hu => by obtain rfl : u' = sv := hu; exact k) [fl .f32 M.F.x, fl .f32 M.F.y, fl .f32 M.F.z, fl .f32 M.S, vv (.int .i64 M.a), vv (.int .i64 M.b), vv (.int .i64 M.c)] [] h
theorem turns_wire {b : Bool} {X size n : Nat} {c : Nat → List AV} : Turns (fun sv => wire (vv sv) b X) size n c (wire (rs size n c) b X) := fun w0 w u sv hb h k =>
  agg_turn hb (fun u' hu => by obtain rfl : u' = sv := hu; exact k) [] [vv (.bool b), fl .f32 X] h
theorem inj_mesh {M : MH} : Inj fun sv => mesh M (vv sv) := fun w sv sv' v h h' => by
  obtain ⟨cs, rfl, h1, _⟩ := h
  obtain ⟨cs', e, h2, _⟩ := h'
  obtain rfl : cs = cs' := by simpa using e
  obtain ⟨u, hu, hr⟩ := h1.get (j := 7) (A := vv sv) rfl
  obtain ⟨u', hu', hr'⟩ := h2.get (j := 7) (A := vv sv') rfl
  rw [hu] at hu'
  injection hu' with e2
  obtain rfl : u = sv := hr
  obtain rfl : u' = sv' := hr'
  exact e2
theorem inj_wire {b : Bool} {X : Nat} : Inj fun sv => wire (vv sv) b X := fun w sv sv' v h h' => by
  obtain ⟨cs, rfl, h1, _⟩ := h
  obtain ⟨cs', e, h2, _⟩ := h'
  obtain rfl : cs = cs' := by simpa using e
  obtain ⟨u, hu, hr⟩ := h1.get (j := 0) (A := vv sv) rfl
  obtain ⟨u', hu', hr'⟩ := h2.get (j := 0) (A := vv sv') rfl
  rw [hu] at hu'
  injection hu' with e2
  obtain rfl : u = sv := hr
  obtain rfl : u' = sv' := hr'
  exact e2
end
section
variable {P : Program} {s : AS} {o : Oper}
end
section
variable {P : Program} {w0 : World} {ops : Array Oper} {Q : Exit → Act → World → Prop}
theorem row_one {w0 w : World} {v : Value} {T size n : Nat} {c : Nat → List AV} (h : (HE.row v T size n c).ok w0 w) : v.oneCell' = true := by
  obtain ⟨xs, ⟨_, h1⟩, _⟩ := h
  rcases h1 with ⟨rfl, _⟩ | ⟨g, cap, cur, rfl, _⟩ <;> rfl
theorem aops_rowone {s : AS} {l : List Oper} {v : Value} {T size n : Nat} {c : Nat → List AV} (hm : HE.row v T size n c ∈ s.heap) (k : v.oneCell' = true → AOps P w0 ops s l Q) : AOps P w0 ops s l Q :=
  ⟨fun a w hs => (k (row_one (hs.heap.get _ hm))).out a w hs⟩
end


/-- A value that stands for A, handed to a callee that enters now, stands for B. -/
structure Cv (s : AS) (A B : AV) : Prop where
  out : ∀ w0 a w v, Sat w0 s a w → A.R w0 v → B.R w v
theorem Cv.same {s : AS} {A : AV} : Cv s A A := ⟨fun w0 a w v hs h => A.mono hs.below h⟩
theorem Cv.box {s : AS} {b i : Nat} {l : List AV} (hm : HE.cells b l ∈ s.heap) : Cv s (ptr b i) (rp l i) := ⟨fun w0 a w v hs e => by
  obtain rfl : v = _ := e
  obtain ⟨cs, T, h1, h2, h3⟩ := hs.heap.get _ hm
  refine ⟨b, 0, by simp, (hs.heap.foot _ hm b rfl).2, fun j A hj => ?_⟩
  obtain ⟨u, hu, hr⟩ := h2.get hj
  refine ⟨u, ?_, A.mono hs.below hr, h3 u (List.mem_of_getElem? hu)⟩
  rw [Nat.zero_add, cell_of_row w b j cs T (0, 0) h1, ← Array.getElem?_toList]
  exact hu⟩
theorem Cv.row {s : AS} {v : Value} {T size n : Nat} {c : Nat → List AV} (hm : HE.row v T size n c ∈ s.heap) : Cv s (vv v) (rs size n c) := ⟨fun w0 a w u hs e => row_now hs hm e⟩
inductive Cvs (s : AS) : List AV → List AV → Prop where
  | nil : Cvs s [] []
  | cons {A B l l'} (h : Cv s A B) (k : Cvs s l l') : Cvs s (A :: l) (B :: l')
theorem Cvs.refl {s : AS} : ∀ {l : List AV}, Cvs s l l
  | [] => .nil
  | _ :: _ => .cons Cv.same Cvs.refl
theorem Cvs.all {s : AS} {w0 w : World} {a : Act} (hs : Sat w0 s a w) {l l' : List AV} (h : Cvs s l l') : ∀ {us : List Value}, All w0 l us → All w l' us := by
  induction h with
  | nil => intro us h; cases us with
    | nil => trivial
    | cons => exact h.elim
  | cons h _ ih => intro us hu; cases us with
    | nil => exact hu.elim
    | cons u us => exact ⟨h.out w0 a w u hs hu.1, ih hu.2⟩
theorem Giv.cv {s : AS} {x : Operand} {A B : AV} (h : Opd s x A) (k : Cv s A B) : Giv s x B := fun w0 a w hs => k.out w0 a w _ hs (h w0 a w hs)
/-- A closure handed on. -/
theorem Giv.clo {s : AS} {x : Operand} {f : FuncId} {l l' : List AV} (h : Opd s x (Go.Proofs.Ythnlpbfheefldaa.clo f l)) (k : Cvs s l l') : Giv s x (Go.Proofs.Ythnlpbfheefldaa.clo f l') := fun w0 a w hs => by
  obtain ⟨cs, e, hc⟩ := h w0 a w hs
  exact ⟨cs, e, k.all hs hc⟩
section
variable {P : Program}
/-- A call of a closure that only computes. -/
theorem ev_callK {s : AS} {o : Oper} {f : FuncId} {x : Operand} {As l l' : List AV} {A : AV} {args : List Operand} {ts : Array TypeId} (ho : o.op = .call { callee := .value x, args := args.toArray, argTypes := ts }) (hx : Opd s x (Go.Proofs.Ythnlpbfheefldaa.clo f l)) (hc : Con P f (As ++ l') (RetA A)) (hk : Cvs s l l') (ha : Givs s args As) : Ev P s o A := by
  refine ⟨fun w0 a w hs => ?_⟩
  obtain ⟨cs, e, hcs⟩ := hx w0 a w hs
  rw [run_callC hc.1 x args.toArray ts ho a cs e w]
  refine ⟨Below.refl _ _, ?_⟩
  have := hc.2 w (args.map a.eval ++ cs) ((ha.all hs).append (hk.all hs hcs))
  rw [show args.toArray.map a.eval ++ cs.toArray = (args.map a.eval ++ cs).toArray by simp]
  refine this.mono fun e w' h => ?_
  obtain ⟨v, rfl, hb, hq⟩ := h
  exact ⟨v, rfl, hb, hq _⟩
end
section
variable {P : Program} {nt : Nat} {env : List (Nat × AV)} {H : List HE} {ops : Array Oper} {rest : List Oper} {ty : TypeId} {pos : String} {after : Array Edge} {ns : NS} {K : AS → NS → Prop}
/-- '[]T{}' in a region that draws. -/
theorem du_slice0 {d j t e size bytes : Nat} {c : Nat → List AV} (ht : TyE P t e size bytes) (hd : Nat.blt d nt = true) (k : DWU P ops ⟨nt, (d, top) :: env, H⟩ (ns.add d (.row e size 0 c fun sv => vv sv)) j rest K) : DWU P ops ⟨nt, env, H⟩ ns (j + 1) (⟨some d, .buildSlice t 0 #[], ty, pos, after, none⟩ :: rest) K :=
  ⟨⟨hd, .inl ⟨gon_none, .inr ⟨d, _, rfl, ⟨fun w0 a w hs _ => by
    obtain ⟨i, z, hu, hi, hz, hsz, hby, hzs, hpos, _⟩ := ht
    have hr : (execOp a.eval (⟨some d, .buildSlice t 0 #[], ty, pos, after, none⟩ : Oper)).run P w = .ok (.value (.slice (some ⟨w.heap.size, 0, none⟩) 0 0)) (w.alloc (.cells #[] e)) := by
      simp [execOp, Instr.buildSlice, run_underlying hu, sizeOf, typeInfo, hi, Instr.fill, newRow]
      rw [show (Array.map (fun (_ : Nat) => (default : Value)) (Array.range 0)) = #[] from Array.eq_empty_of_size_eq_zero (by simp)]
    rw [hr]
    have hb : Below w.heap.size w (w.alloc (.cells #[] e)) := (Below.refl _ _).alloc (Nat.le_refl _) _
    have hsz' : (w.alloc (.cells (#[] : Array Value) e)).heap.size = w.heap.size + 1 := by simp
    refine ⟨hb, ⟨_, rfl, fun g hg => ?_, [], ⟨by simp, .inr ⟨w.heap.size, 0, #[], rfl, hs.below.size, heap_alloc_new w _, Nat.le_refl _, by simp [maxLen], by simp, by simp⟩⟩, fun k hk => absurd hk (by omega), fun u hu => by simp at hu⟩, fun g hg => ?_⟩
    · obtain rfl : w.heap.size = g := by simpa [Value.ownBlock] using hg
      omega
    · obtain ⟨sv, h1, h2⟩ := hg
      obtain rfl : _ = sv := h1
      obtain rfl : w.heap.size = g := by simpa [Value.ownBlock] using h2
      omega⟩, k.out⟩⟩⟩⟩
end
section
variable {P : Program} {s : AS} {o : Oper}
theorem ld_Mesh {M : MH} {A : AV} {t : TypeId} {xo : Operand} {bb i : Nat} {l : List AV} (ho : o.op = .load t xo) (hx : Opd s xo (ptr bb i)) (ht : TyA P t 8) (hm : HE.cells bb l ∈ s.heap) (hl : (l.drop i).take 8 = [fl .f32 M.F.x, fl .f32 M.F.y, fl .f32 M.F.z, fl .f32 M.S, vv (.int .i64 M.a), vv (.int .i64 M.b), vv (.int .i64 M.c), A]) : Ev P s o (mesh M A) := ev_loadA ho hx ht hm hl rfl
theorem ldR_Mesh {M : MH} {A : AV} {t : TypeId} {xo : Operand} {i : Nat} {l : List AV} (ho : o.op = .load t xo) (hx : Opd s xo (rp l i)) (ht : TyA P t 8) (hl : (l.drop i).take 8 = [fl .f32 M.F.x, fl .f32 M.F.y, fl .f32 M.F.z, fl .f32 M.S, vv (.int .i64 M.a), vv (.int .i64 M.b), vv (.int .i64 M.c), A]) : Ev P s o (mesh M A) := ev_loadRA ho hx ht hl rfl
theorem bd_Mesh {M : MH} {A : AV} {t : TypeId} {parts : List (Nat × Operand)} {pl : List (Nat × List AV)} {zl : List AV} {places : List (Nat × Nat)} (ho : o.op = .build t parts.toArray) (ht : TyB P t zl places) (hp : Parts s parts pl) (hf : fillA (places[·]?) pl zl = some [fl .f32 M.F.x, fl .f32 M.F.y, fl .f32 M.F.z, fl .f32 M.S, vv (.int .i64 M.a), vv (.int .i64 M.b), vv (.int .i64 M.c), A]) : Ev P s o (mesh M A) := ev_build ho ht hp hf
theorem ld_Mesh3 {x y z S : Nat} {a b c : Int} {A : AV} {t : TypeId} {xo : Operand} {bb i : Nat} {l : List AV} (ho : o.op = .load t xo) (hx : Opd s xo (ptr bb i)) (ht : TyA P t 8) (hm : HE.cells bb l ∈ s.heap) (hl : (l.drop i).take 8 = [fl .f32 x, fl .f32 y, fl .f32 z, fl .f32 S, vv (.int .i64 a), vv (.int .i64 b), vv (.int .i64 c), A]) : Ev P s o (mesh ⟨⟨x, y, z⟩, S, a, b, c⟩ A) := ev_loadA ho hx ht hm hl rfl
theorem ldR_Mesh3 {x y z S : Nat} {a b c : Int} {A : AV} {t : TypeId} {xo : Operand} {i : Nat} {l : List AV} (ho : o.op = .load t xo) (hx : Opd s xo (rp l i)) (ht : TyA P t 8) (hl : (l.drop i).take 8 = [fl .f32 x, fl .f32 y, fl .f32 z, fl .f32 S, vv (.int .i64 a), vv (.int .i64 b), vv (.int .i64 c), A]) : Ev P s o (mesh ⟨⟨x, y, z⟩, S, a, b, c⟩ A) := ev_loadRA ho hx ht hl rfl
theorem bd_Mesh3 {x y z S : Nat} {a b c : Int} {A : AV} {t : TypeId} {parts : List (Nat × Operand)} {pl : List (Nat × List AV)} {zl : List AV} {places : List (Nat × Nat)} (ho : o.op = .build t parts.toArray) (ht : TyB P t zl places) (hp : Parts s parts pl) (hf : fillA (places[·]?) pl zl = some [fl .f32 x, fl .f32 y, fl .f32 z, fl .f32 S, vv (.int .i64 a), vv (.int .i64 b), vv (.int .i64 c), A]) : Ev P s o (mesh ⟨⟨x, y, z⟩, S, a, b, c⟩ A) := ev_build ho ht hp hf
theorem ld_Wire {A : AV} {b : Bool} {X : Nat} {t : TypeId} {xo : Operand} {bb i : Nat} {l : List AV} (ho : o.op = .load t xo) (hx : Opd s xo (ptr bb i)) (ht : TyA P t 3) (hm : HE.cells bb l ∈ s.heap) (hl : (l.drop i).take 3 = [A, vv (.bool b), fl .f32 X]) : Ev P s o (wire A b X) := ev_loadA ho hx ht hm hl rfl
theorem ldR_Wire {A : AV} {b : Bool} {X : Nat} {t : TypeId} {xo : Operand} {i : Nat} {l : List AV} (ho : o.op = .load t xo) (hx : Opd s xo (rp l i)) (ht : TyA P t 3) (hl : (l.drop i).take 3 = [A, vv (.bool b), fl .f32 X]) : Ev P s o (wire A b X) := ev_loadRA ho hx ht hl rfl
theorem bd_Wire {A : AV} {b : Bool} {X : Nat} {t : TypeId} {parts : List (Nat × Operand)} {pl : List (Nat × List AV)} {zl : List AV} {places : List (Nat × Nat)} (ho : o.op = .build t parts.toArray) (ht : TyB P t zl places) (hp : Parts s parts pl) (hf : fillA (places[·]?) pl zl = some [A, vv (.bool b), fl .f32 X]) : Ev P s o (wire A b X) := ev_build ho ht hp hf
end
theorem tyP_sVector : TyP Try.prog 68 := TyP.mk Try.underlying68 rfl (by kernel_rfl)
theorem sz_sVector : (Try.prog.info? 68).map (·.size) = some 1 := by kernel_rfl
theorem tyZ_sVector : TyZ Try.prog 68 [vv (.slice none 0 0)] := TyZ.mk (z := .slice none 0 0) (by kernel_rfl) (fun w => ⟨⟨rfl, trivial⟩, by simp [Value.cells, Value.oneCell']⟩)
theorem tyP_sLawsVector : TyP Try.prog 73 := TyP.mk Try.underlying73 rfl (by kernel_rfl)
theorem sz_sLawsVector : (Try.prog.info? 73).map (·.size) = some 1 := by kernel_rfl
theorem tyZ_sLawsVector : TyZ Try.prog 73 [vv (.slice none 0 0)] := TyZ.mk (z := .slice none 0 0) (by kernel_rfl) (fun w => ⟨⟨rfl, trivial⟩, by simp [Value.cells, Value.oneCell']⟩)
end Go.Proofs.Ythnlpbfheefldaa
