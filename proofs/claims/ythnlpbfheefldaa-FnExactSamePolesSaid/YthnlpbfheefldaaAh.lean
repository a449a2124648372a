/-
  Regions that draw their order, walked in the order of the text with abstract states. Conditions: none.
-/
import Derived.Test.YthnlpbfheefldaaAg
namespace Go.Proofs.Ythnlpbfheefldaa
open Go Go.RowKit

def other (d : Option Tmp) : Option (Nat × List AV) → Bool
  | none => true
  | some (e, _) => match d with
    | some d => !(Nat.beq d e)
    | none => true
/-- The head of a region that draws: its operations yield values; one new variable (alloc) may be laid aside till the head's end. -/
def DW (P : Program) : AS → Option (Nat × List AV) → List Oper → (AS → Option (Nat × List AV) → Prop) → Prop
  | s, ns, [], K => K s ns
  | s, ns, o :: rest, K => o.guard = none ∧ dok s o.dst = true ∧ other o.dst ns = true ∧
      ((∃ A, Ev P s o A ∧ DW P (s.put o.dst A) ns rest K) ∨ (ns = none ∧ ∃ d t zl, o.dst = some d ∧ o.op = .alloc t ∧ TyZ P t zl ∧ DW P (s.put (some d) top) (some (d, zl)) rest K))
/-- Behind the head: the new variable stands. -/
def Fin (s : AS) (K : AS → Prop) : Option (Nat × List AV) → Prop
  | none => K s
  | some (d, zl) => ∀ b, K ⟨s.nt, (d, ptr b 0) :: s.env, .cells b zl :: s.heap⟩

/-- A box that was laid behind w1 and holds zl. -/
def Box (w0 w1 : World) (zl : List AV) (v : Value) (w : World) : Prop := ∃ b, v = .pointer (some ⟨b, 0, none⟩) ∧ w1.heap.size ≤ b ∧ b < w.heap.size ∧ ∃ cs T, w.heap[b]? = some (.cells cs T (0, 0)) ∧ All w0 zl cs.toList ∧ ∀ u ∈ cs.toList, u.oneCell' = true
theorem Box.stable {w0 w1 : World} {zl : List AV} (v : Value) : Stable (Box w0 w1 zl v) := fun w w' hb h => by
  obtain ⟨b, rfl, h1, h2, cs, T, h3, h4⟩ := h
  exact ⟨b, rfl, h1, Nat.lt_of_lt_of_le h2 hb.size, cs, T, (hb.block b h2).trans h3, h4⟩
def boxSR (w0 w1 : World) (zl : List AV) : SR := ⟨Box w0 w1 zl, Box.stable⟩

/-- What is known in the midst of the head. -/
structure Pre (w0 w1 : World) (s : AS) (ns : Option (Nat × List AV)) (a : Act) (F : World → Prop) : Prop where
  size : a.tmps.size = s.nt
  defers : a.defers = []
  env : ∀ t A, look t s.env = some A → A.R w0 (a.tmps.getD t undef)
  heap : HOk w0 w1 s.heap
  new : ∀ d zl, ns = some (d, zl) → ∀ w, F w → Box w0 w1 zl (a.tmps.getD d undef) w

section
variable {P : Program} {w0 w1 : World} {ops : Array Oper} {T : Act → (World → Prop) → Prop}
theorem Pre.sat {s : AS} {ns : Option (Nat × List AV)} {a : Act} {F : World → Prop} (h : Pre w0 w1 s ns a F) (h0 : Below w0.heap.size w0 w1) {w : World} (hw : CB w1 w) : Sat w0 s a w :=
  ⟨h0.trans (Below.mono hw h0.size), h.size, h.defers, h.env, h.heap.below hw⟩
theorem wpRel_congr {C : World → Prop} {Rs Rs' : Nat → Value → World → Prop} : ∀ (l : List Oper) (k : Nat) (a : Act) (F : World → Prop), (∀ i, k ≤ i → Rs i = Rs' i) → wpRel P ops C Rs T k l a F → wpRel P ops C Rs' T k l a F
  | [], _, _, _, _, h => h
  | o :: l, k, a, F, he, h => by
    have hk := he k (Nat.le_refl _)
    unfold wpRel at h ⊢
    rw [← hk]
    exact ⟨h.1, fun v hv => wpRel_congr l (k + 1) _ _ (fun i hi => he i (by omega)) (h.2 v hv)⟩
theorem getD_put {a : Act} {d e : Nat} {v : Value} (h : Nat.beq d e = false) : (a.put (some d) v).tmps.getD e undef = a.tmps.getD e undef := by
  have hne : d ≠ e := Nat.ne_of_beq_eq_false h
  simp only [Act.put, Array.getD_eq_getD_getElem?, Array.getElem?_setIfInBounds, if_neg hne]

theorem dw_rel (h0 : Below w0.heap.size w0 w1) : ∀ (l : List Oper) (s : AS) (ns : Option (Nat × List AV)) (K : AS → Option (Nat × List AV) → Prop), DW P s ns l K → ∀ k, ∃ Rs : Nat → SR, ∀ a F, Pre w0 w1 s ns a F →
    (∀ s' ns' a' F', K s' ns' → Pre w0 w1 s' ns' a' F' → T a' F') → wpRel P ops (CB w1) (fun i => (Rs i).R) T k l a F
  | [], s, ns, K, h, k => ⟨fun _ => SR.top, fun a F hp hT => hT s ns a F h hp⟩
  | o :: l, s, ns, K, h, k => by
    obtain ⟨hg, hd, hot, h⟩ := h
    rcases h with ⟨A, hev, hrest⟩ | ⟨rfl, d, t, zl, hdd, hal, hz, hrest⟩
    · obtain ⟨Rs', hRs⟩ := dw_rel h0 l _ _ _ hrest (k + 1)
      refine ⟨fun i => if i = k then SR.pure (fun v => A.R w0 v) else Rs' i, fun a F hp hT => ⟨.inl ⟨by simp [Region.wanted, hg], fun w hw => ?_⟩, fun v hv => ?_⟩⟩
      · have := hev.out w0 a w (hp.sat h0 hw)
        simp only [if_true]
        generalize (execOp a.eval o).run P w = r at this
        cases r with
        | ok n w' =>
          cases n <;> simp only [EvRes] at this <;> simp only [relUpon]
          case value u => exact ⟨hw.step this.1, this.1, this.2⟩
          case skip => exact ⟨hw.step this.1, this.1, this.2⟩
          case enter f args =>
            refine this.2.mono fun e w'' h => ?_
            obtain ⟨v, rfl, hb, hr⟩ := h
            have hb2 := this.1.trans (hb.mono this.1.size)
            exact ⟨v, rfl, hw.step hb2, hb2, hr⟩
        | halt x w' => simp only [EvRes] at this
      · obtain ⟨w, hw, hv⟩ := hv
        simp only [if_true] at hv
        have hv : A.R w0 v := hv
        refine wpRel_congr l (k + 1) _ _ (fun i hi => by show (Rs' i).R = (if i = k then _ else Rs' i).R; rw [if_neg (by omega)]) (hRs _ _ ?_ hT)
        have hs := (hp.sat h0 hw).put (Below.refl _ _) hv hd
        refine ⟨hs.size, hs.defers, hs.env, ?_, fun e zl he w2 hF => ?_⟩
        · cases h : o.dst <;> simp only [AS.put, h] <;> exact hp.heap
        · have hbx := hp.new e zl he w2 hF.1
          subst he
          cases hdst : o.dst with
          | none => exact hbx
          | some d =>
            rw [hdst] at hot
            rw [getD_put (by simpa [other] using hot)]
            exact hbx
    · obtain ⟨Rs', hRs⟩ := dw_rel h0 l _ _ _ hrest (k + 1)
      have hd' : Nat.blt d s.nt = true := by rw [hdd] at hd; exact hd
      refine ⟨fun i => if i = k then boxSR w0 w1 zl else Rs' i, fun a F hp hT => ⟨.inl ⟨by simp [Region.wanted, hg], fun w hw => ?_⟩, fun v hv => ?_⟩⟩
      · obtain ⟨i, z, hi, hzz, hl⟩ := hz
        have hr : (execOp a.eval o).run P w = .ok (.value (.pointer (some ⟨w.heap.size, 0, none⟩))) (w.alloc (.cells z.cells t)) := by
          simp [execOp, hal, Instr.alloc, zeroValue, typeInfo, hi, hzz, newVar, newRow]
        rw [hr]
        simp only [if_true]
        have hb : Below w.heap.size w (w.alloc (.cells z.cells t)) := (Below.refl _ _).alloc (Nat.le_refl _) _
        exact ⟨hw.step hb, hb, w.heap.size, rfl, hw.size, by simp, z.cells, t, heap_alloc_new w _, (hl w0).1, (hl w0).2⟩
      · obtain ⟨w, hw, hv⟩ := hv
        simp only [if_true] at hv
        have hv : Box w0 w1 zl v w := hv
        refine wpRel_congr l (k + 1) _ _ (fun i hi => by show (Rs' i).R = (if i = k then _ else Rs' i).R; rw [if_neg (by omega)]) (hRs _ _ ?_ hT)
        have hs := (hp.sat h0 hw).put (A := top) (v := v) (dst := some d) (Below.refl _ _) trivial hd'
        rw [hdd]
        refine ⟨hs.size, hs.defers, hs.env, hp.heap, fun e zl' he w2 hF => ?_⟩
        injection he with he
        injection he with he1 he2
        subst he1
        subst he2
        have h2 : Box w0 w1 zl v w2 := by
          have := hF.2
          simp only [if_true] at this
          exact this
        have hlt : d < a.tmps.size := by rw [hp.size]; exact Nat.blt_eq ▸ hd'
        have : (a.put (some d) v).tmps.getD d undef = v := by simp [Act.put, Array.getD, hlt]
        rw [this]
        exact h2
end

section
variable {P : Program} {w0 : World} {s : AS} {Q : Exit → Act → World → Prop}
/-- A region that draws: n operations ahead of its tail. -/
theorem awp_region_draw {id : Nat} {l : List Oper} (n : Nat) (hm : P.follows .mixedOrders = true) (hB : Region.lexTailB .any l.toArray n = true)
    (h : DW P s none (l.take n) fun s' ns => Fin s' (fun s'' => AOps P w0 l.toArray s'' (l.drop n) Q) ns) : AWp P w0 s (.region id l.toArray true) Q := by
  refine ⟨fun a w hs => ?_⟩
  have hb1 : Below w0.heap.size w0 (w.drewN 1) := below_drewN hs.below 1
  obtain ⟨Rs, hRs⟩ := dw_rel (P := P) (ops := l.toArray) (T := fun a' F => ∀ w', CB (w.drewN 1) w' → F w' → wpList P l.toArray Q (l.drop n) a' w') hb1 _ _ _ _ h 0
  refine wp_region_rel n (fun i => (Rs i).R) (CB (w.drewN 1)) hm hB (fun i v => (Rs i).st v) (Below.refl _ _) (hRs a _ ⟨hs.size, hs.defers, hs.env, hs.heap.below (below_drewN (Below.refl _ _) 1), fun d zl he => by cases he⟩ fun s' ns a' F hK hp w' hw hF => ?_)
  have hsat := hp.sat hb1 hw
  cases ns with
  | none => exact hK.out a' w' hsat
  | some q =>
    obtain ⟨d, zl⟩ := q
    obtain ⟨b, hv, h1, h2, cs, T, h3, h4, h5⟩ := hp.new d zl rfl w' hF
    refine (hK b).out a' w' ⟨hsat.below, hsat.size, hsat.defers, fun t A e => ?_, hsat.heap.cons ⟨cs, T, h3, h4, h5⟩ fun g hg => ?_⟩
    · unfold look at e
      split at e
      · rename_i hbq
        obtain rfl : t = d := Nat.eq_of_beq_eq_true hbq
        injection e with e
        subst e
        exact hv
      · exact hsat.env t A e
    · obtain rfl : g = b := hg
      exact ⟨Nat.le_trans hb1.size h1, h2, fun e' he' hf => absurd (hp.heap.foot e' he' _ hf).2 (by omega)⟩
end

structure DWT (P : Program) (s : AS) (ns : Option (Nat × List AV)) (j : Nat) (l : List Oper) (K : AS → Option (Nat × List AV) → Prop) : Prop where
  out : DW P s ns (l.take j) K
structure ADrop (P : Program) (w0 : World) (ops : Array Oper) (s : AS) (j : Nat) (l : List Oper) (Q : Exit → Act → World → Prop) : Prop where
  out : AOps P w0 ops s (l.drop j) Q
structure Fin1 (s : AS) (K : AS → Prop) (ns : Option (Nat × List AV)) : Prop where
  out : Fin s K ns
theorem DW.mono {P : Program} {K K' : AS → Option (Nat × List AV) → Prop} (h : ∀ s ns, K s ns → K' s ns) : ∀ {l : List Oper} {s : AS} {ns : Option (Nat × List AV)}, DW P s ns l K → DW P s ns l K'
  | [], _, _, k => h _ _ k
  | _ :: _, _, _, ⟨h1, h2, h3, .inl ⟨A, h4, h5⟩⟩ => ⟨h1, h2, h3, .inl ⟨A, h4, DW.mono h h5⟩⟩
  | _ :: _, _, _, ⟨h1, h2, h3, .inr ⟨h4, d, t, zl, h5, h6, h7, h8⟩⟩ => ⟨h1, h2, h3, .inr ⟨h4, d, t, zl, h5, h6, h7, DW.mono h h8⟩⟩
theorem awp_draw {P : Program} {w0 : World} {s : AS} {Q : Exit → Act → World → Prop} {id : Nat} {l : List Oper} (n : Nat) (hm : P.follows .mixedOrders = true) (hB : Region.lexTailB .any l.toArray n = true)
    (h : DWT P s none n l fun s' ns => Fin1 s' (fun s'' => ADrop P w0 l.toArray s'' n l Q) ns) : AWp P w0 s (.region id l.toArray true) Q :=
  awp_region_draw n hm hB (h.out.mono fun s' ns k => by
    cases ns with
    | none => exact k.out.out
    | some q => exact fun b => (k.out b).out)
section
variable {P : Program} {nt : Nat} {env : List (Nat × AV)} {H : List HE} {rest : List Oper} {op : Op} {ty : TypeId} {pos : String} {after : Array Edge} {ns : Option (Nat × List AV)} {K : AS → Option (Nat × List AV) → Prop}
theorem dw_ev {d j : Nat} {A : AV} (h : Ev P ⟨nt, env, H⟩ ⟨some d, op, ty, pos, after, none⟩ A) (hd : Nat.blt d nt = true) (ho : other (some d) ns = true) (k : DWT P ⟨nt, (d, A) :: env, H⟩ ns j rest K) : DWT P ⟨nt, env, H⟩ ns (j + 1) (⟨some d, op, ty, pos, after, none⟩ :: rest) K :=
  ⟨⟨rfl, hd, ho, .inl ⟨A, h, k.out⟩⟩⟩
theorem dw_alloc {d j : Nat} {t : TypeId} {zl : List AV} (hz : TyZ P t zl) (hd : Nat.blt d nt = true) (k : DWT P ⟨nt, (d, top) :: env, H⟩ (some (d, zl)) j rest K) : DWT P ⟨nt, env, H⟩ none (j + 1) (⟨some d, .alloc t, ty, pos, after, none⟩ :: rest) K :=
  ⟨⟨rfl, hd, rfl, .inr ⟨rfl, d, t, zl, rfl, rfl, hz, k.out⟩⟩⟩
theorem dw_nil {s : AS} {l : List Oper} (h : K s ns) : DWT P s ns 0 l K := ⟨h⟩
theorem adrop_succ {w0 : World} {ops : Array Oper} {s : AS} {Q : Exit → Act → World → Prop} {o : Oper} {j : Nat} (h : ADrop P w0 ops s j rest Q) : ADrop P w0 ops s (j + 1) (o :: rest) Q := ⟨h.out⟩
theorem adrop_zero {w0 : World} {ops : Array Oper} {s : AS} {Q : Exit → Act → World → Prop} {l : List Oper} (h : AOps P w0 ops s l Q) : ADrop P w0 ops s 0 l Q := ⟨h⟩
theorem fin_none {s : AS} {K : AS → Prop} (h : K s) : Fin1 s K none := ⟨h⟩
theorem fin_some {d : Nat} {zl : List AV} {K : AS → Prop} (h : ∀ b, K ⟨nt, (d, ptr b 0) :: env, .cells b zl :: H⟩) : Fin1 ⟨nt, env, H⟩ K (some (d, zl)) := ⟨h⟩
end

section
variable {P : Program} {s : AS} {o : Oper}
theorem ev_assignF {k : FloatKind} {b : Nat} (ho : o.op = .assign (.const (.float k b))) (h : (decide (b < 2 ^ k.format.width) && !isNan k b) = true) : Ev P s o (fl k b) := ev_assign ho (OpF.c h)
theorem ev_moveF {k : FloatKind} {b : Nat} (ho : o.op = .move (.const (.float k b))) (h : (decide (b < 2 ^ k.format.width) && !isNan k b) = true) : Ev P s o (fl k b) := ev_move ho (OpF.c h)
end
section
variable {P : Program} {t : TypeId} {n : Nat}
theorem TyA.mk {d : TypeDesc} (hu : P.underlying t = some d) (hd : isAggD d = true) (hs : (P.info? t).map (·.size) = some n) : TyA P t n := by
  cases hi : P.info? t with
  | none => rw [hi] at hs; cases hs
  | some i => rw [hi] at hs; exact ⟨d, i, hu, hd, hi, by simpa using hs⟩
theorem TyP.mk {d : TypeDesc} (hu : P.underlying t = some d) (hd : isAggD d = false) (hs : (P.info? t).map (·.size) = some 1) : TyP P t := by
  cases hi : P.info? t with
  | none => rw [hi] at hs; cases hs
  | some i => rw [hi] at hs; exact ⟨d, i, hu, hd, hi, by simpa using hs⟩
theorem TyF.mk {fs : Array Field} {fd : Field} {j off m : Nat} (hu : P.underlying t = some (.struct fs)) (hf : fs[j]? = some fd) (ho : fd.offset = off) (hs : (P.info? fd.type).map (·.size) = some m) (hm : m ≠ 0) : TyF P t j off := by
  cases hi : P.info? fd.type with
  | none => rw [hi] at hs; cases hs
  | some i => rw [hi] at hs; exact ⟨fs, fd, i, hu, hf, ho, hi, by simp at hs; omega⟩
theorem TyZ.mk {z : Value} {zl : List AV} (hs : (P.info? t).map (·.zero) = some (some z)) (h : ∀ w, All w zl z.cells.toList ∧ ∀ u ∈ z.cells.toList, u.oneCell' = true) : TyZ P t zl := by
  cases hi : P.info? t with
  | none => rw [hi] at hs; cases hs
  | some i => rw [hi] at hs; exact ⟨i, z, hi, by simpa using hs, h⟩
theorem TyB.mk {z : Value} {zl : List AV} {fs : Array Field} {pl : List (Nat × Nat)} (hu : P.underlying t = some (.struct fs)) (hs : (P.info? t).map (·.zero) = some (some z)) (hp : fs.toList.mapM (fun f => (P.info? f.type).map fun i => (f.offset, i.size)) = some pl) (h : ∀ w, All w zl z.cells.toList ∧ ∀ u ∈ z.cells.toList, u.oneCell' = true) : TyB P t zl pl := by
  cases hi : P.info? t with
  | none => rw [hi] at hs; cases hs
  | some i => rw [hi] at hs; exact ⟨i, z, fs, hi, by simpa using hs, hu, hp, h⟩
theorem TyS.mk {e : TypeId} (hu : P.underlying t = some (.slice e)) (hs : (P.info? e).map (·.size) = some n) : TyS P t e n := by
  cases hi : P.info? e with
  | none => rw [hi] at hs; cases hs
  | some i => rw [hi] at hs; exact ⟨i, hu, hi, by simpa using hs⟩
theorem TyE.mk {e size bytes : Nat} {z : Value} (hu : P.underlying t = some (.slice e)) (hs : (P.info? e).map (fun i => (i.zero, i.size, i.bytes)) = some (some z, size, bytes)) (hz : z.cells.size = size) (h0 : 0 < size) (h1 : size ≤ 64) (h2 : bytes ≤ 64) (h : ∀ u ∈ z.cells.toList, u.oneCell' = true) : TyE P t e size bytes := by
  cases hi : P.info? e with
  | none => rw [hi] at hs; cases hs
  | some i =>
    rw [hi] at hs
    simp at hs
    exact ⟨i, z, hu, hi, hs.1, hs.2.1, hs.2.2, hz, h0, h1, h2, h⟩
end
theorem Givs.nil {s : AS} : Givs s [] [] := trivial
theorem Parts.nil {s : AS} : Parts s [] [] := trivial
theorem Givs.cons {s : AS} {x : Operand} {A : AV} {xs : List Operand} {As : List AV} (h : Giv s x A) (k : Givs s xs As) : Givs s (x :: xs) (A :: As) := ⟨h, k⟩
theorem Parts.cons {s : AS} {i : Nat} {x : Operand} {A : AV} {la : List AV} {ps : List (Nat × Operand)} {pl : List (Nat × List AV)} (h : Opd s x A) (hc : CellsOf A la) (k : Parts s ps pl) : Parts s ((i, x) :: ps) ((i, la) :: pl) := ⟨⟨rfl, A, h, hc⟩, k⟩
def pole (A : V3) (S : Nat) : AV := agg [fl .f32 A.x, fl .f32 A.y, fl .f32 A.z, fl .f32 S]
def dip (A M : V3) : AV := agg [fl .f32 A.x, fl .f32 A.y, fl .f32 A.z, fl .f32 M.x, fl .f32 M.y, fl .f32 M.z]
def rel3 (U D W : Nat) : AV := agg [fl .f32 U, fl .f32 D, fl .f32 W]
def vec (A : V3) : AV := agg [fl .f32 A.x, fl .f32 A.y, fl .f32 A.z]
theorem Fb_zero : Fb .f32 0 0 := Fb_const (by decide +kernel)
theorem vec_Vb {A : V3} {w : World} {v : Value} : (vec A).R w v ↔ Vb A v := by
  constructor
  · rintro ⟨cs, rfl, h, _⟩
    match cs, h with
    | [a, b, c], ⟨h1, h2, h3, _⟩ =>
      obtain ⟨x, rfl, hx⟩ := h1
      obtain ⟨y, rfl, hy⟩ := h2
      obtain ⟨z, rfl, hz⟩ := h3
      exact ⟨x, y, z, rfl, hx, hy, hz⟩
  · rintro ⟨x, y, z, rfl, hx, hy, hz⟩
    exact ⟨_, rfl, ⟨⟨x, rfl, hx⟩, ⟨y, rfl, hy⟩, ⟨z, rfl, hz⟩, trivial⟩, by simp [Value.oneCell']⟩
end Go.Proofs.Ythnlpbfheefldaa
