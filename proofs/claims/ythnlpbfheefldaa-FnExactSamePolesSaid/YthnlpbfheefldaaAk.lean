/-
  Regions that draw their order, anew, with abstract states. Conditions: none.
-/
import Derived.Test.YthnlpbfheefldaaAj
namespace Go.Proofs.Ythnlpbfheefldaa
open Go Go.RowKit

/-- What an operation of the head laid: a new variable, or a value about a new slice. -/
inductive Made where
  | box (zl : List AV)
  | row (T size n : Nat) (c : Nat → List AV) (mk : Value → AV)
structure Ent where
  j : Nat
  d : Nat
  k : Made
structure NS where
  k : Nat
  es : List Ent
def NS.up (ns : NS) : NS := ⟨ns.k + 1, ns.es⟩
def NS.add (ns : NS) (d : Nat) (m : Made) : NS := ⟨ns.k + 1, ⟨ns.k, d, m⟩ :: ns.es⟩

/-- The new slice may be told from the value. -/
def Inj (mk : Value → AV) : Prop := ∀ w sv sv' v, (mk sv).R w v → (mk sv').R w v → sv = sv'
def Made.R (w0 : World) : Made → Value → World → Prop
  | .box zl, v, w => ∃ b, v = .pointer (some ⟨b, 0, none⟩) ∧ b < w.heap.size ∧ (HE.cells b zl).ok w0 w
  | .row T size n c mk, v, w => ∃ sv, (mk sv).R w0 v ∧ (∀ g, sv.ownBlock = some g → g < w.heap.size) ∧ (HE.row sv T size n c).ok w0 w
def Made.ft (w0 : World) : Made → Value → Nat → Prop
  | .box _, v, g => v = .pointer (some ⟨g, 0, none⟩)
  | .row _ _ _ _ mk, v, g => ∃ sv, (mk sv).R w0 v ∧ sv.ownBlock = some g
theorem Made.stable (w0 : World) (m : Made) (v : Value) : Stable (m.R w0 v) := fun w w' hb h => by
  cases m with
  | box zl =>
    obtain ⟨b, e, h1, h2⟩ := h
    exact ⟨b, e, Nat.lt_of_lt_of_le h1 hb.size, h2.keep hb.size fun g hg => by obtain rfl : g = b := hg; exact hb.block _ h1⟩
  | row T size n c mk =>
    obtain ⟨sv, e, h1, h2⟩ := h
    exact ⟨sv, e, fun g hg => Nat.lt_of_lt_of_le (h1 g hg) hb.size, h2.keep hb.size fun g hg => hb.block g (h1 g hg)⟩
def Made.sf (w0 : World) (m : Made) : SF := ⟨m.R w0, m.stable w0, m.ft w0⟩
def SF.pure (R : Value → Prop) : SF := ⟨fun v _ => R v, fun _ _ _ _ h => h, fun _ _ => False⟩

/-- The forerunners of an operation, as far as they laid something. -/
def Fore (after : Array Edge) (e : Ent) : Bool := after.toList.any fun x => Region.binds .any x && Nat.beq x.on e.j
def Facts (w0 : World) (es : List Ent) (after : Array Edge) (a : Act) (w : World) : Prop := ∀ e ∈ es, Fore after e = true → e.k.R w0 (a.tmps.getD e.d undef) w
structure EvE (P : Program) (s : AS) (es : List Ent) (o : Oper) (A : AV) : Prop where
  out : ∀ w0 a w, Sat w0 s a w → Facts w0 es o.after a w → EvRes P w (fun v => A.R w0 v) ((execOp a.eval o).run P w)
def EvNRes (P : Program) (w0 w : World) (m : Made) : Result Next → Prop
  | .ok (.value u) w' => Below w.heap.size w w' ∧ m.R w0 u w' ∧ ∀ g, m.ft w0 u g → w.heap.size ≤ g ∧ g < w'.heap.size
  | .ok (.enter f args) w' => Below w.heap.size w w' ∧ Calls P f args w' fun e w'' => ∃ v, e = .returned v ∧ Below w'.heap.size w' w'' ∧ m.R w0 v w'' ∧ ∀ g, m.ft w0 v g → w.heap.size ≤ g ∧ g < w''.heap.size
  | _ => False
structure EvN (P : Program) (s : AS) (es : List Ent) (o : Oper) (m : Made) : Prop where
  out : ∀ w0 a w, Sat w0 s a w → Facts w0 es o.after a w → EvNRes P w0 w m ((execOp a.eval o).run P w)

structure GOn (ops : Array Oper) (s : AS) (o : Oper) : Prop where
  out : ∀ w0 a w, Sat w0 s a w → Region.wanted o (yielded ops a.tmps) = true
structure GOff (ops : Array Oper) (s : AS) (o : Oper) : Prop where
  out : ∀ w0 a w, Sat w0 s a w → Region.wanted o (yielded ops a.tmps) = false
def DU (P : Program) (ops : Array Oper) : AS → NS → List Oper → (AS → NS → Prop) → Prop
  | s, ns, [], K => K s ns
  | s, ns, o :: rest, K => dok s o.dst = true ∧
      ((GOn ops s o ∧ ((∃ A, EvE P s ns.es o A ∧ DU P ops (s.put o.dst A) ns.up rest K) ∨ (∃ d m, o.dst = some d ∧ EvN P s ns.es o m ∧ DU P ops (s.put (some d) top) (ns.add d m) rest K))) ∨
       (GOff ops s o ∧ DU P ops (s.put o.dst (vv undef)) ns.up rest K))
/-- Behind the head. -/
def FinU (K : AS → Prop) : AS → List Ent → Prop
  | s, [] => K s
  | s, ⟨_, d, .box zl⟩ :: es => ∀ b, FinU K ⟨s.nt, (d, ptr b 0) :: s.env, .cells b zl :: s.heap⟩ es
  | s, ⟨_, d, .row T size n c mk⟩ :: es => ∀ sv, FinU K ⟨s.nt, (d, mk sv) :: s.env, .row sv T size n c :: s.heap⟩ es

structure PreU (w0 w1 : World) (ops : Array Oper) (n : Nat) (Rs : Nat → SF) (s : AS) (ns : NS) (a : Act) (F : World → Prop) : Prop where
  size : a.tmps.size = s.nt
  defers : a.defers = []
  env : ∀ t A, look t s.env = some A → A.R w0 (a.tmps.getD t undef)
  heap : HOk w0 w1 s.heap
  ents : ∀ e ∈ ns.es, made ops e.j = some e.d ∧ e.j < ns.k ∧ Rs e.j = e.k.sf w0 ∧ ∀ w, F w → e.k.R w0 (a.tmps.getD e.d undef) w
  nodup : (ns.es.map (·.j)).Nodup
theorem PreU.sat {w0 w1 : World} {ops : Array Oper} {n : Nat} {Rs : Nat → SF} {s : AS} {ns : NS} {a : Act} {F : World → Prop} (h : PreU w0 w1 ops n Rs s ns a F) (h0 : Below w0.heap.size w0 w1) {w : World} (hw : CB w1 w) : Sat w0 s a w :=
  ⟨h0.trans (Below.mono hw h0.size), h.size, h.defers, h.env, h.heap.below hw⟩

theorem du_rel {P : Program} {w0 w1 : World} {ops : Array Oper} {n nt : Nat} {T : (Nat → SF) → Act → (World → Prop) → Prop} (h0 : Below w0.heap.size w0 w1) (hS : Stat ops n nt) :
    ∀ (l : List Oper) (s : AS) (ns : NS) (K : AS → NS → Prop), DU P ops s ns l K → (∀ j, j < l.length → l[j]? = ops[ns.k + j]?) → ns.k + l.length = n → ∀ Rs0 : Nat → SF,
    ∃ Rs : Nat → SF, (∀ i, i < ns.k → Rs i = Rs0 i) ∧ ∀ a F, PreU w0 w1 ops n Rs s ns a F →
    (∀ s' ns' a' F', K s' ns' → ns'.k = n → PreU w0 w1 ops n Rs s' ns' a' F' → T Rs a' F') → wpRel2 P .any ops (CB w1) Rs n (T Rs) ns.k l a F
  | [], s, ns, K, h, _, hk, Rs0 => ⟨Rs0, fun _ _ => rfl, fun a F hp hT => hT s ns a F h (by simpa using hk) hp⟩
  | o :: l, s, ns, K, h, hl, hk, Rs0 => by
    obtain ⟨hd, h⟩ := h
    have ho : ops[ns.k]? = some o := by simpa using (hl 0 (by simp)).symm
    have hl' : ∀ j, j < l.length → l[j]? = ops[ns.k + 1 + j]? := fun j hj => by have := hl (j + 1) (by simp; omega); simpa [Nat.add_assoc, Nat.add_comm 1 j] using this
    have hk' : ns.k + 1 + l.length = n := by simp only [List.length_cons] at hk; omega
    have facts : ∀ {Rs a F w}, PreU w0 w1 ops n Rs s ns a F → EFact .any ops Rs n o a w → Facts w0 ns.es o.after a w := fun {Rs a F w} hp hE e he hf => by
      obtain ⟨h1, h2, h3, _⟩ := hp.ents e he
      unfold Fore at hf
      rw [List.any_eq_true] at hf
      obtain ⟨x, hx, hxx⟩ := hf
      have hx : x ∈ o.after := by simpa using hx
      simp only [Bool.and_eq_true] at hxx
      have hon : x.on = e.j := Nat.eq_of_beq_eq_true hxx.2
      have := hE x hx hxx.1 e.d (by rw [hon]; exact h1) (by rw [hon]; omega)
      rw [hon, h3] at this
      exact this
    have keep : ∀ {Rs a F}, PreU w0 w1 ops n Rs s ns a F → ∀ (v : Value), ∀ e ∈ ns.es, (a.put o.dst v).tmps.getD e.d undef = a.tmps.getD e.d undef := fun {Rs a F} hp v e he => by
      obtain ⟨h1, h2, _⟩ := hp.ents e he
      exact got_ne fun q => absurd (hS.dist ns.k e.j e.d (by omega) (by omega) ((made_of ho).trans q) h1) (by omega)
    rcases h with ⟨hg, ⟨A, hev, hrest⟩ | ⟨d, m, hdd, hev, hrest⟩⟩ | ⟨hg, hrest⟩
    · obtain ⟨Rs, hRs, hgo⟩ := du_rel (P := P) (T := T) h0 hS l _ _ _ hrest hl' hk' (fun i => if i = ns.k then SF.pure (fun v => A.R w0 v) else Rs0 i)
      have hk0 : Rs ns.k = SF.pure (fun v => A.R w0 v) := by rw [hRs ns.k (by show _ < ns.k + 1; omega), if_pos rfl]
      refine ⟨Rs, fun i hi => by rw [hRs i (by show _ < ns.k + 1; omega), if_neg (by omega)], fun a F hp hT => ⟨.inl ⟨hg.out w0 a w1 (hp.sat h0 (Below.refl _ _)), fun w hw hE => ?_⟩, fun v hv => ?_⟩⟩
      · have := hev.out w0 a w (hp.sat h0 hw) (facts hp hE)
        rw [hk0]
        generalize (execOp a.eval o).run P w = r at this
        cases r with
        | ok n w' =>
          cases n <;> simp only [EvRes] at this <;> simp only [relUpon2]
          case value u => exact ⟨hw.step this.1, this.1, this.2, fun g hg => hg.elim⟩
          case skip => exact ⟨hw.step this.1, this.1, this.2, fun g hg => hg.elim⟩
          case enter f args =>
            refine this.2.mono fun e w'' h => ?_
            obtain ⟨v, rfl, hb, hr⟩ := h
            have hb2 := this.1.trans (hb.mono this.1.size)
            exact ⟨v, rfl, hw.step hb2, hb2, hr, fun g hg => hg.elim⟩
        | halt x w' => simp only [EvRes] at this
      · obtain ⟨w, hw, hF, hv⟩ := hv
        rw [hk0] at hv
        have hv : A.R w0 v := hv
        refine hgo _ _ ?_ hT
        have hs := (hp.sat h0 hw).put (Below.refl _ _) hv hd
        refine ⟨hs.size, hs.defers, hs.env, ?_, fun e he => ?_, hp.nodup⟩
        · cases h : o.dst <;> simp only [AS.put, h] <;> exact hp.heap
        · obtain ⟨h1, h2, h3, h4⟩ := hp.ents e he
          exact ⟨h1, Nat.lt_succ_of_lt h2, h3, fun w2 hF => by rw [keep hp v e he]; exact h4 w2 hF.1⟩
    · obtain ⟨Rs, hRs, hgo⟩ := du_rel (P := P) (T := T) h0 hS l _ _ _ hrest hl' hk' (fun i => if i = ns.k then m.sf w0 else Rs0 i)
      have hk0 : Rs ns.k = m.sf w0 := by rw [hRs ns.k (by show _ < ns.k + 1; omega), if_pos rfl]
      have hd' : Nat.blt d s.nt = true := by rw [hdd] at hd; exact hd
      refine ⟨Rs, fun i hi => by rw [hRs i (by show _ < ns.k + 1; omega), if_neg (by omega)], fun a F hp hT => ⟨.inl ⟨hg.out w0 a w1 (hp.sat h0 (Below.refl _ _)), fun w hw hE => ?_⟩, fun v hv => ?_⟩⟩
      · have := hev.out w0 a w (hp.sat h0 hw) (facts hp hE)
        rw [hk0]
        generalize (execOp a.eval o).run P w = r at this
        cases r with
        | ok n w' =>
          cases n <;> simp only [EvNRes] at this <;> simp only [relUpon2]
          case value u => exact ⟨hw.step this.1, this.1, this.2.1, this.2.2⟩
          case enter f args =>
            refine this.2.mono fun e w'' h => ?_
            obtain ⟨v, rfl, hb, hr, hf⟩ := h
            have hb2 := this.1.trans (hb.mono this.1.size)
            exact ⟨v, rfl, hw.step hb2, hb2, hr, hf⟩
        | halt x w' => simp only [EvNRes] at this
      · obtain ⟨w, hw, hF, hv⟩ := hv
        refine hgo _ _ ?_ hT
        have hs := (hp.sat h0 hw).put (A := top) (v := v) (dst := some d) (Below.refl _ _) trivial hd'
        have hlt : d < a.tmps.size := by rw [hp.size]; exact Nat.blt_eq ▸ hd'
        rw [hdd]
        refine ⟨hs.size, hs.defers, hs.env, hp.heap, fun e he => ?_, List.nodup_cons.2 ⟨fun hm => ?_, hp.nodup⟩⟩
        · rcases List.mem_cons.1 he with rfl | he
          · exact ⟨(made_of ho).trans hdd, Nat.lt_succ_self _, hk0, fun w2 hF => by rw [got_put hlt]; have := hF.2; rw [hk0] at this; exact this⟩
          · obtain ⟨h1, h2, h3, h4⟩ := hp.ents e he
            exact ⟨h1, Nat.lt_succ_of_lt h2, h3, fun w2 hF => by have := keep hp v e he; rw [hdd] at this; rw [this]; exact h4 w2 hF.1⟩
        · obtain ⟨e, he, hj⟩ := List.mem_map.1 hm
          have := (hp.ents e he).2.1
          simp only at hj
          omega
    · obtain ⟨Rs, hRs, hgo⟩ := du_rel (P := P) (T := T) h0 hS l _ _ _ hrest hl' hk' (fun i => if i = ns.k then SF.pure (fun v => (vv undef).R w0 v) else Rs0 i)
      have hk0 : Rs ns.k = SF.pure (fun v => (vv undef).R w0 v) := by rw [hRs ns.k (by show _ < ns.k + 1; omega), if_pos rfl]
      refine ⟨Rs, fun i hi => by rw [hRs i (by show _ < ns.k + 1; omega), if_neg (by omega)], fun a F hp hT => ⟨.inr ⟨hg.out w0 a w1 (hp.sat h0 (Below.refl _ _)), fun w => ?_⟩, fun v hv => ?_⟩⟩
      · rw [hk0]
        exact ⟨rfl, fun g h => h⟩
      · obtain ⟨w, hw, hF, hv⟩ := hv
        rw [hk0] at hv
        have hv : (vv undef).R w0 v := hv
        refine hgo _ _ ?_ hT
        have hs := (hp.sat h0 hw).put (Below.refl _ _) hv hd
        refine ⟨hs.size, hs.defers, hs.env, ?_, fun e he => ?_, hp.nodup⟩
        · cases h : o.dst <;> simp only [AS.put, h] <;> exact hp.heap
        · obtain ⟨h1, h2, h3, h4⟩ := hp.ents e he
          exact ⟨h1, Nat.lt_succ_of_lt h2, h3, fun w2 hF => by rw [keep hp v e he]; exact h4 w2 hF.1⟩

theorem finU_sat {w0 : World} {K : AS → Prop} {a : Act} {w : World} : ∀ (es : List Ent) (s : AS), FinU K s es → Sat w0 s a w → (∀ e ∈ es, e.k.R w0 (a.tmps.getD e.d undef) w) →
    (∀ e ∈ es, ∀ g, e.k.ft w0 (a.tmps.getD e.d undef) g → w0.heap.size ≤ g ∧ g < w.heap.size ∧ ∀ h ∈ s.heap, ¬ h.foot g) →
    es.Pairwise (fun e e' => ∀ g, e.k.ft w0 (a.tmps.getD e.d undef) g → ¬ e'.k.ft w0 (a.tmps.getD e'.d undef) g) → ∃ s', K s' ∧ Sat w0 s' a w
  | [], s, h, hs, _, _, _ => ⟨s, h, hs⟩
  | ⟨j, d, .box zl⟩ :: es, s, h, hs, hR, hf, hp => by
    obtain ⟨b, hv, hlt, hok⟩ := hR _ List.mem_cons_self
    have hft := hf _ List.mem_cons_self b hv
    obtain ⟨hp1, hp2⟩ := List.pairwise_cons.1 hp
    refine finU_sat es _ (h b) ⟨hs.below, hs.size, hs.defers, fun t A e => ?_, hs.heap.cons hok fun g hg => ?_⟩ (fun e he => hR e (List.mem_cons_of_mem _ he)) (fun e he g hg => ?_) hp2
    · unfold look at e
      split at e
      · rename_i hbq
        obtain rfl : t = d := Nat.eq_of_beq_eq_true hbq
        injection e with e
        subst e
        exact hv
      · exact hs.env t A e
    · obtain rfl : g = b := hg
      exact hft
    · obtain ⟨h1, h2, h3⟩ := hf e (List.mem_cons_of_mem _ he) g hg
      refine ⟨h1, h2, fun x hx hxf => ?_⟩
      rcases List.mem_cons.1 hx with rfl | hx
      · obtain rfl : g = b := hxf
        exact hp1 e he g hv hg
      · exact h3 x hx hxf
  | ⟨j, d, .row T size n c mk⟩ :: es, s, h, hs, hR, hf, hp => by
    obtain ⟨sv, hv, hlt, hok⟩ := hR _ List.mem_cons_self
    have hft := fun g hg => hf _ List.mem_cons_self g ⟨sv, hv, hg⟩
    obtain ⟨hp1, hp2⟩ := List.pairwise_cons.1 hp
    refine finU_sat es _ (h sv) ⟨hs.below, hs.size, hs.defers, fun t A e => ?_, hs.heap.cons hok fun g hg => hft g hg⟩ (fun e he => hR e (List.mem_cons_of_mem _ he)) (fun e he g hg => ?_) hp2
    · unfold look at e
      split at e
      · rename_i hbq
        obtain rfl : t = d := Nat.eq_of_beq_eq_true hbq
        injection e with e
        subst e
        exact hv
      · exact hs.env t A e
    · obtain ⟨h1, h2, h3⟩ := hf e (List.mem_cons_of_mem _ he) g hg
      refine ⟨h1, h2, fun x hx hxf => ?_⟩
      rcases List.mem_cons.1 hx with rfl | hx
      · exact hp1 e he g ⟨sv, hv, hxf⟩ hg
      · exact h3 x hx hxf

/-- No two operations of the head have the same place, and all places lie in the frame. -/
def distB (nt : Nat) : List Oper → Bool
  | [] => true
  | o :: r => (match o.dst with
    | none => true
    | some d => Nat.blt d nt && r.all fun q => match q.dst with
      | none => true
      | some e => !Nat.beq d e) && distB nt r
theorem distB_spec {nt : Nat} : ∀ {l : List Oper}, distB nt l = true → (∀ (i : Nat) (oi : Oper) (d : Nat), l[i]? = some oi → oi.dst = some d → d < nt) ∧ ∀ (i j : Nat) (oi oj : Oper) (d : Nat), l[i]? = some oi → l[j]? = some oj → oi.dst = some d → oj.dst = some d → i = j
  | [], _ => ⟨fun i oi d h => by simp at h, fun i j oi oj d h => by simp at h⟩
  | o :: r, h => by
    unfold distB at h
    rw [Bool.and_eq_true] at h
    obtain ⟨h1, h2⟩ := h
    obtain ⟨k1, k2⟩ := distB_spec h2
    have ha : ∀ d, o.dst = some d → d < nt ∧ ∀ q ∈ r, q.dst ≠ some d := fun d hd => by
      rw [hd] at h1
      simp only [Bool.and_eq_true, List.all_eq_true] at h1
      refine ⟨Nat.blt_eq ▸ h1.1, fun q hq e => ?_⟩
      have := h1.2 q hq
      rw [e] at this
      simp at this
    refine ⟨fun i oi d hi hd => ?_, fun i j oi oj d hi hj hd hd' => ?_⟩
    · cases i with
      | zero => simp at hi; subst hi; exact (ha d hd).1
      | succ i => exact k1 i oi d (by simpa using hi) hd
    · cases i with
      | zero =>
        cases j with
        | zero => rfl
        | succ j => simp at hi hj; subst hi; exact absurd hd' ((ha d hd).2 oj (List.mem_of_getElem? hj))
      | succ i =>
        cases j with
        | zero => simp at hi hj; subst hj; exact absurd hd ((ha d hd').2 oi (List.mem_of_getElem? hi))
        | succ j => exact congrArg _ (k2 i j oi oj d (by simpa using hi) (by simpa using hj) hd hd')
theorem stat_of {l : List Oper} {n nt : Nat} (h : distB nt (l.take n) = true) : Stat l.toArray n nt := by
  obtain ⟨h1, h2⟩ := distB_spec h
  have get : ∀ i d, i < n → made l.toArray i = some d → ∃ oi, (l.take n)[i]? = some oi ∧ oi.dst = some d := fun i d hi hm => by
    unfold made at hm
    cases ho : l.toArray[i]? with
    | none => rw [ho] at hm; cases hm
    | some o => rw [ho] at hm; exact ⟨o, by rw [List.getElem?_take, if_pos hi]; simpa using ho, hm⟩
  constructor
  · intro i j d hi hj hm hm'
    obtain ⟨oi, a1, a2⟩ := get i d hi hm
    obtain ⟨oj, b1, b2⟩ := get j d hj hm'
    exact h2 i j oi oj d a1 b1 a2 b2
  · intro i d hi hm
    obtain ⟨oi, a1, a2⟩ := get i d hi hm
    exact h1 i oi d a1 a2

theorem awp_region_drawU {P : Program} {w0 : World} {s : AS} {Q : Exit → Act → World → Prop} {id : Nat} {l : List Oper} (n : Nat) (hm : P.follows .mixedOrders = true) (hB : (Region.lexTailB .any l.toArray n && distB s.nt (l.take n)) = true)
    (h : DU P l.toArray s ⟨0, []⟩ (l.take n) fun s' ns => FinU (fun s'' => AOps P w0 l.toArray s'' (l.drop n) Q) s' ns.es) : AWp P w0 s (.region id l.toArray true) Q := by
  rw [Bool.and_eq_true] at hB
  obtain ⟨hB, hD⟩ := hB
  have hS := stat_of hD
  have hn' : n < l.length := by
    simp only [Region.lexTailB, Bool.and_eq_true, decide_eq_true_eq] at hB
    simpa using hB.1.1.1.2
  refine ⟨fun a w hs => ?_⟩
  have hb1 : Below w0.heap.size w0 (w.drewN 1) := below_drewN hs.below 1
  obtain ⟨Rs, _, hRs⟩ := du_rel (P := P) (ops := l.toArray) (n := n) (T := fun Rs a' F => ∀ w' listed, CB (w.drewN 1) w' → F w' → Feet l.toArray Rs n (w.drewN 1).heap.size listed a' w' → (∀ j, j < n → listed.getD j false = true) → wpList P l.toArray Q (l.drop n) a' w') hb1 hS _ _ _ _ h
    (fun j hj => by simp at hj; simp [hj]) (by simp; omega) (fun _ => SF.pure fun _ => True)
  refine wp_region_rel2 (lo := (w.drewN 1).heap.size) n Rs (CB (w.drewN 1)) hm hB (by rw [hs.size]; exact hS) (fun w' hw => Below.size hw) (Below.refl _ _) (hRs a _ ⟨hs.size, hs.defers, hs.env, hs.heap.below (below_drewN (Below.refl _ _) 1), (fun e he => by cases he), (by simp)⟩ fun s' ns a' F hK hnk hp w' listed hw hF hft hall => ?_)
  have hsat := hp.sat hb1 hw
  have hfin := finU_sat ns.es s' hK hsat (fun e he => (hp.ents e he).2.2.2 w' hF) (fun e he g hg => by
    obtain ⟨h1, h2, h3, h4⟩ := hp.ents e he
    have hg' : (Rs e.j).ft (a'.tmps.getD e.d undef) g := by rw [h3]; exact hg
    obtain ⟨q1, q2⟩ := hft.lt e.j e.d (by omega) h1 (hall _ (by omega)) g hg'
    exact ⟨Nat.le_trans hb1.size q1, q2, fun x hx hxf => absurd (hp.heap.foot x hx g hxf).2 (by omega)⟩) (by
    have hnd := hp.nodup
    rw [List.nodup_iff_pairwise_ne, List.pairwise_map] at hnd
    refine hnd.imp_of_mem fun {e e'} he he' hne g hg hg' => ?_
    obtain ⟨h1, h2, h3, h4⟩ := hp.ents e he
    obtain ⟨h1', h2', h3', h4'⟩ := hp.ents e' he'
    exact hft.ap e.j e'.j e.d e'.d (by omega) (by omega) hne h1 h1' (hall _ (by omega)) (hall _ (by omega)) g (by rw [h3]; exact hg) (by rw [h3']; exact hg'))
  obtain ⟨s2, hK2, hs2⟩ := hfin
  exact hK2.out a' w' hs2

structure DWU (P : Program) (ops : Array Oper) (s : AS) (ns : NS) (j : Nat) (l : List Oper) (K : AS → NS → Prop) : Prop where
  out : DU P ops s ns (l.take j) K
structure FinV (K : AS → Prop) (s : AS) (es : List Ent) : Prop where
  out : FinU K s es
theorem FinU.mono {K K' : AS → Prop} (h : ∀ s, K s → K' s) : ∀ {es : List Ent} {s : AS}, FinU K s es → FinU K' s es
  | [], _, k => h _ k
  | ⟨_, _, .box _⟩ :: _, _, k => fun b => FinU.mono h (k b)
  | ⟨_, _, .row ..⟩ :: _, _, k => fun sv => FinU.mono h (k sv)
theorem DU.mono {P : Program} {ops : Array Oper} {K K' : AS → NS → Prop} (h : ∀ s ns, K s ns → K' s ns) : ∀ {l : List Oper} {s : AS} {ns : NS}, DU P ops s ns l K → DU P ops s ns l K'
  | [], _, _, k => h _ _ k
  | _ :: _, _, _, ⟨h1, .inl ⟨h2, .inl ⟨A, h4, h5⟩⟩⟩ => ⟨h1, .inl ⟨h2, .inl ⟨A, h4, DU.mono h h5⟩⟩⟩
  | _ :: _, _, _, ⟨h1, .inl ⟨h2, .inr ⟨d, m, h5, h6, h8⟩⟩⟩ => ⟨h1, .inl ⟨h2, .inr ⟨d, m, h5, h6, DU.mono h h8⟩⟩⟩
  | _ :: _, _, _, ⟨h1, .inr ⟨h2, h8⟩⟩ => ⟨h1, .inr ⟨h2, DU.mono h h8⟩⟩
theorem awp_drawU {P : Program} {w0 : World} {s : AS} {Q : Exit → Act → World → Prop} {id : Nat} {l : List Oper} (n : Nat) (hm : P.follows .mixedOrders = true) (hB : (Region.lexTailB .any l.toArray n && distB s.nt (l.take n)) = true)
    (h : DWU P l.toArray s ⟨0, []⟩ n l fun s' ns => FinV (fun s'' => ADrop P w0 l.toArray s'' n l Q) s' ns.es) : AWp P w0 s (.region id l.toArray true) Q :=
  awp_region_drawU n hm hB (h.out.mono fun s' ns k => k.out.mono fun s2 k2 => k2.out)

/-- What an operand of the head is for a callee that enters now. -/
def GivE (s : AS) (es : List Ent) (after : Array Edge) (x : Operand) (A : AV) : Prop := ∀ w0 a w, Sat w0 s a w → Facts w0 es after a w → A.R w (a.eval x)
def GivsE (s : AS) (es : List Ent) (after : Array Edge) : List Operand → List AV → Prop
  | [], [] => True
  | x :: xs, A :: As => GivE s es after x A ∧ GivsE s es after xs As
  | _, _ => False
def Turns (mk : Value → AV) (size n : Nat) (c : Nat → List AV) (A : AV) : Prop := ∀ w0 w u sv, Below w0.heap.size w0 w → (mk sv).R w0 u → (rs size n c).R w sv → A.R w u
theorem turns_vv {size n : Nat} {c : Nat → List AV} : Turns (fun sv => vv sv) size n c (rs size n c) := fun w0 w u sv _ h k => by
  obtain rfl : u = sv := h
  exact k
theorem inj_vv : Inj fun sv => vv sv := fun w sv sv' v h h' => by
  obtain rfl : v = sv := h
  exact h'
section
variable {P : Program} {s : AS} {es : List Ent} {after : Array Edge}
theorem GivE.of {x : Operand} {A : AV} (h : Giv s x A) : GivE s es after x A := fun w0 a w hs _ => h w0 a w hs
theorem rs_of_ok {w0 w : World} {v : Value} {T size n : Nat} {c : Nat → List AV} (hb : Below w0.heap.size w0 w) (h : (HE.row v T size n c).ok w0 w) (hl : ∀ g, v.ownBlock = some g → g < w.heap.size) : (rs size n c).R w v := by
  obtain ⟨xs, ⟨hlen, h1⟩, h2, h3⟩ := h
  rcases h1 with ⟨rfl, rfl⟩ | ⟨g, cap, cur, rfl, hg, hh, hnc, hcm, hcs, ht⟩
  · exact ⟨none, 0, rfl, Nat.le_refl _, fun h0 => absurd h0 (by omega)⟩
  · refine ⟨_, cap, rfl, hnc, fun _ => ⟨g, 0, rfl, fun k hk => ⟨hl g rfl, fun j A hj => ?_⟩⟩⟩
    obtain ⟨u, hu, hr⟩ := (h2 k hk).get hj
    refine ⟨u, ?_, A.mono hb hr, h3 u (List.mem_of_mem_drop (List.mem_of_mem_take (List.mem_of_getElem? hu)))⟩
    rw [List.getElem?_take] at hu
    split at hu
    · rename_i hj2
      rw [List.getElem?_drop, ← ht, List.getElem?_take] at hu
      split at hu
      · rw [Nat.zero_add, cell_of_row w g _ cur T (0, 0) hh, ← Array.getElem?_toList]
        exact hu
      · cases hu
    · cases hu
theorem GivE.row {j d T size n : Nat} {c : Nat → List AV} {mk : Value → AV} {A : AV} (hm : ⟨j, d, .row T size n c mk⟩ ∈ es) (hf : Fore after ⟨j, d, .row T size n c mk⟩ = true) (hA : Turns mk size n c A) : GivE s es after (.tmp d) A := fun w0 a w hs hF => by
  obtain ⟨sv, h1, h2, h3⟩ := hF _ hm hf
  exact hA w0 w _ sv hs.below h1 (rs_of_ok hs.below h3 h2)
theorem GivsE.nil : GivsE s es after [] [] := trivial
theorem GivsE.cons {x : Operand} {A : AV} {xs : List Operand} {As : List AV} (h : GivE s es after x A) (k : GivsE s es after xs As) : GivsE s es after (x :: xs) (A :: As) := ⟨h, k⟩
theorem GivsE.all {w0 : World} {a : Act} {w : World} (hs : Sat w0 s a w) (hF : Facts w0 es after a w) : ∀ {xs : List Operand} {As : List AV}, GivsE s es after xs As → All w As (xs.map a.eval)
  | [], [], _ => trivial
  | _ :: _, _ :: _, h => ⟨h.1 w0 a w hs hF, GivsE.all hs hF h.2⟩
  | [], _ :: _, h => h.elim
  | _ :: _, [], h => h.elim
end

section
variable {P : Program} {nt : Nat} {env : List (Nat × AV)} {H : List HE} {ops : Array Oper} {rest : List Oper} {op : Op} {ty : TypeId} {pos : String} {after : Array Edge} {ns : NS} {K : AS → NS → Prop}
theorem gon_none {s : AS} {d : Option Tmp} : GOn ops s ⟨d, op, ty, pos, after, none⟩ := ⟨fun _ _ _ _ => by simp [Region.wanted]⟩
theorem du_ev {d j : Nat} {A : AV} (h : Ev P ⟨nt, env, H⟩ ⟨some d, op, ty, pos, after, none⟩ A) (hd : Nat.blt d nt = true) (k : DWU P ops ⟨nt, (d, A) :: env, H⟩ ns.up j rest K) : DWU P ops ⟨nt, env, H⟩ ns (j + 1) (⟨some d, op, ty, pos, after, none⟩ :: rest) K :=
  ⟨⟨hd, .inl ⟨gon_none, .inl ⟨A, ⟨fun w0 a w hs _ => h.out w0 a w hs⟩, k.out⟩⟩⟩⟩
theorem du_alloc {d j : Nat} {t : TypeId} {zl : List AV} (hz : TyZ P t zl) (hd : Nat.blt d nt = true) (k : DWU P ops ⟨nt, (d, top) :: env, H⟩ (ns.add d (.box zl)) j rest K) : DWU P ops ⟨nt, env, H⟩ ns (j + 1) (⟨some d, .alloc t, ty, pos, after, none⟩ :: rest) K :=
  ⟨⟨hd, .inl ⟨gon_none, .inr ⟨d, .box zl, rfl, ⟨fun w0 a w hs _ => by
    obtain ⟨i, z, hi, hzz, hl⟩ := hz
    have hr : (execOp a.eval ⟨some d, .alloc t, ty, pos, after, none⟩).run P w = .ok (.value (.pointer (some ⟨w.heap.size, 0, none⟩))) (w.alloc (.cells z.cells t)) := by
      simp [execOp, Instr.alloc, zeroValue, typeInfo, hi, hzz, newVar, newRow]
    rw [hr]
    have hb : Below w.heap.size w (w.alloc (.cells z.cells t)) := (Below.refl _ _).alloc (Nat.le_refl _) _
    refine ⟨hb, ⟨w.heap.size, rfl, by simp, z.cells, t, heap_alloc_new w _, (hl w0).1, (hl w0).2⟩, fun g hg => ?_⟩
    have hg : Value.pointer (some ⟨w.heap.size, 0, none⟩) = .pointer (some ⟨g, 0, none⟩) := hg
    obtain rfl : w.heap.size = g := by simpa using hg
    simp⟩, k.out⟩⟩⟩⟩
theorem du_call {d f j : Nat} {x : Operand} {A : AV} {As : List AV} {args : List Operand} {ts : Array TypeId} (hx : Opd ⟨nt, env, H⟩ x (vv (.func (.func f) #[] #[]))) (hc : Con P f As (RetA A)) (ha : GivsE ⟨nt, env, H⟩ ns.es after args As) (hd : Nat.blt d nt = true)
    (k : DWU P ops ⟨nt, (d, A) :: env, H⟩ ns.up j rest K) : DWU P ops ⟨nt, env, H⟩ ns (j + 1) (⟨some d, .call ⟨.value x, args.toArray, ts⟩, ty, pos, after, none⟩ :: rest) K :=
  ⟨⟨hd, .inl ⟨gon_none, .inl ⟨A, ⟨fun w0 a w hs hF => by
    have e : a.eval x = _ := hx w0 a w hs
    rw [run_call hc.1 x args.toArray ts rfl a e w]
    refine ⟨Below.refl _ _, ?_⟩
    have := hc.2 w (args.map a.eval) (ha.all hs hF)
    rw [show args.toArray.map a.eval = (args.map a.eval).toArray by simp]
    refine this.mono fun e w' h => ?_
    obtain ⟨v, rfl, hb, hq⟩ := h
    exact ⟨v, rfl, hb, hq _⟩⟩, k.out⟩⟩⟩⟩
theorem du_row {d f j T size n : Nat} {c : Nat → List AV} {mk : Value → AV} {x : Operand} {As : List AV} {args : List Operand} {ts : Array TypeId} (hx : Opd ⟨nt, env, H⟩ x (vv (.func (.func f) #[] #[]))) (hc : Con P f As (RetRow T size n c mk)) (hi : Inj mk) (ha : GivsE ⟨nt, env, H⟩ ns.es after args As) (hp : ∀ k, (c k).all (·.p) = true) (hd : Nat.blt d nt = true)
    (k : DWU P ops ⟨nt, (d, top) :: env, H⟩ (ns.add d (.row T size n c mk)) j rest K) : DWU P ops ⟨nt, env, H⟩ ns (j + 1) (⟨some d, .call ⟨.value x, args.toArray, ts⟩, ty, pos, after, none⟩ :: rest) K :=
  ⟨⟨hd, .inl ⟨gon_none, .inr ⟨d, .row T size n c mk, rfl, ⟨fun w0 a w hs hF => by
    have e : a.eval x = _ := hx w0 a w hs
    rw [run_call hc.1 x args.toArray ts rfl a e w]
    refine ⟨Below.refl _ _, ?_⟩
    have := hc.2 w (args.map a.eval) (ha.all hs hF)
    rw [show args.toArray.map a.eval = (args.map a.eval).toArray by simp]
    refine this.mono fun e w' h => ?_
    obtain ⟨v, rfl, hb, sv, ⟨xs, ⟨hl, hown⟩, hrow, h1⟩, hg, hmk⟩ := h
    refine ⟨v, rfl, hb, ⟨sv, hmk w0, fun g hgg => (hg g hgg).2, xs, ⟨hl, ?_⟩, fun j hj => (hrow j hj).pure (hp j), h1⟩, fun g hgg => ?_⟩
    · rcases hown with h0 | ⟨g, cap, cur, rfl, hgb, r⟩
      · exact .inl h0
      · exact .inr ⟨g, cap, cur, rfl, Nat.le_trans hs.below.size hgb, r⟩
    · obtain ⟨sv', h2, h3⟩ := hgg
      obtain rfl : sv = sv' := hi w0 sv sv' v (hmk w0) h2
      exact hg g h3⟩, k.out⟩⟩⟩⟩
theorem du_gyes {d : Option Tmp} {j dj j1 : Nat} {want b : Bool} {s : AS} (hj : (ops[j]?).bind (·.dst) = some dj) (hb : look dj s.env = some (vv (.bool b))) (he : b = want) (k : DWU P ops s ns (j1 + 1) (⟨d, op, ty, pos, after, none⟩ :: rest) K) : DWU P ops s ns (j1 + 1) (⟨d, op, ty, pos, after, some (j, want)⟩ :: rest) K := by
  have hon : GOn ops s ⟨d, op, ty, pos, after, some (j, want)⟩ := ⟨fun w0 a w hs => by
    have hy := yielded_of (ops := ops) hs hj hb
    subst he
    simp [Region.wanted, hy]⟩
  obtain ⟨hd, h⟩ := k.out
  rcases h with ⟨_, ⟨A, h1, h2⟩ | ⟨d', m, h1, h2, h3⟩⟩ | ⟨hg, _⟩
  · exact ⟨⟨hd, .inl ⟨hon, .inl ⟨A, ⟨h1.out⟩, h2⟩⟩⟩⟩
  · exact ⟨⟨hd, .inl ⟨hon, .inr ⟨d', m, h1, ⟨h2.out⟩, h3⟩⟩⟩⟩
  · refine ⟨⟨hd, .inl ⟨hon, .inl ⟨vv undef, ⟨fun w0 a w hs _ => ?_⟩, by assumption⟩⟩⟩⟩
    have := hg.out w0 a w hs
    simp [Region.wanted] at this
theorem du_gno {d j dj j1 : Nat} {want b : Bool} (hj : (ops[j]?).bind (·.dst) = some dj) (hb : look dj env = some (vv (.bool b))) (he : b = !want) (hd : Nat.blt d nt = true) (k : DWU P ops ⟨nt, (d, vv undef) :: env, H⟩ ns.up j1 rest K) : DWU P ops ⟨nt, env, H⟩ ns (j1 + 1) (⟨some d, op, ty, pos, after, some (j, want)⟩ :: rest) K :=
  ⟨⟨hd, .inr ⟨⟨fun w0 a w hs => by
    have hy := yielded_of (ops := ops) hs hj hb
    subst he
    simp [Region.wanted, hy]⟩, k.out⟩⟩⟩
theorem du_nil {s : AS} {l : List Oper} (h : K s ns) : DWU P ops s ns 0 l K := ⟨h⟩
theorem finv_nil {s : AS} {es : List Ent} {K : AS → Prop} (he : es = []) (h : K s) : FinV K s es := by subst he; exact ⟨h⟩
theorem finv_box {j d : Nat} {zl : List AV} {es es' : List Ent} {K : AS → Prop} (he : es = ⟨j, d, .box zl⟩ :: es') (h : ∀ b, FinV K ⟨nt, (d, ptr b 0) :: env, .cells b zl :: H⟩ es') : FinV K ⟨nt, env, H⟩ es := by subst he; exact ⟨fun b => (h b).out⟩
theorem finv_row {j d T size n : Nat} {c : Nat → List AV} {mk : Value → AV} {es es' : List Ent} {K : AS → Prop} (he : es = ⟨j, d, .row T size n c mk⟩ :: es') (h : ∀ sv, FinV K ⟨nt, (d, mk sv) :: env, .row sv T size n c :: H⟩ es') : FinV K ⟨nt, env, H⟩ es := by subst he; exact ⟨fun sv => (h sv).out⟩
end
end Go.Proofs.Ythnlpbfheefldaa
