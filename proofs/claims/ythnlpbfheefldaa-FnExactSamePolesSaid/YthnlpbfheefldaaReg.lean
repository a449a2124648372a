/-
  A region that draws its order, walked once in the order of its text: each operation ahead of the tail yields some value of a relation that was fixed before, in every world of a class, and leaves a world of the class. Conditions: none.
-/
import Derived.StillTail
import Derived.Test.YthnlpbfheefldaaMem
namespace Go.Proofs.Ythnlpbfheefldaa
open Go Go.RowKit

section
variable {P : Program} {ops : Array Oper} {md : Region.Mode} {C : World → Prop} {Rs : Nat → Value → World → Prop}

/-- What is asked of one operation: some value of R, a world of the class, in which nothing that was there has turned. -/
def relUpon (P : Program) (C : World → Prop) (w : World) (R : Value → World → Prop) : Result Next → Prop
  | .ok (.value u) w' => C w' ∧ Below w.heap.size w w' ∧ R u w'
  | .ok .skip w' => C w' ∧ Below w.heap.size w w' ∧ R undef w'
  | .ok (.enter f args) w' => Calls P f args w' fun e w'' => ∃ v, e = .returned v ∧ C w'' ∧ Below w.heap.size w w'' ∧ R v w''
  | _ => False

/-- Facts that stand whatever is done next. -/
def Stable (F : World → Prop) : Prop := ∀ w w', Below w.heap.size w w' → F w → F w'

def Yields (P : Program) (ops : Array Oper) (C : World → Prop) (o : Oper) (R : Value → World → Prop) (a : Act) : Prop :=
  (Region.wanted o (yielded ops a.tmps) = true ∧ ∀ w, C w → relUpon P C w R ((execOp a.eval o).run P w)) ∨
  (Region.wanted o (yielded ops a.tmps) = false ∧ ∀ w, R undef w)

/-- Operation number i comes up; what follows is asked of every value that it may yield. -/
def rOp (P : Program) (ops : Array Oper) (C : World → Prop) (Rs : Nat → Value → World → Prop) (i : Nat) (K : Act → (World → Prop) → Prop) (a : Act) (F : World → Prop) : Prop :=
  match ops[i]? with
  | none => False
  | some o => Yields P ops C o (Rs i) a ∧ ∀ v, (∃ w, C w ∧ Rs i v w) → K (a.put o.dst v) (fun w => F w ∧ Rs i v w)

theorem wpOp_of_rOp {i : Nat} {a : Act} {F : World → Prop} {K : Act → (World → Prop) → Prop} {K' : Act → World → Prop} {Q' : Exit → Act → World → Prop} {w : World} (hC : C w) (hF : F w) (hs : Stable F)
    (h : ∀ a F w', C w' → F w' → Stable F → K a F → K' a w') (hR : ∀ v, Stable (Rs i v)) (hh : rOp P ops C Rs i K a F) : wpOp P ops Q' i K' a w := by
  unfold rOp at hh
  unfold wpOp
  cases ho : ops[i]? with
  | none => rw [ho] at hh; exact hh.elim
  | some o =>
    rw [ho] at hh
    obtain ⟨hy, hk⟩ := hh
    have hst : ∀ v, Stable (fun w => F w ∧ Rs i v w) := fun v w1 w2 hb hp => ⟨hs w1 w2 hb hp.1, hR v w1 w2 hb hp.2⟩
    have hnext : ∀ v w', C w' → Below w.heap.size w w' → Rs i v w' → K' (a.put o.dst v) w' := fun v w' h1 h2 h3 => h _ _ _ h1 ⟨hs w w' h2 hF, h3⟩ (hst v) (hk v ⟨w', h1, h3⟩)
    rcases hy with ⟨hw, hy⟩ | ⟨hw, hy⟩
    · simp only [hw, if_true]
      refine .inl ?_
      have h3 := hy w hC
      unfold Oper.wp
      generalize (execOp a.eval o).run P w = r at *
      cases r with
      | ok n w' =>
        cases n <;> simp only [relUpon] at h3 <;> simp only [Oper.upon]
        case value u => exact hnext _ _ h3.1 h3.2.1 h3.2.2
        case skip => exact hnext _ _ h3.1 h3.2.1 h3.2.2
        case enter f args =>
          refine h3.mono fun e w'' hw => ?_
          obtain ⟨v, rfl, h4, h5, h6⟩ := hw
          exact hnext _ _ h4 h5 h6
      | halt x w' => simp only [relUpon] at h3
    · simp only [hw, Bool.false_eq_true, if_false]
      exact hnext _ _ hC (Below.refl _ _) (hy w)

theorem rOp_mono {i : Nat} {a : Act} {F F' : World → Prop} {K K' : Act → (World → Prop) → Prop} (h : ∀ a v, K a (fun w => F w ∧ Rs i v w) → K' a (fun w => F' w ∧ Rs i v w)) (hh : rOp P ops C Rs i K a F) : rOp P ops C Rs i K' a F' := by
  unfold rOp at *
  cases ho : ops[i]? with
  | none => rw [ho] at hh; exact hh
  | some o =>
    rw [ho] at hh
    exact ⟨hh.1, fun v hv => h _ v (hh.2 v hv)⟩

/-- Whatever order is picked, as far as the tail. -/
def wpAnyR (P : Program) (md : Region.Mode) (ops : Array Oper) (C : World → Prop) (Rs : Nat → Value → World → Prop) (n : Nat) (L : Array Bool → Act → (World → Prop) → Prop) : Nat → Array Bool → Act → (World → Prop) → Prop
  | 0, listed, a, F => L listed a F
  | f + 1, listed, a, F => Region.ready md ops listed ≠ [] ∧ ∀ i ∈ Region.ready md ops listed, i < n ∧ rOp P ops C Rs i (wpAnyR P md ops C Rs n L f (listed.setIfInBounds i true)) a F

theorem wpAny_of_rel {n g : Nat} {L : Array Bool → Act → (World → Prop) → Prop} {Q' : Exit → Act → World → Prop} (hR : ∀ i v, Stable (Rs i v)) (hL : ∀ listed a F w, C w → F w → L listed a F → wpAny P md ops Q' g listed a w) :
    ∀ (f : Nat) (listed : Array Bool) (a : Act) (F : World → Prop) (w : World), C w → F w → Stable F → wpAnyR P md ops C Rs n L f listed a F → wpAny P md ops Q' (f + g) listed a w
  | 0, listed, a, F, w, hC, hF, _, h => by rw [Nat.zero_add]; exact hL _ _ _ _ hC hF h
  | f + 1, listed, a, F, w, hC, hF, hs, h => by
    rw [show f + 1 + g = (f + g) + 1 by omega]
    exact ⟨fun h0 => absurd h0 h.1, fun i hi => wpOp_of_rOp hC hF hs (fun a' F' w' h1 h2 h3 h4 => wpAny_of_rel hR hL f _ a' F' w' h1 h2 h3 h4) (hR i) (h.2 i hi).2⟩

theorem Yields.of_same {o : Oper} {R : Value → World → Prop} {a a' : Act} (hy : Yields P ops C o R a) (he : execOp a'.eval o = execOp a.eval o)
    (hw : Region.wanted o (yielded ops a'.tmps) = Region.wanted o (yielded ops a.tmps)) : Yields P ops C o R a' := by
  unfold Yields at *
  rw [he, hw]
  exact hy

/-- A value that the operation may yield. -/
theorem Yields.some_ {o : Oper} {R : Value → World → Prop} {a : Act} (hC : ∃ w, C w) (hy : Yields P ops C o R a) : ∃ v w, C w ∧ R v w := by
  obtain ⟨w, hw⟩ := hC
  rcases hy with ⟨_, hy⟩ | ⟨_, hy⟩
  · have h3 := hy w hw
    generalize (execOp a.eval o).run P w = r at *
    cases r with
    | ok n w' =>
      cases n <;> simp only [relUpon] at h3
      case value u => exact ⟨u, w', h3.1, h3.2.2⟩
      case skip => exact ⟨undef, w', h3.1, h3.2.2⟩
      case enter f args =>
        obtain ⟨e, w'', _, ⟨v, _, h1, _, h2⟩, _⟩ := h3 []
        exact ⟨v, w'', h1, h2⟩
    | halt x w' => simp only [relUpon] at h3
  · exact ⟨undef, w, hw, hy w⟩

theorem wpAnyR_first {n i : Nat} {oi : Oper} {L : Array Bool → Act → (World → Prop) → Prop} (hCe : ∃ w, C w) (hi : ops[i]? = some oi) (hsel : ∀ (j : Nat) (o : Oper) cs b, ops[j]? = some o → o.op ≠ .select cs b)
    (hs : Region.sinkB md ops n = true) (hc : Region.chainB md ops n = true) (hn : n < ops.size) (hin : i < n)
    (hdone : ∀ listed a F, L listed a F → ∀ j ∈ Region.ready md ops listed, n ≤ j) :
    ∀ (f : Nat) (listed : Array Bool) (a : Act) (F : World → Prop), HeadInv md ops n listed →
      (∀ j oj, ops[j]? = some oj → j ≠ i → listed.getD j true = false → (∀ e ∈ oj.after, Region.binds md e = true → e.on ≠ i) → oi.apart ops oj = true) →
      i ∈ Region.ready md ops listed → Yields P ops C oi (Rs i) a →
      (∀ v, (∃ w, C w ∧ Rs i v w) → wpAnyR P md ops C Rs n L f (listed.setIfInBounds i true) (a.put oi.dst v) (fun w => F w ∧ Rs i v w)) → wpAnyR P md ops C Rs n L (f + 1) listed a F := by
  intro f
  induction f with
  | zero =>
    intro listed a F inv _ hr hy H
    have hun := (mem_ready.1 hr).1
    refine ⟨fun h => (by rw [h] at hr; cases hr), fun j hj => ?_⟩
    have hjn : j < n := by
      rcases Nat.lt_or_ge j n with h | h
      · exact h
      · exact absurd hj (tail_waits hs hc hn inv _ i rfl hin hun j h)
    refine ⟨hjn, ?_⟩
    by_cases hji : j = i
    · subst hji
      unfold rOp
      rw [hi]
      exact ⟨hy, H⟩
    · obtain ⟨v, w, h1, h2⟩ := hy.some_ hCe
      have := hdone _ _ _ (H v ⟨w, h1, h2⟩) j (ready_mono hj hji)
      omega
  | succ f ih =>
    intro listed a F inv hfree hr hy H
    have hun := (mem_ready.1 hr).1
    refine ⟨fun h => (by rw [h] at hr; cases hr), fun j hj => ?_⟩
    have hjn : j < n := by
      rcases Nat.lt_or_ge j n with h | h
      · exact h
      · exact absurd hj (tail_waits hs hc hn inv _ i rfl hin hun j h)
    refine ⟨hjn, ?_⟩
    by_cases hji : j = i
    · subst hji
      unfold rOp
      rw [hi]
      exact ⟨hy, H⟩
    · obtain ⟨hjun, oj, hoj, hall⟩ := mem_ready.1 hj
      have hnot : ∀ e ∈ oj.after, Region.binds md e = true → e.on ≠ i := fun e he hb heq => by
        have h1 := hall e he hb
        rw [heq, getD_both hun] at h1
        cases h1
      obtain ⟨a1, a2, a3⟩ := Oper.apart_spec (hfree j oj hoj hji hjun hnot)
      have hseli := fun cs b => hsel i oi cs b hi
      have hselj := fun cs b => hsel j oj cs b hoj
      have hj1 : ∀ v, (∃ w, C w ∧ Rs i v w) → rOp P ops C Rs j (wpAnyR P md ops C Rs n L f ((listed.setIfInBounds i true).setIfInBounds j true)) (a.put oi.dst v) (fun w => F w ∧ Rs i v w) := fun v hv => ((H v hv).2 j (ready_mono hj hji)).2
      have hfree' : ∀ k ok, ops[k]? = some ok → k ≠ i → (listed.setIfInBounds j true).getD k true = false →
          (∀ e ∈ ok.after, Region.binds md e = true → e.on ≠ i) → oi.apart ops ok = true := fun k ok hk hki hun hno => by
        refine hfree k ok hk hki ?_ hno
        by_cases hjk : j = k
        · subst hjk; exact hjun
        · rw [getD_set_ne true hjk] at hun; exact hun
      obtain ⟨v0, w0, hw0, hR0⟩ := hy.some_ hCe
      have hyj : Yields P ops C oj (Rs j) a := by
        have := hj1 v0 ⟨w0, hw0, hR0⟩
        unfold rOp at this
        rw [hoj] at this
        exact this.1.of_same (execOp_put oj hselj a oi.dst v0 a1).symm (wanted_put oj a oi.dst v0 a1).symm
      unfold rOp
      rw [hoj]
      refine ⟨hyj, fun u hu => ?_⟩
      have hyi : Yields P ops C oi (Rs i) (a.put oj.dst u) := hy.of_same (execOp_put oi hseli a oj.dst u a3) (wanted_put oi a oj.dst u a3)
      refine ih (listed.setIfInBounds j true) (a.put oj.dst u) _ (inv.set hj hjn) hfree' (ready_mono hr (Ne.symm hji)) hyi fun v hv => ?_
      have h4 := hj1 v hv
      unfold rOp at h4
      rw [hoj] at h4
      have h5 := h4.2 u hu
      rw [Array.setIfInBounds_comm _ _ hji, Act.put_comm a u v (fun d hd e => a2 d e hd)]
      have e : (fun w => (F w ∧ Rs j u w) ∧ Rs i v w) = (fun w => (F w ∧ Rs i v w) ∧ Rs j u w) := funext fun w => propext ⟨fun h => ⟨⟨h.1.1, h.2⟩, h.1.2⟩, fun h => ⟨⟨h.1.1, h.2⟩, h.1.2⟩⟩
      rw [e]
      exact h5

/-- The walk in the order of the text: k is the number of the operation at hand. -/
def wpRel (P : Program) (ops : Array Oper) (C : World → Prop) (Rs : Nat → Value → World → Prop) (T : Act → (World → Prop) → Prop) : Nat → List Oper → Act → (World → Prop) → Prop
  | _, [], a, F => T a F
  | k, o :: rest, a, F => Yields P ops C o (Rs k) a ∧ ∀ v, (∃ w, C w ∧ Rs k v w) → wpRel P ops C Rs T (k + 1) rest (a.put o.dst v) (fun w => F w ∧ Rs k v w)

theorem wpAnyR_lex {n g : Nat} {T : Act → (World → Prop) → Prop} (hCe : ∃ w, C w) (hsel : Region.noSelect ops = true) (hs : Region.sinkB md ops n = true) (hc : Region.chainB md ops n = true) (hn : n < ops.size) :
    ∀ (l : List Oper) (k : Nat) (listed : Array Bool) (a : Act) (F : World → Prop), (∀ j, j < l.length → l[j]? = ops[k + j]?) → k + l.length = n → HeadInv md ops n listed →
    Region.lexHead md ops g l.length k listed = true → wpRel P ops C Rs T k l a F →
    wpAnyR P md ops C Rs n (fun listed' a' F' => Region.seqB md ops g n listed' = true ∧ T a' F') l.length listed a F
  | [], k, listed, a, F, _, hk, _, hB, h => by
    have : k = n := by simpa using hk
    subst this
    exact ⟨by simpa [Region.lexHead] using hB, h⟩
  | o :: l, k, listed, a, F, hl, hk, inv, hB, h => by
    have h0 : ops[k]? = some o := by simpa using (hl 0 (by simp)).symm
    simp only [List.length_cons, Region.lexHead, Bool.and_eq_true] at hB
    obtain ⟨⟨hr, hf⟩, hB'⟩ := hB
    have hkn : k < n := by simp only [List.length_cons] at hk; omega
    have hr' : k ∈ Region.ready md ops listed := by simpa using hr
    exact wpAnyR_first hCe h0 (Region.noSelect_spec hsel) hs hc hn hkn (fun listed' a' F' hL => seqB_ready hL.1) l.length listed a F inv (Region.free_spec h0 hf) hr' h.1
      fun v hv => wpAnyR_lex hCe hsel hs hc hn l (k + 1) _ _ _ (fun j hj => by have := hl (j + 1) (by simp; omega); simpa [Nat.add_assoc, Nat.add_comm 1 j] using this) (by simp only [List.length_cons] at hk; omega) (inv.set hr' hkn) hB' (h.2 v hv)

/-- A region that draws: its head walked once in the order of the text, then its tail, operation by operation. -/
theorem wp_region_rel {id : Nat} {Q : Exit → Act → World → Prop} {a : Act} {w : World} {l : List Oper} (n : Nat) (Rs : Nat → Value → World → Prop) (C : World → Prop) (hm : P.follows .mixedOrders = true) (hB : Region.lexTailB .any l.toArray n = true)
    (hR : ∀ i v, Stable (Rs i v)) (hC : C (w.drewN 1))
    (h : wpRel P l.toArray C Rs (fun a' F => ∀ w', C w' → F w' → wpList P l.toArray Q (l.drop n) a' w') 0 (l.take n) a (fun _ => True)) : (Code.region id l.toArray true).wp P Q a w := by
  simp only [Region.lexTailB, Bool.and_eq_true, decide_eq_true_eq] at hB
  obtain ⟨⟨⟨⟨hsel, hn⟩, hs⟩, hc⟩, hlex⟩ := hB
  have hn' : n < l.length := by simpa using hn
  have htl : (l.take n).length = n := by simp; omega
  have hdl : (l.drop n).length = l.toArray.size - n := by simp
  have inv0 : HeadInv .any l.toArray n (Array.replicate l.toArray.size false) :=
    ⟨by simp, fun j oj _ hl => (by rw [getD_replicate_false] at hl; cases hl), fun t _ ht => getD_in (by simpa using ht) (getD_replicate_false _ _)⟩
  have h1 := wpAnyR_lex (P := P) (C := C) (Rs := Rs) (md := .any) (g := l.toArray.size - n) ⟨_, hC⟩ hsel hs hc hn (l.take n) 0 (Array.replicate l.toArray.size false) a (fun _ => True)
    (fun j hj => by rw [htl] at hj; simp [hj]) (by rw [htl]; omega) inv0 (by rw [htl]; exact hlex) h
  rw [htl] at h1
  refine wp_region_any hm ?_
  have h2 := wpAny_of_rel (Q' := Q) (g := l.toArray.size - n) hR (fun listed a' F w' hw hF hL => ?_) n _ a _ (w.drewN 1) hC trivial (fun _ _ _ h => h) h1
  · rw [show n + (l.toArray.size - n) = l.toArray.size by omega] at h2
    exact h2
  · have := wpAny_of_seq (P := P) (md := .any) (ops := l.toArray) (Q' := Q) (l.drop n) n listed a' w' (fun j => by simp [List.getElem?_drop]) (by rw [hdl]; exact hL.1) (hL.2 w' hw hF)
    rwa [hdl] at this
end

/- The steps of such a walk, in the class of the worlds that have kept all that there was. -/
structure SR where
  R : Value → World → Prop
  st : ∀ v, Stable (R v)
def SR.top : SR := ⟨fun _ _ => True, fun _ _ _ _ _ => trivial⟩
def SR.pure (R : Value → Prop) : SR := ⟨fun v _ => R v, fun _ _ _ _ h => h⟩
/-- A box that was laid behind w0 and that holds O. -/
def SR.fresh (w0 : World) (O : Obj) : SR := ⟨fun v w => ∃ b, v = .pointer (some ⟨b, 0, none⟩) ∧ w0.heap.size ≤ b ∧ b < w.heap.size ∧ w.heap[b]? = some O, fun _ w w' hb h => by
  obtain ⟨b, rfl, h1, h2, h3⟩ := h
  exact ⟨b, rfl, h1, Nat.lt_of_lt_of_le h2 hb.size, (hb.block b h2).trans h3⟩⟩
def rels (l : List SR) (i : Nat) : Value → World → Prop := (l.getD i SR.top).R
def CB (w0 w : World) : Prop := Below w0.heap.size w0 w
theorem CB.step {w0 w w' : World} (h : CB w0 w) (k : Below w.heap.size w w') : CB w0 w' := Below.trans h (k.mono h.size)
def vUpon (K : Value → World → Prop) : Result Next → Prop
  | .ok (.value v) w => K v w
  | _ => False
def cUpon (K : FuncId → Array Value → World → Prop) : Result Next → Prop
  | .ok (.enter f args) w => K f args w
  | _ => False
attribute [go_sem] vUpon cUpon
/-- A call that gives a value of R, and turns nothing that was there. -/
def RetG (R : Value → Prop) (w : World) (e : Ending) (w' : World) : Prop := ∃ v, e = .returned v ∧ R v ∧ Below w.heap.size w w'
theorem RetF.g {P : Program} {f : FuncId} {args : Array Value} {fk : FloatKind} {X : Nat} {w : World} (h : Calls P f args w (RetF fk X w)) : Calls P f args w (RetG (fun v => ∃ r, v = .float fk r ∧ Fb fk X r) w) :=
  h.mono fun _ _ ⟨r, h1, h2, h3⟩ => ⟨_, h1, ⟨r, rfl, h2⟩, h3⟩
theorem RetB.g {P : Program} {f : FuncId} {args : Array Value} {b : Bool} {w : World} (h : Calls P f args w (RetB b w)) : Calls P f args w (RetG (fun v => v = .bool b) w) :=
  h.mono fun _ _ ⟨h1, h3⟩ => ⟨_, h1, rfl, h3⟩

section
variable {P : Program} {ops : Array Oper} {w0 : World} {Rs : List SR} {T : Act → (World → Prop) → Prop} {k : Nat} {o : Oper} {rest : List Oper} {a : Act} {F : World → Prop}

theorem wpRel_pure {R : Value → Prop} (hg : o.guard = none) (hR : Rs.getD k SR.top = SR.pure R) (hrun : ∀ w, CB w0 w → relUpon P (CB w0) w (fun v _ => R v) ((execOp a.eval o).run P w))
    (hn : ∀ v, R v → wpRel P ops (CB w0) (rels Rs) T (k + 1) rest (a.put o.dst v) F) : wpRel P ops (CB w0) (rels Rs) T k (o :: rest) a F := by
  have e : rels Rs k = fun v _ => R v := by unfold rels; rw [hR]; rfl
  refine ⟨.inl ⟨by simp [Region.wanted, hg], fun w hw => ?_⟩, fun v hv => ?_⟩
  · rw [e]
    exact hrun w hw
  · rw [e] at hv ⊢
    obtain ⟨w, _, hv⟩ := hv
    have e2 : (fun w => F w ∧ R v) = F := funext fun w => propext ⟨fun h => h.1, fun h => ⟨h, hv⟩⟩
    simp only [e2]
    exact hn v hv

theorem wpRel_alloc {O : Obj} {t : TypeId} (hg : o.guard = none) (_ : o.op = .alloc t) (hR : Rs.getD k SR.top = SR.fresh w0 O) (hrun : ∀ w, CB w0 w → ∀ K : Value → World → Prop, K (.pointer (some ⟨w.heap.size, 0, none⟩)) (w.alloc O) → vUpon K ((execOp a.eval o).run P w))
    (hn : ∀ b, w0.heap.size ≤ b → wpRel P ops (CB w0) (rels Rs) T (k + 1) rest (a.put o.dst (.pointer (some ⟨b, 0, none⟩))) (fun w => F w ∧ b < w.heap.size ∧ w.heap[b]? = some O)) : wpRel P ops (CB w0) (rels Rs) T k (o :: rest) a F := by
  have e : rels Rs k = (SR.fresh w0 O).R := by unfold rels; rw [hR]
  refine ⟨.inl ⟨by simp [Region.wanted, hg], fun w hw => ?_⟩, fun v hv => ?_⟩
  · rw [e]
    have := hrun w hw (fun v w' => w' = w.alloc O ∧ v = .pointer (some ⟨w.heap.size, 0, none⟩)) ⟨rfl, rfl⟩
    generalize (execOp a.eval o).run P w = r at this
    cases r with
    | ok n w' =>
      cases n <;> simp only [vUpon] at this
      obtain ⟨rfl, rfl⟩ := this
      have hb : Below w.heap.size w (w.alloc O) := Below.alloc (Below.refl _ _) (Nat.le_refl _) O
      exact ⟨hw.step hb, hb, w.heap.size, rfl, hw.size, (by show w.heap.size < (w.heap.push O).size; simp), (by show (w.heap.push O)[w.heap.size]? = some O; simp)⟩
    | halt x w' => exact this.elim
  · rw [e] at hv ⊢
    obtain ⟨w, _, b, rfl, h1, h2, h3⟩ := hv
    have e2 : (fun w => F w ∧ (SR.fresh w0 O).R (.pointer (some ⟨b, 0, none⟩)) w) = (fun w => F w ∧ b < w.heap.size ∧ w.heap[b]? = some O) := funext fun w => propext ⟨fun h => by
      obtain ⟨h4, c, h5, _, h6, h7⟩ := h
      obtain rfl : b = c := by simpa using h5
      exact ⟨h4, h6, h7⟩, fun h => ⟨h.1, b, rfl, h1, h.2.1, h.2.2⟩⟩
    rw [e2]
    exact hn b h1

theorem wpRel_val {u : Value} (hg : o.guard = none) (hR : Rs.getD k SR.top = SR.pure fun v => v = u) (hrun : ∀ w, CB w0 w → ∀ K : Value → World → Prop, K u w → vUpon K ((execOp a.eval o).run P w))
    (hn : wpRel P ops (CB w0) (rels Rs) T (k + 1) rest (a.put o.dst u) F) : wpRel P ops (CB w0) (rels Rs) T k (o :: rest) a F := by
  refine wpRel_pure (R := fun v => v = u) hg hR (fun w hw => ?_) (fun v hv => by subst hv; exact hn)
  have := hrun w hw (fun v w' => w' = w ∧ v = u) ⟨rfl, rfl⟩
  generalize (execOp a.eval o).run P w = r at this
  cases r with
  | ok n w' =>
    cases n <;> simp only [vUpon] at this
    obtain ⟨rfl, rfl⟩ := this
    exact ⟨hw, Below.refl _ _, rfl⟩
  | halt x w' => exact this.elim

theorem wpRel_load {u : Value} {t : TypeId} {x : Operand} (hg : o.guard = none) (_ : o.op = .load t x) (hR : Rs.getD k SR.top = SR.pure fun v => v = u) (hrun : ∀ w, CB w0 w → ∀ K : Value → World → Prop, K u w → vUpon K ((execOp a.eval o).run P w))
    (hn : wpRel P ops (CB w0) (rels Rs) T (k + 1) rest (a.put o.dst u) F) : wpRel P ops (CB w0) (rels Rs) T k (o :: rest) a F := wpRel_val hg hR hrun hn

theorem wpRel_fop (hg : o.guard = none) {op : BinOp} {t t' : TypeId} {x y : Operand} (ho : o.op = .binOp op t x y t')
    (hop : arith op = true) {fk : FloatKind} {bx bY X Y : Nat} (hx : a.eval x = .float fk bx) (hy : a.eval y = .float fk bY) (hX : Fb fk X bx) (hY : Fb fk Y bY)
    (hR : Rs.getD k SR.top = SR.pure fun v => ∃ r, v = .float fk r ∧ Fb fk (fop op fk X Y) r)
    (hn : ∀ r, Fb fk (fop op fk X Y) r → wpRel P ops (CB w0) (rels Rs) T (k + 1) rest (a.put o.dst (.float fk r)) F) : wpRel P ops (CB w0) (rels Rs) T k (o :: rest) a F := by
  refine wpRel_pure (R := fun v => ∃ r, v = .float fk r ∧ Fb fk (fop op fk X Y) r) hg hR (fun w hw => ?_) (fun v hv => by obtain ⟨r, rfl, hr⟩ := hv; exact hn r hr)
  obtain ⟨r, n, hr, hf⟩ := run_fop (P := P) w op hop t fk bx bY
  simp only [execOp, ho, hx, hy, Sem.run_bind, run_eqGuard_float, Result.andThen_ok, hr, Sem.run_pure, relUpon]
  have hb : Below w.heap.size w (w.drewN n) := below_drewN (Below.refl _ _) n
  exact ⟨hw.step hb, hb, r, rfl, hf _ _ hX hY⟩

theorem wpRel_fcmp (hg : o.guard = none) {c : BinOp} {t t' : TypeId} {x y : Operand} (ho : o.op = .binOp c t x y t')
    (hc : isCmp c = true) {fk : FloatKind} {bx bY X Y : Nat} (hx : a.eval x = .float fk bx) (hy : a.eval y = .float fk bY) (hX : Fb fk X bx) (hY : Fb fk Y bY)
    (hR : Rs.getD k SR.top = SR.pure fun v => v = .bool (cmpB c fk X Y))
    (hn : wpRel P ops (CB w0) (rels Rs) T (k + 1) rest (a.put o.dst (.bool (cmpB c fk X Y))) F) : wpRel P ops (CB w0) (rels Rs) T k (o :: rest) a F := by
  refine wpRel_val hg hR (fun w _ K hK => ?_) hn
  simp only [execOp, ho, hx, hy, Sem.run_bind, run_eqGuard_float, Result.andThen_ok, run_fcmp w c hc t fk bx bY X Y hX hY, Sem.run_pure, vUpon]
  exact hK

theorem wpRel_fcvt (hg : o.guard = none) {src dst : TypeId} {x : Operand} (ho : o.op = .convert src dst x)
    {s fk : FloatKind} {b X : Nat} (hx : a.eval x = .float s b) (hs : P.underlying src = some (.float s)) (hd : P.underlying dst = some (.float fk)) (hsk : s ≠ fk) (hX : Fb s X b) (hf : fits s fk X)
    (hR : Rs.getD k SR.top = SR.pure fun v => ∃ r, v = .float fk r ∧ Fb fk (fcvt s fk X) r)
    (hn : ∀ r, Fb fk (fcvt s fk X) r → wpRel P ops (CB w0) (rels Rs) T (k + 1) rest (a.put o.dst (.float fk r)) F) : wpRel P ops (CB w0) (rels Rs) T k (o :: rest) a F := by
  refine wpRel_pure (R := fun v => ∃ r, v = .float fk r ∧ Fb fk (fcvt s fk X) r) hg hR (fun w hw => ?_) (fun v hv => by obtain ⟨r, rfl, hr⟩ := hv; exact hn r hr)
  obtain ⟨r, n, hr, hf'⟩ := run_fcvt (P := P) src dst s fk hsk b (by rw [hs]; rfl) hd w
  simp only [execOp, ho, hx, Sem.run_bind, Result.andThen_ok, hr, Sem.run_pure, relUpon]
  have hb : Below w.heap.size w (w.drewN n) := below_drewN (Below.refl _ _) n
  exact ⟨hw.step hb, hb, r, rfl, hf' _ hX hf⟩

theorem wpRel_call {f : FuncId} {args : Array Value} {R : Value → Prop} {c : Call} (hg : o.guard = none) (_ : o.op = .call c) (hR : Rs.getD k SR.top = SR.pure R)
    (hrun : ∀ w, CB w0 w → ∀ K : FuncId → Array Value → World → Prop, K f args w → cUpon K ((execOp a.eval o).run P w)) (hc : ∀ w, CB w0 w → Calls P f args w (RetG R w))
    (hn : ∀ v, R v → wpRel P ops (CB w0) (rels Rs) T (k + 1) rest (a.put o.dst v) F) : wpRel P ops (CB w0) (rels Rs) T k (o :: rest) a F := by
  refine wpRel_pure (R := R) hg hR (fun w hw => ?_) hn
  have := hrun w hw (fun f' a' w' => f' = f ∧ a' = args ∧ w' = w) ⟨rfl, rfl, rfl⟩
  generalize (execOp a.eval o).run P w = r at this
  cases r with
  | ok n w' =>
    cases n <;> simp only [cUpon] at this
    obtain ⟨rfl, rfl, rfl⟩ := this
    refine (hc _ hw).mono fun e w'' h => ?_
    obtain ⟨v, rfl, hr, hb⟩ := h
    exact ⟨_, rfl, hw.step hb, hb, hr⟩
  | halt x w' => exact this.elim

theorem wpRel_act {l : List Oper} {a' : Act} (h : a = a') (hn : wpRel P ops (CB w0) (rels Rs) T k l a' F) : wpRel P ops (CB w0) (rels Rs) T k l a F := h ▸ hn

theorem wpRel_nil {Q : Exit → Act → World → Prop} {l : List Oper} (h : ∀ w', CB w0 w' → F w' → wpList P ops Q l a w') : wpRel P ops (CB w0) (rels Rs) (fun a' F => ∀ w', CB w0 w' → F w' → wpList P ops Q l a' w') k [] a F := h

def ExR : Nat → (List SR → Prop) → Prop
  | 0, p => p []
  | n + 1, p => ∃ R, ExR n (fun l => p (R :: l))
theorem ExR.out : ∀ {n : Nat} {p : List SR → Prop}, ExR n p → ∃ l, p l
  | 0, _, h => ⟨_, h⟩
  | _ + 1, _, h => by
    obtain ⟨R, h⟩ := h
    obtain ⟨l, h⟩ := ExR.out h
    exact ⟨_, h⟩

theorem wp_region_relB {id : Nat} {Q : Exit → Act → World → Prop} {w : World} {l : List Oper} (n : Nat) (hm : P.follows .mixedOrders = true) (hB : Region.lexTailB .any l.toArray n = true)
    (h : ExR n fun Rs => wpRel P l.toArray (CB w) (rels Rs) (fun a' F => ∀ w', CB w w' → F w' → wpList P l.toArray Q (l.drop n) a' w') 0 (l.take n) a (fun _ => True)) : (Code.region id l.toArray true).wp P Q a w := by
  obtain ⟨Rs, h⟩ := h.out
  exact wp_region_rel n (rels Rs) (CB w) hm hB (fun i v => (Rs.getD i SR.top).st v) (below_drewN (Below.refl _ _) 1) h

/-- The cells of a box whose whole is known. -/
theorem cell_of_obj {w : World} {b : Nat} {c : Array Value} {t : TypeId} (h : w.heap[b]? = some (.cells c t)) (i : Nat) : w.cell? ⟨b, i, none⟩ = c[i]? := by
  simp [World.cell?, h]
theorem frozen_of_obj {w : World} {b : Nat} {c : Array Value} {t : TypeId} (h : w.heap[b]? = some (.cells c t)) (i : Nat) : w.frozen? ⟨b, i, none⟩ = false := by
  simp [World.frozen?, h]
end

end Go.Proofs.Ythnlpbfheefldaa
