/-
  Regions that draw their order, anew: an operation of the head may use what its forerunners made; calls there may hand back new slices. Conditions: none.
-/
import Derived.Test.YthnlpbfheefldaaAi
namespace Go.Proofs.Ythnlpbfheefldaa
open Go Go.RowKit

def made (ops : Array Oper) (j : Nat) : Option Nat := (ops[j]?).bind (·.dst)
/-- What is known of the value of an operation of the head: a relation that stands, and the blocks that it owns. -/
structure SF where
  R : Value → World → Prop
  st : ∀ v, Stable (R v)
  ft : Value → Nat → Prop
structure Stat (ops : Array Oper) (n nt : Nat) : Prop where
  dist : ∀ i j d, i < n → j < n → made ops i = some d → made ops j = some d → i = j
  bnd : ∀ i d, i < n → made ops i = some d → d < nt
theorem got_put {a : Act} {d : Nat} {v : Value} (h : d < a.tmps.size) : (a.put (some d) v).tmps.getD d undef = v := by simp [Act.put, Array.getD, h]
theorem got_ne {a : Act} {o : Option Nat} {d : Nat} {v : Value} (h : o ≠ some d) : (a.put o v).tmps.getD d undef = a.tmps.getD d undef := by
  cases o with
  | none => rfl
  | some e =>
    refine getD_put ?_
    cases h' : Nat.beq e d
    · rfl
    · exact absurd (congrArg some (Nat.eq_of_beq_eq_true h')) h
theorem put_size (a : Act) (o : Option Nat) (v : Value) : (a.put o v).tmps.size = a.tmps.size := by cases o <;> simp [Act.put]

section
variable {P : Program} {ops : Array Oper} {md : Region.Mode} {C : World → Prop} {Rs : Nat → SF} {n nt lo : Nat}

def EFact (md : Region.Mode) (ops : Array Oper) (Rs : Nat → SF) (n : Nat) (o : Oper) (a : Act) (w : World) : Prop :=
  ∀ e ∈ o.after, Region.binds md e = true → ∀ d, made ops e.on = some d → e.on < n → (Rs e.on).R (a.tmps.getD d undef) w
def relUpon2 (P : Program) (C : World → Prop) (w : World) (R : SF) : Result Next → Prop
  | .ok (.value u) w' => C w' ∧ Below w.heap.size w w' ∧ R.R u w' ∧ ∀ g, R.ft u g → w.heap.size ≤ g ∧ g < w'.heap.size
  | .ok .skip w' => C w' ∧ Below w.heap.size w w' ∧ R.R undef w' ∧ ∀ g, R.ft undef g → w.heap.size ≤ g ∧ g < w'.heap.size
  | .ok (.enter f args) w' => Calls P f args w' fun e w'' => ∃ v, e = .returned v ∧ C w'' ∧ Below w.heap.size w w'' ∧ R.R v w'' ∧ ∀ g, R.ft v g → w.heap.size ≤ g ∧ g < w''.heap.size
  | _ => False
def Yields2 (P : Program) (md : Region.Mode) (ops : Array Oper) (C : World → Prop) (Rs : Nat → SF) (n : Nat) (o : Oper) (i : Nat) (a : Act) : Prop :=
  (Region.wanted o (yielded ops a.tmps) = true ∧ ∀ w, C w → EFact md ops Rs n o a w → relUpon2 P C w (Rs i) ((execOp a.eval o).run P w)) ∨
  (Region.wanted o (yielded ops a.tmps) = false ∧ ∀ w, (Rs i).R undef w ∧ ∀ g, ¬ (Rs i).ft undef g)
def rOp2 (P : Program) (md : Region.Mode) (ops : Array Oper) (C : World → Prop) (Rs : Nat → SF) (n : Nat) (i : Nat) (K : Act → (World → Prop) → Prop) (a : Act) (F : World → Prop) : Prop :=
  match ops[i]? with
  | none => False
  | some o => Yields2 P md ops C Rs n o i a ∧ ∀ v, (∃ w, C w ∧ F w ∧ (Rs i).R v w) → K (a.put o.dst v) (fun w => F w ∧ (Rs i).R v w)
def wpAnyR2 (P : Program) (md : Region.Mode) (ops : Array Oper) (C : World → Prop) (Rs : Nat → SF) (n : Nat) (L : Array Bool → Act → (World → Prop) → Prop) : Nat → Array Bool → Act → (World → Prop) → Prop
  | 0, listed, a, F => L listed a F
  | f + 1, listed, a, F => Region.ready md ops listed ≠ [] ∧ ∀ i ∈ Region.ready md ops listed, i < n ∧ rOp2 P md ops C Rs n i (wpAnyR2 P md ops C Rs n L f (listed.setIfInBounds i true)) a F

def Known (ops : Array Oper) (Rs : Nat → SF) (n : Nat) (listed : Array Bool) (a : Act) (w : World) : Prop :=
  ∀ j d, j < n → made ops j = some d → listed.getD j false = true → (Rs j).R (a.tmps.getD d undef) w
structure Feet (ops : Array Oper) (Rs : Nat → SF) (n lo : Nat) (listed : Array Bool) (a : Act) (w : World) : Prop where
  lt : ∀ j d, j < n → made ops j = some d → listed.getD j false = true → ∀ g, (Rs j).ft (a.tmps.getD d undef) g → lo ≤ g ∧ g < w.heap.size
  ap : ∀ j k d e, j < n → k < n → j ≠ k → made ops j = some d → made ops k = some e → listed.getD j false = true → listed.getD k false = true → ∀ g, (Rs j).ft (a.tmps.getD d undef) g → ¬ (Rs k).ft (a.tmps.getD e undef) g

theorem listed_ne {listed : Array Bool} {i j : Nat} (h : i ≠ j) : (listed.setIfInBounds i true).getD j false = listed.getD j false := getD_set_ne false h
theorem made_of {i : Nat} {o : Oper} (h : ops[i]? = some o) : made ops i = o.dst := by simp [made, h]

theorem Known.step (hS : Stat ops n nt) {i : Nat} {o : Oper} (hi : i < n) (ho : ops[i]? = some o) {a : Act} {v : Value} {listed : Array Bool} {w : World} (hsz : a.tmps.size = nt) (h : Known ops Rs n listed a w) (hv : (Rs i).R v w) : Known ops Rs n (listed.setIfInBounds i true) (a.put o.dst v) w := by
  intro j d hj hm hl
  by_cases hij : i = j
  · subst hij
    have : o.dst = some d := (made_of ho).symm.trans hm
    rw [this, got_put (by rw [hsz]; exact hS.bnd _ _ hi hm)]
    exact hv
  · rw [listed_ne hij] at hl
    rw [got_ne fun e => hij (hS.dist i j d hi hj ((made_of ho).trans e) hm)]
    exact h j d hj hm hl
theorem Feet.step (hS : Stat ops n nt) {i : Nat} {o : Oper} (hi : i < n) (ho : ops[i]? = some o) {a : Act} {v : Value} {listed : Array Bool} {w w' : World} (hsz : a.tmps.size = nt) (hlo : lo ≤ w.heap.size) (hb : w.heap.size ≤ w'.heap.size) (h : Feet ops Rs n lo listed a w) (hv : ∀ g, (Rs i).ft v g → w.heap.size ≤ g ∧ g < w'.heap.size) : Feet ops Rs n lo (listed.setIfInBounds i true) (a.put o.dst v) w' := by
  have get : ∀ j d, j < n → made ops j = some d → i ≠ j → (a.put o.dst v).tmps.getD d undef = a.tmps.getD d undef := fun j d hj hm hij => got_ne fun e => hij (hS.dist i j d hi hj ((made_of ho).trans e) hm)
  have gi : ∀ d, made ops i = some d → (a.put o.dst v).tmps.getD d undef = v := fun d hm => by
    have : o.dst = some d := (made_of ho).symm.trans hm
    rw [this, got_put (by rw [hsz]; exact hS.bnd _ _ hi hm)]
  constructor
  · intro j d hj hm hl g hg
    by_cases hij : i = j
    · subst hij
      rw [gi d hm] at hg
      have := hv g hg
      omega
    · rw [listed_ne hij] at hl
      rw [get j d hj hm hij] at hg
      have := h.lt j d hj hm hl g hg
      omega
  · intro j k d e hj hk hjk hm hm' hl hl' g hg hg'
    by_cases hij : i = j
    · subst hij
      rw [gi d hm] at hg
      rw [listed_ne hjk] at hl'
      rw [get k e hk hm' hjk] at hg'
      have := h.lt k e hk hm' hl' g hg'
      have := hv g hg
      omega
    · rw [listed_ne hij] at hl
      rw [get j d hj hm hij] at hg
      by_cases hik : i = k
      · subst hik
        rw [gi e hm'] at hg'
        have := h.lt j d hj hm hl g hg
        have := hv g hg'
        omega
      · rw [listed_ne hik] at hl'
        rw [get k e hk hm' hik] at hg'
        exact h.ap j k d e hj hk hjk hm hm' hl hl' g hg hg'

theorem ready_fact {i : Nat} {o : Oper} {listed : Array Bool} {a : Act} {w : World} (hr : i ∈ Region.ready md ops listed) (ho : ops[i]? = some o) (h : Known ops Rs n listed a w) : EFact md ops Rs n o a w := fun e he hb d hm hn => by
  obtain ⟨_, o', ho', hall⟩ := mem_ready.1 hr
  obtain rfl : o = o' := by rw [ho] at ho'; exact Option.some.inj ho'
  exact h _ d hn hm (hall e he hb)

theorem wpAny_of_rel2 (hS : Stat ops n nt) (hlo : ∀ w, C w → lo ≤ w.heap.size) {g : Nat} {L : Array Bool → Act → (World → Prop) → Prop} {Q' : Exit → Act → World → Prop}
    (hL : ∀ listed a F w, C w → F w → Feet ops Rs n lo listed a w → L listed a F → wpAny P md ops Q' g listed a w) :
    ∀ (f : Nat) (listed : Array Bool) (a : Act) (F : World → Prop) (w : World), C w → F w → Stable F → a.tmps.size = nt → (∀ w, F w → Known ops Rs n listed a w) → Feet ops Rs n lo listed a w →
      wpAnyR2 P md ops C Rs n L f listed a F → wpAny P md ops Q' (f + g) listed a w
  | 0, listed, a, F, w, hC, hF, _, _, _, hft, h => by rw [Nat.zero_add]; exact hL _ _ _ _ hC hF hft h
  | f + 1, listed, a, F, w, hC, hF, hs, hsz, hK, hft, h => by
    rw [show f + 1 + g = (f + g) + 1 by omega]
    refine ⟨fun h0 => absurd h0 h.1, fun i hi => ?_⟩
    obtain ⟨hin, hh⟩ := h.2 i hi
    unfold rOp2 at hh
    unfold wpOp
    cases ho : ops[i]? with
    | none => rw [ho] at hh; exact hh.elim
    | some o =>
      rw [ho] at hh
      obtain ⟨hy, hk⟩ := hh
      have hnext : ∀ v w', C w' → Below w.heap.size w w' → (Rs i).R v w' → (∀ g, (Rs i).ft v g → w.heap.size ≤ g ∧ g < w'.heap.size) → wpAny P md ops Q' (f + g) (listed.setIfInBounds i true) (a.put o.dst v) w' := fun v w' h1 h2 h3 h4 =>
        wpAny_of_rel2 hS hlo hL f _ _ _ w' h1 ⟨hs w w' h2 hF, h3⟩ (fun w1 w2 hb hp => ⟨hs w1 w2 hb hp.1, (Rs i).st v w1 w2 hb hp.2⟩) (by rw [put_size]; exact hsz)
          (fun w'' hh => (hK w'' hh.1).step hS hin ho hsz hh.2) (hft.step hS hin ho hsz (hlo w hC) h2.size h4) (hk v ⟨w', h1, hs w w' h2 hF, h3⟩)
      rcases hy with ⟨hw, hy⟩ | ⟨hw, hy⟩
      case inr =>
        simp only [hw, Bool.false_eq_true, if_false]
        exact hnext _ _ hC (Below.refl _ _) (hy w).1 fun g hg => absurd hg ((hy w).2 g)
      simp only [hw, if_true]
      refine .inl ?_
      have h3 := hy w hC (ready_fact hi ho (hK w hF))
      unfold Oper.wp
      generalize (execOp a.eval o).run P w = r at *
      cases r with
      | ok nx w' =>
        cases nx <;> simp only [relUpon2] at h3 <;> simp only [Oper.upon]
        case value u => exact hnext _ _ h3.1 h3.2.1 h3.2.2.1 h3.2.2.2
        case skip => exact hnext _ _ h3.1 h3.2.1 h3.2.2.1 h3.2.2.2
        case enter f args =>
          refine h3.mono fun e w'' hw => ?_
          obtain ⟨v, rfl, h4, h5, h6, h7⟩ := hw
          exact hnext _ _ h4 h5 h6 h7
      | halt x w' => simp only [relUpon2] at h3

theorem Yields2.some_ {o : Oper} {i : Nat} {a : Act} {F : World → Prop} (hF : Stable F) (hex : ∃ w, C w ∧ F w) (hE : ∀ w, F w → EFact md ops Rs n o a w) (hy : Yields2 P md ops C Rs n o i a) : ∃ v w, C w ∧ F w ∧ (Rs i).R v w := by
  obtain ⟨w, hw, hf⟩ := hex
  rcases hy with ⟨_, hy⟩ | ⟨_, hy⟩
  case inr => exact ⟨undef, w, hw, hf, (hy w).1⟩
  have h3 := hy w hw (hE w hf)
  generalize (execOp a.eval o).run P w = r at *
  cases r with
  | ok n w' =>
    cases n <;> simp only [relUpon2] at h3
    case value u => exact ⟨u, w', h3.1, hF w w' h3.2.1 hf, h3.2.2.1⟩
    case skip => exact ⟨undef, w', h3.1, hF w w' h3.2.1 hf, h3.2.2.1⟩
    case enter f args =>
      obtain ⟨e, w'', _, ⟨v, _, h1, h4, h2, _⟩, _⟩ := h3 []
      exact ⟨v, w'', h1, hF w w'' h4 hf, h2⟩
  | halt x w' => simp only [relUpon2] at h3

theorem EFact.put (hS : Stat ops n nt) {o ok : Oper} {k : Nat} {a : Act} {v : Value} {w : World} (hno : ∀ e ∈ o.after, Region.binds md e = true → e.on ≠ k) (hk : ops[k]? = some ok) (hkn : k < n) : EFact md ops Rs n o (a.put ok.dst v) w ↔ EFact md ops Rs n o a w := by
  have q : ∀ e ∈ o.after, Region.binds md e = true → ∀ d, made ops e.on = some d → e.on < n → (a.put ok.dst v).tmps.getD d undef = a.tmps.getD d undef := fun e he hb d hm hn => got_ne fun x => hno e he hb (hS.dist e.on k d hn hkn hm ((made_of hk).trans x))
  constructor
  · intro h e he hb d hm hn
    rw [← q e he hb d hm hn]
    exact h e he hb d hm hn
  · intro h e he hb d hm hn
    rw [q e he hb d hm hn]
    exact h e he hb d hm hn

theorem wpAnyR2_first {i : Nat} {oi : Oper} {L : Array Bool → Act → (World → Prop) → Prop} (hS : Stat ops n nt) (hi : ops[i]? = some oi) (hsel : ∀ (j : Nat) (o : Oper) cs b, ops[j]? = some o → o.op ≠ .select cs b)
    (hs : Region.sinkB md ops n = true) (hc : Region.chainB md ops n = true) (hn : n < ops.size) (hin : i < n)
    (hdone : ∀ listed a F, L listed a F → ∀ j ∈ Region.ready md ops listed, n ≤ j) :
    ∀ (f : Nat) (listed : Array Bool) (a : Act) (F : World → Prop), HeadInv md ops n listed → Stable F → (∃ w, C w ∧ F w) → a.tmps.size = nt → (∀ w, F w → Known ops Rs n listed a w) →
      (∀ j oj, ops[j]? = some oj → j ≠ i → listed.getD j true = false → (∀ e ∈ oj.after, Region.binds md e = true → e.on ≠ i) → oi.apart ops oj = true) →
      i ∈ Region.ready md ops listed → Yields2 P md ops C Rs n oi i a →
      (∀ v, (∃ w, C w ∧ F w ∧ (Rs i).R v w) → wpAnyR2 P md ops C Rs n L f (listed.setIfInBounds i true) (a.put oi.dst v) (fun w => F w ∧ (Rs i).R v w)) → wpAnyR2 P md ops C Rs n L (f + 1) listed a F := by
  intro f
  induction f with
  | zero =>
    intro listed a F inv hst hex hsz hK _ hr hy H
    have hun := (mem_ready.1 hr).1
    refine ⟨fun h => (by rw [h] at hr; cases hr), fun j hj => ?_⟩
    have hjn : j < n := by
      rcases Nat.lt_or_ge j n with h | h
      · exact h
      · exact absurd hj (tail_waits hs hc hn inv _ i rfl hin hun j h)
    refine ⟨hjn, ?_⟩
    by_cases hji : j = i
    · subst hji
      unfold rOp2
      rw [hi]
      exact ⟨hy, H⟩
    · obtain ⟨v, w, h1, h2⟩ := hy.some_ hst hex fun w hw => ready_fact hr hi (hK w hw)
      have := hdone _ _ _ (H v ⟨w, h1, h2⟩) j (ready_mono hj hji)
      omega
  | succ f ih =>
    intro listed a F inv hst hex hsz hK hfree hr hy H
    have hun := (mem_ready.1 hr).1
    refine ⟨fun h => (by rw [h] at hr; cases hr), fun j hj => ?_⟩
    have hjn : j < n := by
      rcases Nat.lt_or_ge j n with h | h
      · exact h
      · exact absurd hj (tail_waits hs hc hn inv _ i rfl hin hun j h)
    refine ⟨hjn, ?_⟩
    by_cases hji : j = i
    · subst hji
      unfold rOp2
      rw [hi]
      exact ⟨hy, H⟩
    · obtain ⟨hjun, oj, hoj, hall⟩ := mem_ready.1 hj
      have hnot : ∀ e ∈ oj.after, Region.binds md e = true → e.on ≠ i := fun e he hb heq => by
        have h1 := hall e he hb
        rw [heq, getD_both hun] at h1
        cases h1
      have hnoti : ∀ e ∈ oi.after, Region.binds md e = true → e.on ≠ j := fun e he hb heq => by
        obtain ⟨_, oi', hoi', halli⟩ := mem_ready.1 hr
        obtain rfl : oi = oi' := by rw [hi] at hoi'; exact Option.some.inj hoi'
        have h1 := halli e he hb
        rw [heq, getD_both hjun] at h1
        cases h1
      obtain ⟨a1, a2, a3⟩ := Oper.apart_spec (hfree j oj hoj hji hjun hnot)
      have hseli := fun cs b => hsel i oi cs b hi
      have hselj := fun cs b => hsel j oj cs b hoj
      have hj1 : ∀ v, (∃ w, C w ∧ F w ∧ (Rs i).R v w) → rOp2 P md ops C Rs n j (wpAnyR2 P md ops C Rs n L f ((listed.setIfInBounds i true).setIfInBounds j true)) (a.put oi.dst v) (fun w => F w ∧ (Rs i).R v w) := fun v hv => ((H v hv).2 j (ready_mono hj hji)).2
      have hfree' : ∀ k ok, ops[k]? = some ok → k ≠ i → (listed.setIfInBounds j true).getD k true = false →
          (∀ e ∈ ok.after, Region.binds md e = true → e.on ≠ i) → oi.apart ops ok = true := fun k ok hk hki hun hno => by
        refine hfree k ok hk hki ?_ hno
        by_cases hjk : j = k
        · subst hjk; exact hjun
        · rw [getD_set_ne true hjk] at hun; exact hun
      obtain ⟨v0, w0, hw0, hF0, hR0⟩ := hy.some_ hst hex fun w hw => ready_fact hr hi (hK w hw)
      have hyj : Yields2 P md ops C Rs n oj j a := by
        have := hj1 v0 ⟨w0, hw0, hF0, hR0⟩
        unfold rOp2 at this
        rw [hoj] at this
        rcases this.1 with ⟨t1, t2⟩ | ⟨t1, t2⟩
        · rw [wanted_put oj a oi.dst v0 a1] at t1
          rw [execOp_put oj hselj a oi.dst v0 a1] at t2
          exact .inl ⟨t1, fun w hw hE => t2 w hw ((EFact.put hS hnot hi hin).2 hE)⟩
        · rw [wanted_put oj a oi.dst v0 a1] at t1
          exact .inr ⟨t1, t2⟩
      unfold rOp2
      rw [hoj]
      refine ⟨hyj, fun u hu => ?_⟩
      have hyi : Yields2 P md ops C Rs n oi i (a.put oj.dst u) := by
        rcases hy with ⟨t1, t2⟩ | ⟨t1, t2⟩
        case inr => exact .inr ⟨by rw [wanted_put oi a oj.dst u a3]; exact t1, t2⟩
        refine .inl ⟨by rw [wanted_put oi a oj.dst u a3]; exact t1, fun w hw hE => ?_⟩
        rw [execOp_put oi hseli a oj.dst u a3]
        exact t2 w hw ((EFact.put hS hnoti hoj hjn).1 hE)
      obtain ⟨wu, hwu, hFu, hRu⟩ := hu
      refine ih (listed.setIfInBounds j true) (a.put oj.dst u) _ (inv.set hj hjn) (fun w1 w2 hb hp => ⟨hst w1 w2 hb hp.1, (Rs j).st u w1 w2 hb hp.2⟩) ⟨wu, hwu, hFu, hRu⟩ (by rw [put_size]; exact hsz)
        (fun w hh => (hK w hh.1).step hS hjn hoj hsz hh.2) hfree' (ready_mono hr (Ne.symm hji)) hyi fun v hv => ?_
      obtain ⟨wv, hwv, ⟨hFv, hRuv⟩, hRv⟩ := hv
      have h4 := hj1 v ⟨wv, hwv, hFv, hRv⟩
      unfold rOp2 at h4
      rw [hoj] at h4
      have h5 := h4.2 u ⟨wv, hwv, ⟨hFv, hRv⟩, hRuv⟩
      rw [Array.setIfInBounds_comm _ _ hji, Act.put_comm a u v (fun d hd e => a2 d e hd)]
      have e : (fun w => (F w ∧ (Rs j).R u w) ∧ (Rs i).R v w) = (fun w => (F w ∧ (Rs i).R v w) ∧ (Rs j).R u w) := funext fun w => propext ⟨fun h => ⟨⟨h.1.1, h.2⟩, h.1.2⟩, fun h => ⟨⟨h.1.1, h.2⟩, h.1.2⟩⟩
      rw [e]
      exact h5

/-- The walk in the order of the text: k is the number of the operation at hand. -/
def wpRel2 (P : Program) (md : Region.Mode) (ops : Array Oper) (C : World → Prop) (Rs : Nat → SF) (n : Nat) (T : Act → (World → Prop) → Prop) : Nat → List Oper → Act → (World → Prop) → Prop
  | _, [], a, F => T a F
  | k, o :: rest, a, F => Yields2 P md ops C Rs n o k a ∧ ∀ v, (∃ w, C w ∧ F w ∧ (Rs k).R v w) → wpRel2 P md ops C Rs n T (k + 1) rest (a.put o.dst v) (fun w => F w ∧ (Rs k).R v w)

theorem wpAnyR2_lex {g : Nat} {T : Act → (World → Prop) → Prop} (hS : Stat ops n nt) (hsel : Region.noSelect ops = true) (hs : Region.sinkB md ops n = true) (hc : Region.chainB md ops n = true) (hn : n < ops.size) :
    ∀ (l : List Oper) (k : Nat) (listed : Array Bool) (a : Act) (F : World → Prop), (∀ j, j < l.length → l[j]? = ops[k + j]?) → k + l.length = n → HeadInv md ops n listed → (∀ j, j < k → listed.getD j false = true) →
    Stable F → (∃ w, C w ∧ F w) → a.tmps.size = nt → (∀ w, F w → Known ops Rs n listed a w) →
    Region.lexHead md ops g l.length k listed = true → wpRel2 P md ops C Rs n T k l a F →
    wpAnyR2 P md ops C Rs n (fun listed' a' F' => (Region.seqB md ops g n listed' = true ∧ ∀ j, j < n → listed'.getD j false = true) ∧ T a' F') l.length listed a F
  | [], k, listed, a, F, _, hk, _, hall, _, _, _, _, hB, h => by
    have : k = n := by simpa using hk
    subst this
    exact ⟨⟨by simpa [Region.lexHead] using hB, hall⟩, h⟩
  | o :: l, k, listed, a, F, hl, hk, inv, hall, hst, hex, hsz, hK, hB, h => by
    have h0 : ops[k]? = some o := by simpa using (hl 0 (by simp)).symm
    simp only [List.length_cons, Region.lexHead, Bool.and_eq_true] at hB
    obtain ⟨⟨hr, hf⟩, hB'⟩ := hB
    have hkn : k < n := by simp only [List.length_cons] at hk; omega
    have hr' : k ∈ Region.ready md ops listed := by simpa using hr
    refine wpAnyR2_first hS h0 (Region.noSelect_spec hsel) hs hc hn hkn (fun listed' a' F' hL => seqB_ready hL.1.1) l.length listed a F inv hst hex hsz hK (Region.free_spec h0 hf) hr' h.1
      fun v hv => wpAnyR2_lex hS hsel hs hc hn l (k + 1) _ _ _ (fun j hj => by have := hl (j + 1) (by simp; omega); simpa [Nat.add_assoc, Nat.add_comm 1 j] using this) (by simp only [List.length_cons] at hk; omega) (inv.set hr' hkn) (fun j hj => ?_)
        (fun w1 w2 hb hp => ⟨hst w1 w2 hb hp.1, (Rs k).st v w1 w2 hb hp.2⟩) hv (by rw [put_size]; exact hsz) (fun w hh => (hK w hh.1).step hS hkn h0 hsz hh.2) hB' (h.2 v hv)
    by_cases hjk : k = j
    · subst hjk
      have : k < listed.size := by rw [inv.size]; omega
      simp [Array.getD_eq_getD_getElem?, this]
    · rw [listed_ne hjk]
      exact hall j (by omega)

theorem wp_region_rel2 {id : Nat} {Q : Exit → Act → World → Prop} {a : Act} {w : World} {l : List Oper} (n : Nat) (Rs : Nat → SF) (C : World → Prop) (hm : P.follows .mixedOrders = true) (hB : Region.lexTailB .any l.toArray n = true)
    (hS : Stat l.toArray n a.tmps.size) (hlo : ∀ w, C w → lo ≤ w.heap.size) (hC : C (w.drewN 1))
    (h : wpRel2 P .any l.toArray C Rs n (fun a' F => ∀ w' listed, C w' → F w' → Feet l.toArray Rs n lo listed a' w' → (∀ j, j < n → listed.getD j false = true) → wpList P l.toArray Q (l.drop n) a' w') 0 (l.take n) a (fun _ => True)) : (Code.region id l.toArray true).wp P Q a w := by
  simp only [Region.lexTailB, Bool.and_eq_true, decide_eq_true_eq] at hB
  obtain ⟨⟨⟨⟨hsel, hn⟩, hs⟩, hc⟩, hlex⟩ := hB
  have hn' : n < l.length := by simpa using hn
  have htl : (l.take n).length = n := by simp; omega
  have hdl : (l.drop n).length = l.toArray.size - n := by simp
  have inv0 : HeadInv .any l.toArray n (Array.replicate l.toArray.size false) :=
    ⟨by simp, fun j oj _ hl => (by rw [getD_replicate_false] at hl; cases hl), fun t _ ht => getD_in (by simpa using ht) (getD_replicate_false _ _)⟩
  have hno : ∀ w, Known l.toArray Rs n (Array.replicate l.toArray.size false) a w := fun w j d _ _ hl => by rw [getD_replicate_false] at hl; cases hl
  have h1 := wpAnyR2_lex (P := P) (C := C) (Rs := Rs) (md := .any) (g := l.toArray.size - n) hS hsel hs hc hn (l.take n) 0 (Array.replicate l.toArray.size false) a (fun _ => True)
    (fun j hj => by rw [htl] at hj; simp [hj]) (by rw [htl]; omega) inv0 (fun j hj => absurd hj (by omega)) (fun _ _ _ h => h) ⟨_, hC, trivial⟩ rfl (fun w _ => hno w) (by rw [htl]; exact hlex) h
  rw [htl] at h1
  refine wp_region_any hm ?_
  have h2 := wpAny_of_rel2 (Q' := Q) (g := l.toArray.size - n) (lo := lo) hS hlo (fun listed a' F' w' hw hF hft hL => ?_) n _ a _ (w.drewN 1) hC trivial (fun _ _ _ h => h) rfl (fun w _ => hno w)
    ⟨fun j d _ _ hl => (by rw [getD_replicate_false] at hl; cases hl), fun j k d e _ _ _ _ _ hl => (by rw [getD_replicate_false] at hl; cases hl)⟩ h1
  · rw [show n + (l.toArray.size - n) = l.toArray.size by omega] at h2
    exact h2
  · have := wpAny_of_seq (P := P) (md := .any) (ops := l.toArray) (Q' := Q) (l.drop n) n listed a' w' (fun j => by simp [List.getElem?_drop]) (by rw [hdl]; exact hL.1.1) (hL.2 w' listed hw hF hft hL.1.2)
    rwa [hdl] at this
end
end Go.Proofs.Ythnlpbfheefldaa
