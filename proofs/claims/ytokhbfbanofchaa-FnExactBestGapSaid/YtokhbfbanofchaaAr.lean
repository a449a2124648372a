/-
  Regions that draw their order and whose head stores into boxes of the call's own. Conditions: none.
-/
import Derived.Test.YtokhbfbanofchaaBB
namespace Go.Proofs.Ytokhbfbanofchaa
open Go Go.RowKit

/-- What a step of the head may do to the world. -/
structure BlOk (Bl : World → World → Prop) : Prop where
  refl : ∀ w, Bl w w
  trans : ∀ {w w' w''}, Bl w w' → Bl w' w'' → Bl w w''
  size : ∀ {w w'}, Bl w w' → w.heap.size ≤ w'.heap.size
def StB (Bl : World → World → Prop) (F : World → Prop) : Prop := ∀ w w', Bl w w' → F w → F w'
structure SFB (Bl : World → World → Prop) where
  R : Value → World → Prop
  st : ∀ v, StB Bl (R v)
  ft : Value → Nat → Prop

section
variable {P : Program} {ops : Array Oper} {md : Region.Mode} {C : World → Prop} {Bl : World → World → Prop} {Rs : Nat → SFB Bl} {n nt lo : Nat}

def EFactB (md : Region.Mode) (ops : Array Oper) (Rs : Nat → SFB Bl) (n : Nat) (o : Oper) (a : Act) (w : World) : Prop :=
  ∀ e ∈ o.after, Region.binds md e = true → ∀ d, made ops e.on = some d → e.on < n → (Rs e.on).R (a.tmps.getD d undef) w
def relUponB (P : Program) (C : World → Prop) (w : World) (R : SFB Bl) : Result Next → Prop
  | .ok (.value u) w' => C w' ∧ Bl w w' ∧ R.R u w' ∧ ∀ g, R.ft u g → w.heap.size ≤ g ∧ g < w'.heap.size
  | .ok .skip w' => C w' ∧ Bl w w' ∧ R.R undef w' ∧ ∀ g, R.ft undef g → w.heap.size ≤ g ∧ g < w'.heap.size
  | .ok (.enter f args) w' => Calls P f args w' fun e w'' => ∃ v, e = .returned v ∧ C w'' ∧ Bl w w'' ∧ R.R v w'' ∧ ∀ g, R.ft v g → w.heap.size ≤ g ∧ g < w''.heap.size
  | _ => False
def YieldsB (P : Program) (md : Region.Mode) (ops : Array Oper) (C : World → Prop) (Rs : Nat → SFB Bl) (n : Nat) (o : Oper) (i : Nat) (a : Act) : Prop :=
  (Region.wanted o (yielded ops a.tmps) = true ∧ ∀ w, C w → EFactB md ops Rs n o a w → relUponB P C w (Rs i) ((execOp a.eval o).run P w)) ∨
  (Region.wanted o (yielded ops a.tmps) = false ∧ ∀ w, (Rs i).R undef w ∧ ∀ g, ¬ (Rs i).ft undef g)
def rOpB (P : Program) (md : Region.Mode) (ops : Array Oper) (C : World → Prop) (Rs : Nat → SFB Bl) (n : Nat) (i : Nat) (K : Act → (World → Prop) → Prop) (a : Act) (F : World → Prop) : Prop :=
  match ops[i]? with
  | none => False
  | some o => YieldsB P md ops C Rs n o i a ∧ ∀ v, (∃ w, C w ∧ F w ∧ (Rs i).R v w) → K (a.put o.dst v) (fun w => F w ∧ (Rs i).R v w)
def wpAnyRB (P : Program) (md : Region.Mode) (ops : Array Oper) (C : World → Prop) (Rs : Nat → SFB Bl) (n : Nat) (L : Array Bool → Act → (World → Prop) → Prop) : Nat → Array Bool → Act → (World → Prop) → Prop
  | 0, listed, a, F => L listed a F
  | f + 1, listed, a, F => Region.ready md ops listed ≠ [] ∧ ∀ i ∈ Region.ready md ops listed, i < n ∧ rOpB P md ops C Rs n i (wpAnyRB P md ops C Rs n L f (listed.setIfInBounds i true)) a F

def KnownB (ops : Array Oper) (Rs : Nat → SFB Bl) (n : Nat) (listed : Array Bool) (a : Act) (w : World) : Prop :=
  ∀ j d, j < n → made ops j = some d → listed.getD j false = true → (Rs j).R (a.tmps.getD d undef) w
structure FeetB (ops : Array Oper) (Rs : Nat → SFB Bl) (n lo : Nat) (listed : Array Bool) (a : Act) (w : World) : Prop where
  lt : ∀ j d, j < n → made ops j = some d → listed.getD j false = true → ∀ g, (Rs j).ft (a.tmps.getD d undef) g → lo ≤ g ∧ g < w.heap.size
  ap : ∀ j k d e, j < n → k < n → j ≠ k → made ops j = some d → made ops k = some e → listed.getD j false = true → listed.getD k false = true → ∀ g, (Rs j).ft (a.tmps.getD d undef) g → ¬ (Rs k).ft (a.tmps.getD e undef) g


theorem KnownB.step (hS : Stat ops n nt) {i : Nat} {o : Oper} (hi : i < n) (ho : ops[i]? = some o) {a : Act} {v : Value} {listed : Array Bool} {w : World} (hsz : a.tmps.size = nt) (h : KnownB ops Rs n listed a w) (hv : (Rs i).R v w) : KnownB ops Rs n (listed.setIfInBounds i true) (a.put o.dst v) w := by
  intro j d hj hm hl
  by_cases hij : i = j
  · subst hij
    have : o.dst = some d := (made_of ho).symm.trans hm
    rw [this, got_put (by rw [hsz]; exact hS.bnd _ _ hi hm)]
    exact hv
  · rw [listed_ne hij] at hl
    rw [got_ne fun e => hij (hS.dist i j d hi hj ((made_of ho).trans e) hm)]
    exact h j d hj hm hl
theorem FeetB.step (hS : Stat ops n nt) {i : Nat} {o : Oper} (hi : i < n) (ho : ops[i]? = some o) {a : Act} {v : Value} {listed : Array Bool} {w w' : World} (hsz : a.tmps.size = nt) (hlo : lo ≤ w.heap.size) (hb : w.heap.size ≤ w'.heap.size) (h : FeetB ops Rs n lo listed a w) (hv : ∀ g, (Rs i).ft v g → w.heap.size ≤ g ∧ g < w'.heap.size) : FeetB ops Rs n lo (listed.setIfInBounds i true) (a.put o.dst v) w' := by
  have get : ∀ j d, j < n → made ops j = some d → i ≠ j → (a.put o.dst v).tmps.getD d undef = a.tmps.getD d undef := fun j d hj hm hij => got_ne fun e => hij (hS.dist i j d hi hj ((made_of ho).trans e) hm)
  have gi : ∀ d, made ops i = some d → (a.put o.dst v).tmps.getD d undef = v := fun d hm => by
    have : o.dst = some d := (made_of ho).symm.trans hm
    rw [this, got_put (by rw [hsz]; exact hS.bnd _ _ hi hm)]
  constructor
  · intro j d hj hm hl g hg
    by_cases hij : i = j
    · subst hij
      rw [gi d hm] at hg
      have := hv g hg
      omega
    · rw [listed_ne hij] at hl
      rw [get j d hj hm hij] at hg
      have := h.lt j d hj hm hl g hg
      omega
  · intro j k d e hj hk hjk hm hm' hl hl' g hg hg'
    by_cases hij : i = j
    · subst hij
      rw [gi d hm] at hg
      rw [listed_ne hjk] at hl'
      rw [get k e hk hm' hjk] at hg'
      have := h.lt k e hk hm' hl' g hg'
      have := hv g hg
      omega
    · rw [listed_ne hij] at hl
      rw [get j d hj hm hij] at hg
      by_cases hik : i = k
      · subst hik
        rw [gi e hm'] at hg'
        have := h.lt j d hj hm hl g hg
        have := hv g hg'
        omega
      · rw [listed_ne hik] at hl'
        rw [get k e hk hm' hik] at hg'
        exact h.ap j k d e hj hk hjk hm hm' hl hl' g hg hg'

theorem ready_factB {i : Nat} {o : Oper} {listed : Array Bool} {a : Act} {w : World} (hr : i ∈ Region.ready md ops listed) (ho : ops[i]? = some o) (h : KnownB ops Rs n listed a w) : EFactB md ops Rs n o a w := fun e he hb d hm hn => by
  obtain ⟨_, o', ho', hall⟩ := mem_ready.1 hr
  obtain rfl : o = o' := by rw [ho] at ho'; exact Option.some.inj ho'
  exact h _ d hn hm (hall e he hb)

theorem wpAny_of_relB2 (hBl : BlOk Bl) (hS : Stat ops n nt) (hlo : ∀ w, C w → lo ≤ w.heap.size) {g : Nat} {L : Array Bool → Act → (World → Prop) → Prop} {Q' : Exit → Act → World → Prop}
    (hL : ∀ listed a F w, C w → F w → FeetB ops Rs n lo listed a w → L listed a F → wpAny P md ops Q' g listed a w) :
    ∀ (f : Nat) (listed : Array Bool) (a : Act) (F : World → Prop) (w : World), C w → F w → StB Bl F → a.tmps.size = nt → (∀ w, F w → KnownB ops Rs n listed a w) → FeetB ops Rs n lo listed a w →
      wpAnyRB P md ops C Rs n L f listed a F → wpAny P md ops Q' (f + g) listed a w
  | 0, listed, a, F, w, hC, hF, _, _, _, hft, h => by rw [Nat.zero_add]; exact hL _ _ _ _ hC hF hft h
  | f + 1, listed, a, F, w, hC, hF, hs, hsz, hK, hft, h => by
    rw [show f + 1 + g = (f + g) + 1 by omega]
    refine ⟨fun h0 => absurd h0 h.1, fun i hi => ?_⟩
    obtain ⟨hin, hh⟩ := h.2 i hi
    unfold rOpB at hh
    unfold wpOp
    cases ho : ops[i]? with
    | none => rw [ho] at hh; exact hh.elim
    | some o =>
      rw [ho] at hh
      obtain ⟨hy, hk⟩ := hh
      have hnext : ∀ v w', C w' → Bl w w' → (Rs i).R v w' → (∀ g, (Rs i).ft v g → w.heap.size ≤ g ∧ g < w'.heap.size) → wpAny P md ops Q' (f + g) (listed.setIfInBounds i true) (a.put o.dst v) w' := fun v w' h1 h2 h3 h4 =>
        wpAny_of_relB2 hBl hS hlo hL f _ _ _ w' h1 ⟨hs w w' h2 hF, h3⟩ (fun w1 w2 hb hp => ⟨hs w1 w2 hb hp.1, (Rs i).st v w1 w2 hb hp.2⟩) (by rw [put_size]; exact hsz)
          (fun w'' hh => (hK w'' hh.1).step hS hin ho hsz hh.2) (hft.step hS hin ho hsz (hlo w hC) (hBl.size h2) h4) (hk v ⟨w', h1, hs w w' h2 hF, h3⟩)
      rcases hy with ⟨hw, hy⟩ | ⟨hw, hy⟩
      case inr =>
        simp only [hw, Bool.false_eq_true, if_false]
        exact hnext _ _ hC (hBl.refl _) (hy w).1 fun g hg => absurd hg ((hy w).2 g)
      simp only [hw, if_true]
      refine .inl ?_
      have h3 := hy w hC (ready_factB hi ho (hK w hF))
      unfold Oper.wp
      generalize (execOp a.eval o).run P w = r at *
      cases r with
      | ok nx w' =>
        cases nx <;> simp only [relUponB] at h3 <;> simp only [Oper.upon]
        case value u => exact hnext _ _ h3.1 h3.2.1 h3.2.2.1 h3.2.2.2
        case skip => exact hnext _ _ h3.1 h3.2.1 h3.2.2.1 h3.2.2.2
        case enter f args =>
          refine h3.mono fun e w'' hw => ?_
          obtain ⟨v, rfl, h4, h5, h6, h7⟩ := hw
          exact hnext _ _ h4 h5 h6 h7
      | halt x w' => simp only [relUponB] at h3

theorem YieldsB.some_ (hBl : BlOk Bl) {o : Oper} {i : Nat} {a : Act} {F : World → Prop} (hF : StB Bl F) (hex : ∃ w, C w ∧ F w) (hE : ∀ w, F w → EFactB md ops Rs n o a w) (hy : YieldsB P md ops C Rs n o i a) : ∃ v w, C w ∧ F w ∧ (Rs i).R v w := by
  obtain ⟨w, hw, hf⟩ := hex
  rcases hy with ⟨_, hy⟩ | ⟨_, hy⟩
  case inr => exact ⟨undef, w, hw, hf, (hy w).1⟩
  have h3 := hy w hw (hE w hf)
  generalize (execOp a.eval o).run P w = r at *
  cases r with
  | ok n w' =>
    cases n <;> simp only [relUponB] at h3
    case value u => exact ⟨u, w', h3.1, hF w w' h3.2.1 hf, h3.2.2.1⟩
    case skip => exact ⟨undef, w', h3.1, hF w w' h3.2.1 hf, h3.2.2.1⟩
    case enter f args =>
      obtain ⟨e, w'', _, ⟨v, _, h1, h4, h2, _⟩, _⟩ := h3 []
      exact ⟨v, w'', h1, hF w w'' h4 hf, h2⟩
  | halt x w' => simp only [relUponB] at h3

theorem EFactB.put (hS : Stat ops n nt) {o ok : Oper} {k : Nat} {a : Act} {v : Value} {w : World} (hno : ∀ e ∈ o.after, Region.binds md e = true → e.on ≠ k) (hk : ops[k]? = some ok) (hkn : k < n) : EFactB md ops Rs n o (a.put ok.dst v) w ↔ EFactB md ops Rs n o a w := by
  have q : ∀ e ∈ o.after, Region.binds md e = true → ∀ d, made ops e.on = some d → e.on < n → (a.put ok.dst v).tmps.getD d undef = a.tmps.getD d undef := fun e he hb d hm hn => got_ne fun x => hno e he hb (hS.dist e.on k d hn hkn hm ((made_of hk).trans x))
  constructor
  · intro h e he hb d hm hn
    rw [← q e he hb d hm hn]
    exact h e he hb d hm hn
  · intro h e he hb d hm hn
    rw [q e he hb d hm hn]
    exact h e he hb d hm hn

theorem wpAnyRB_first (hBl : BlOk Bl) {i : Nat} {oi : Oper} {L : Array Bool → Act → (World → Prop) → Prop} (hS : Stat ops n nt) (hi : ops[i]? = some oi) (hsel : ∀ (j : Nat) (o : Oper) cs b, ops[j]? = some o → o.op ≠ .select cs b)
    (hs : Region.sinkB md ops n = true) (hc : Region.chainB md ops n = true) (hn : n < ops.size) (hin : i < n)
    (hdone : ∀ listed a F, L listed a F → ∀ j ∈ Region.ready md ops listed, n ≤ j) :
    ∀ (f : Nat) (listed : Array Bool) (a : Act) (F : World → Prop), HeadInv md ops n listed → StB Bl F → (∃ w, C w ∧ F w) → a.tmps.size = nt → (∀ w, F w → KnownB ops Rs n listed a w) →
      (∀ j oj, ops[j]? = some oj → j ≠ i → listed.getD j true = false → (∀ e ∈ oj.after, Region.binds md e = true → e.on ≠ i) → oi.apart ops oj = true) →
      i ∈ Region.ready md ops listed → YieldsB P md ops C Rs n oi i a →
      (∀ v, (∃ w, C w ∧ F w ∧ (Rs i).R v w) → wpAnyRB P md ops C Rs n L f (listed.setIfInBounds i true) (a.put oi.dst v) (fun w => F w ∧ (Rs i).R v w)) → wpAnyRB P md ops C Rs n L (f + 1) listed a F := by
  intro f
  induction f with
  | zero =>
    intro listed a F inv hst hex hsz hK _ hr hy H
    have hun := (mem_ready.1 hr).1
    refine ⟨fun h => (by rw [h] at hr; cases hr), fun j hj => ?_⟩
    have hjn : j < n := by
      rcases Nat.lt_or_ge j n with h | h
      · exact h
      · exact absurd hj (tail_waits hs hc hn inv _ i rfl hin hun j h)
    refine ⟨hjn, ?_⟩
    by_cases hji : j = i
    · subst hji
      unfold rOpB
      rw [hi]
      exact ⟨hy, H⟩
    · obtain ⟨v, w, h1, h2⟩ := hy.some_ hBl hst hex fun w hw => ready_factB hr hi (hK w hw)
      have := hdone _ _ _ (H v ⟨w, h1, h2⟩) j (ready_mono hj hji)
      omega
  | succ f ih =>
    intro listed a F inv hst hex hsz hK hfree hr hy H
    have hun := (mem_ready.1 hr).1
    refine ⟨fun h => (by rw [h] at hr; cases hr), fun j hj => ?_⟩
    have hjn : j < n := by
      rcases Nat.lt_or_ge j n with h | h
      · exact h
      · exact absurd hj (tail_waits hs hc hn inv _ i rfl hin hun j h)
    refine ⟨hjn, ?_⟩
    by_cases hji : j = i
    · subst hji
      unfold rOpB
      rw [hi]
      exact ⟨hy, H⟩
    · obtain ⟨hjun, oj, hoj, hall⟩ := mem_ready.1 hj
      have hnot : ∀ e ∈ oj.after, Region.binds md e = true → e.on ≠ i := fun e he hb heq => by
        have h1 := hall e he hb
        rw [heq, getD_both hun] at h1
        cases h1
      have hnoti : ∀ e ∈ oi.after, Region.binds md e = true → e.on ≠ j := fun e he hb heq => by
        obtain ⟨_, oi', hoi', halli⟩ := mem_ready.1 hr
        obtain rfl : oi = oi' := by rw [hi] at hoi'; exact Option.some.inj hoi'
        have h1 := halli e he hb
        rw [heq, getD_both hjun] at h1
        cases h1
      obtain ⟨a1, a2, a3⟩ := Oper.apart_spec (hfree j oj hoj hji hjun hnot)
      have hseli := fun cs b => hsel i oi cs b hi
      have hselj := fun cs b => hsel j oj cs b hoj
      have hj1 : ∀ v, (∃ w, C w ∧ F w ∧ (Rs i).R v w) → rOpB P md ops C Rs n j (wpAnyRB P md ops C Rs n L f ((listed.setIfInBounds i true).setIfInBounds j true)) (a.put oi.dst v) (fun w => F w ∧ (Rs i).R v w) := fun v hv => ((H v hv).2 j (ready_mono hj hji)).2
      have hfree' : ∀ k ok, ops[k]? = some ok → k ≠ i → (listed.setIfInBounds j true).getD k true = false →
          (∀ e ∈ ok.after, Region.binds md e = true → e.on ≠ i) → oi.apart ops ok = true := fun k ok hk hki hun hno => by
        refine hfree k ok hk hki ?_ hno
        by_cases hjk : j = k
        · subst hjk; exact hjun
        · rw [getD_set_ne true hjk] at hun; exact hun
      obtain ⟨v0, w0, hw0, hF0, hR0⟩ := hy.some_ hBl hst hex fun w hw => ready_factB hr hi (hK w hw)
      have hyj : YieldsB P md ops C Rs n oj j a := by
        have := hj1 v0 ⟨w0, hw0, hF0, hR0⟩
        unfold rOpB at this
        rw [hoj] at this
        rcases this.1 with ⟨t1, t2⟩ | ⟨t1, t2⟩
        · rw [wanted_put oj a oi.dst v0 a1] at t1
          rw [execOp_put oj hselj a oi.dst v0 a1] at t2
          exact .inl ⟨t1, fun w hw hE => t2 w hw ((EFactB.put hS hnot hi hin).2 hE)⟩
        · rw [wanted_put oj a oi.dst v0 a1] at t1
          exact .inr ⟨t1, t2⟩
      unfold rOpB
      rw [hoj]
      refine ⟨hyj, fun u hu => ?_⟩
      have hyi : YieldsB P md ops C Rs n oi i (a.put oj.dst u) := by
        rcases hy with ⟨t1, t2⟩ | ⟨t1, t2⟩
        case inr => exact .inr ⟨by rw [wanted_put oi a oj.dst u a3]; exact t1, t2⟩
        refine .inl ⟨by rw [wanted_put oi a oj.dst u a3]; exact t1, fun w hw hE => ?_⟩
        rw [execOp_put oi hseli a oj.dst u a3]
        exact t2 w hw ((EFactB.put hS hnoti hoj hjn).1 hE)
      obtain ⟨wu, hwu, hFu, hRu⟩ := hu
      refine ih (listed.setIfInBounds j true) (a.put oj.dst u) _ (inv.set hj hjn) (fun w1 w2 hb hp => ⟨hst w1 w2 hb hp.1, (Rs j).st u w1 w2 hb hp.2⟩) ⟨wu, hwu, hFu, hRu⟩ (by rw [put_size]; exact hsz)
        (fun w hh => (hK w hh.1).step hS hjn hoj hsz hh.2) hfree' (ready_mono hr (Ne.symm hji)) hyi fun v hv => ?_
      obtain ⟨wv, hwv, ⟨hFv, hRuv⟩, hRv⟩ := hv
      have h4 := hj1 v ⟨wv, hwv, hFv, hRv⟩
      unfold rOpB at h4
      rw [hoj] at h4
      have h5 := h4.2 u ⟨wv, hwv, ⟨hFv, hRv⟩, hRuv⟩
      rw [Array.setIfInBounds_comm _ _ hji, Act.put_comm a u v (fun d hd e => a2 d e hd)]
      have e : (fun w => (F w ∧ (Rs j).R u w) ∧ (Rs i).R v w) = (fun w => (F w ∧ (Rs i).R v w) ∧ (Rs j).R u w) := funext fun w => propext ⟨fun h => ⟨⟨h.1.1, h.2⟩, h.1.2⟩, fun h => ⟨⟨h.1.1, h.2⟩, h.1.2⟩⟩
      rw [e]
      exact h5

/-- The walk in the order of the text: k is the number of the operation at hand. -/
def wpRelB2 (P : Program) (md : Region.Mode) (ops : Array Oper) (C : World → Prop) (Rs : Nat → SFB Bl) (n : Nat) (T : Act → (World → Prop) → Prop) : Nat → List Oper → Act → (World → Prop) → Prop
  | _, [], a, F => T a F
  | k, o :: rest, a, F => YieldsB P md ops C Rs n o k a ∧ ∀ v, (∃ w, C w ∧ F w ∧ (Rs k).R v w) → wpRelB2 P md ops C Rs n T (k + 1) rest (a.put o.dst v) (fun w => F w ∧ (Rs k).R v w)

theorem wpAnyRB_lex (hBl : BlOk Bl) {g : Nat} {T : Act → (World → Prop) → Prop} (hS : Stat ops n nt) (hsel : Region.noSelect ops = true) (hs : Region.sinkB md ops n = true) (hc : Region.chainB md ops n = true) (hn : n < ops.size) :
    ∀ (l : List Oper) (k : Nat) (listed : Array Bool) (a : Act) (F : World → Prop), (∀ j, j < l.length → l[j]? = ops[k + j]?) → k + l.length = n → HeadInv md ops n listed → (∀ j, j < k → listed.getD j false = true) →
    StB Bl F → (∃ w, C w ∧ F w) → a.tmps.size = nt → (∀ w, F w → KnownB ops Rs n listed a w) →
    Region.lexHead md ops g l.length k listed = true → wpRelB2 P md ops C Rs n T k l a F →
    wpAnyRB P md ops C Rs n (fun listed' a' F' => (Region.seqB md ops g n listed' = true ∧ ∀ j, j < n → listed'.getD j false = true) ∧ T a' F') l.length listed a F
  | [], k, listed, a, F, _, hk, _, hall, _, _, _, _, hB, h => by
    have : k = n := by simpa using hk
    subst this
    exact ⟨⟨by simpa [Region.lexHead] using hB, hall⟩, h⟩
  | o :: l, k, listed, a, F, hl, hk, inv, hall, hst, hex, hsz, hK, hB, h => by
    have h0 : ops[k]? = some o := by simpa using (hl 0 (by simp)).symm
    simp only [List.length_cons, Region.lexHead, Bool.and_eq_true] at hB
    obtain ⟨⟨hr, hf⟩, hB'⟩ := hB
    have hkn : k < n := by simp only [List.length_cons] at hk; omega
    have hr' : k ∈ Region.ready md ops listed := by simpa using hr
    refine wpAnyRB_first hBl hS h0 (Region.noSelect_spec hsel) hs hc hn hkn (fun listed' a' F' hL => seqB_ready hL.1.1) l.length listed a F inv hst hex hsz hK (Region.free_spec h0 hf) hr' h.1
      fun v hv => wpAnyRB_lex hBl hS hsel hs hc hn l (k + 1) _ _ _ (fun j hj => by have := hl (j + 1) (by simp; omega); simpa [Nat.add_assoc, Nat.add_comm 1 j] using this) (by simp only [List.length_cons] at hk; omega) (inv.set hr' hkn) (fun j hj => ?_)
        (fun w1 w2 hb hp => ⟨hst w1 w2 hb hp.1, (Rs k).st v w1 w2 hb hp.2⟩) hv (by rw [put_size]; exact hsz) (fun w hh => (hK w hh.1).step hS hkn h0 hsz hh.2) hB' (h.2 v hv)
    by_cases hjk : k = j
    · subst hjk
      have : k < listed.size := by rw [inv.size]; omega
      simp [Array.getD_eq_getD_getElem?, this]
    · rw [listed_ne hjk]
      exact hall j (by omega)

theorem wp_region_relB2 (hBl : BlOk Bl) {id : Nat} {Q : Exit → Act → World → Prop} {a : Act} {w : World} {l : List Oper} (n : Nat) (Rs : Nat → SFB Bl) (C : World → Prop) (hm : P.follows .mixedOrders = true) (hB : Region.lexTailB .any l.toArray n = true)
    (hS : Stat l.toArray n a.tmps.size) (hlo : ∀ w, C w → lo ≤ w.heap.size) (hC : C (w.drewN 1))
    (h : wpRelB2 P .any l.toArray C Rs n (fun a' F => ∀ w' listed, C w' → F w' → FeetB l.toArray Rs n lo listed a' w' → (∀ j, j < n → listed.getD j false = true) → wpList P l.toArray Q (l.drop n) a' w') 0 (l.take n) a (fun _ => True)) : (Code.region id l.toArray true).wp P Q a w := by
  simp only [Region.lexTailB, Bool.and_eq_true, decide_eq_true_eq] at hB
  obtain ⟨⟨⟨⟨hsel, hn⟩, hs⟩, hc⟩, hlex⟩ := hB
  have hn' : n < l.length := by simpa using hn
  have htl : (l.take n).length = n := by simp; omega
  have hdl : (l.drop n).length = l.toArray.size - n := by simp
  have inv0 : HeadInv .any l.toArray n (Array.replicate l.toArray.size false) :=
    ⟨by simp, fun j oj _ hl => (by rw [getD_replicate_false] at hl; cases hl), fun t _ ht => getD_in (by simpa using ht) (getD_replicate_false _ _)⟩
  have hno : ∀ w, KnownB l.toArray Rs n (Array.replicate l.toArray.size false) a w := fun w j d _ _ hl => by rw [getD_replicate_false] at hl; cases hl
  have h1 := wpAnyRB_lex hBl (P := P) (C := C) (Rs := Rs) (md := .any) (g := l.toArray.size - n) hS hsel hs hc hn (l.take n) 0 (Array.replicate l.toArray.size false) a (fun _ => True)
    (fun j hj => by rw [htl] at hj; simp [hj]) (by rw [htl]; omega) inv0 (fun j hj => absurd hj (by omega)) (fun _ _ _ h => h) ⟨_, hC, trivial⟩ rfl (fun w _ => hno w) (by rw [htl]; exact hlex) h
  rw [htl] at h1
  refine wp_region_any hm ?_
  have h2 := wpAny_of_relB2 hBl (Q' := Q) (g := l.toArray.size - n) (lo := lo) hS hlo (fun listed a' F' w' hw hF hft hL => ?_) n _ a _ (w.drewN 1) hC trivial (fun _ _ _ h => h) rfl (fun w _ => hno w)
    ⟨fun j d _ _ hl => (by rw [getD_replicate_false] at hl; cases hl), fun j k d e _ _ _ _ _ hl => (by rw [getD_replicate_false] at hl; cases hl)⟩ h1
  · rw [show n + (l.toArray.size - n) = l.toArray.size by omega] at h2
    exact h2
  · have := wpAny_of_seq (P := P) (md := .any) (ops := l.toArray) (Q' := Q) (l.drop n) n listed a' w' (fun j => by simp [List.getElem?_drop]) (by rw [hdl]; exact hL.1.1) (hL.2 w' listed hw hF hft hL.1.2)
    rwa [hdl] at this
theorem wpRelB2_mono {P : Program} {md : Region.Mode} {ops : Array Oper} {C : World → Prop} {Rs : Nat → SFB Bl} {n : Nat} {T T' : Act → (World → Prop) → Prop} (hT : ∀ a F, T a F → T' a F) : ∀ (k : Nat) (l : List Oper) (a : Act) (F : World → Prop), wpRelB2 P md ops C Rs n T k l a F → wpRelB2 P md ops C Rs n T' k l a F
  | _, [], a, F, h => hT a F h
  | k, _ :: l, _, _, h => ⟨h.1, fun v hv => wpRelB2_mono hT (k + 1) l _ _ (h.2 v hv)⟩
end
/-- What a step may do to the world: the box b of the call's own may get the cells c. -/
structure Bx (w0 : World) (b : Nat) (c : List AV) (w w' : World) : Prop where
  os : w'.os = w.os
  tape : w'.tape = w.tape
  output : w'.output = w.output
  size : w.heap.size ≤ w'.heap.size
  block : ∀ g, g < w.heap.size → g ≠ b → w'.heap[g]? = w.heap[g]?
  own : b < w.heap.size → w'.heap[b]? = w.heap[b]? ∨ (HE.cells b c).ok w0 w'
theorem bx_ok {w0 : World} {b : Nat} {c : List AV} : BlOk (Bx w0 b c) where
  refl w := ⟨rfl, rfl, rfl, Nat.le_refl _, fun _ _ _ => rfl, fun _ => .inl rfl⟩
  trans {w w' w''} h k := ⟨k.os.trans h.os, k.tape.trans h.tape, k.output.trans h.output, Nat.le_trans h.size k.size, fun g hg hx => (k.block g (Nat.lt_of_lt_of_le hg h.size) hx).trans (h.block g hg hx), fun hl => by
    rcases k.own (Nat.lt_of_lt_of_le hl h.size) with h1 | h1
    · rcases h.own hl with h2 | h2
      · exact .inl (h1.trans h2)
      · exact .inr (h2.keep k.size fun g hg => by obtain rfl : g = b := hg; exact h1)
    · exact .inr h1⟩
  size h := h.size
theorem bx_below {w0 w w' : World} {b : Nat} {c : List AV} (h : Below w.heap.size w w') : Bx w0 b c w w' := ⟨h.os, h.tape, h.output, h.size, fun g hg _ => h.block g hg, fun hl => .inl (h.block _ hl)⟩
def SFB.pure {Bl : World → World → Prop} (R : Value → Prop) : SFB Bl := ⟨fun v _ => R v, fun _ _ _ _ h => h, fun _ _ => False⟩
theorem cells_lt {w0 w : World} {b : Nat} {c : List AV} (h : (HE.cells b c).ok w0 w) : b < w.heap.size := by
  obtain ⟨cs, T, h1, _⟩ := h
  exact (Array.getElem?_eq_some_iff.1 h1).1
def SFB.cells (w0 : World) (b : Nat) (c : List AV) : SFB (Bx w0 b c) := ⟨fun _ w => (HE.cells b c).ok w0 w, fun _ w w' hb h => by
  rcases hb.own (cells_lt h) with h1 | h1
  · exact h.keep hb.size fun g hg => by obtain rfl : g = b := hg; exact h1
  · exact h1, fun _ _ => False⟩
/-- The box that will be stored into. -/
structure Xok (w0 w1 : World) (b : Nat) (c : List AV) (H : List HE) : Prop where
  ge : w0.heap.size ≤ b
  lt : b < w1.heap.size
  has : ∃ l : List AV, l.length = c.length ∧ (HE.cells b l).ok w0 w1
  free : ∀ e ∈ H, ¬ e.foot b
structure PreX (w0 w1 : World) (s : AS) (a : Act) : Prop where
  size : a.tmps.size = s.nt
  defers : a.defers = []
  env : ∀ t A, look t s.env = some A → A.R w0 (a.tmps.getD t undef)
  heap : HOk w0 w1 s.heap
theorem PreX.sat {w0 w1 w : World} {s : AS} {a : Act} {b : Nat} {c : List AV} (h : PreX w0 w1 s a) (h0 : Below w0.heap.size w0 w1) (hX : Xok w0 w1 b c s.heap) (hw : Bx w0 b c w1 w) : Sat w0 s a w :=
  ⟨h0.trans ⟨hw.os, hw.tape, hw.output, hw.size, fun g hg => hw.block g (Nat.lt_of_lt_of_le hg h0.size) (by have := hX.ge; omega)⟩, h.size, h.defers, h.env, h.heap.keep hw.size fun e he g hg => hw.block g (h.heap.foot e he g hg).2 fun hgb => by
    subst hgb
    exact hX.free e he hg⟩
theorem Xok.now {w0 w1 w : World} {b : Nat} {c : List AV} {H : List HE} (hX : Xok w0 w1 b c H) (hw : Bx w0 b c w1 w) : ∃ l : List AV, l.length = c.length ∧ (HE.cells b l).ok w0 w := by
  rcases hw.own hX.lt with h1 | h1
  · obtain ⟨l, h2, h3⟩ := hX.has
    exact ⟨l, h2, h3.keep hw.size fun g hg => by obtain rfl : g = b := hg; exact h1⟩
  · exact ⟨c, rfl, h1⟩
/-- A store that fills a box of the call's own. -/
structure EvS (P : Program) (s : AS) (o : Oper) (b : Nat) (c : List AV) : Prop where
  out : ∀ w0 a w, Sat w0 s a w → (∃ l : List AV, l.length = c.length ∧ (HE.cells b l).ok w0 w) → ∃ w', (execOp a.eval o).run P w = .ok .skip w' ∧ w'.os = w.os ∧ w'.tape = w.tape ∧ w'.output = w.output ∧ w'.heap.size = w.heap.size ∧ (∀ g, g ≠ b → w'.heap[g]? = w.heap[g]?) ∧ (HE.cells b c).ok w0 w'
theorem evs_store {P : Program} {nt : Nat} {env : List (Nat × AV)} {H : List HE} {t : TypeId} {x y : Operand} {ty : TypeId} {pos : String} {after : Array Edge} {g : Option (Nat × Bool)} {b : Nat} {la : List AV} {A : AV} (hx : Opd ⟨nt, env, H⟩ x (ptr b 0)) (hy : Opd ⟨nt, env, H⟩ y A) (hc : CellsOf A la) (ht : (P.info? t).map (·.size) = some la.length) : EvS P ⟨nt, env, H⟩ ⟨none, .store t x y, ty, pos, after, g⟩ b la := ⟨fun w0 a w hs hl => by
  have hv := hc _ _ (hy w0 a w hs)
  have e : a.eval x = .pointer (some ⟨b, 0, none⟩) := hx w0 a w hs
  obtain ⟨l, hl, cs, T, h1, h2, h3⟩ := hl
  have hlen := h2.length
  have hlen2 := hv.1.length
  have hst := run_storeCells_at (P := P) b 0 T (a.eval y).cells.toList 0 cs w h1 (by rw [hlen2]; simp at hlen ⊢; omega) hv.2
  obtain ⟨ii, hii, his⟩ : ∃ ii, P.info? t = some ii ∧ ii.size = la.length := by
    cases hq : P.info? t with
    | none => rw [hq] at ht; cases ht
    | some ii => rw [hq] at ht; exact ⟨ii, rfl, by simpa using ht⟩
  have hr : (execOp a.eval (⟨none, .store t x y, ty, pos, after, g⟩ : Oper)).run P w = .ok .skip (w.setRow b (cs.toList.take (0 + 0) ++ (a.eval y).cells.toList ++ cs.toList.drop (0 + 0 + (a.eval y).cells.toList.length)).toArray) := by
    have hsz : (a.eval y).cells.size = ii.size := by rw [his, ← hlen2]; simp
    simp only [execOp, e, Instr.storeAt, Instr.sureAddr, storeVar, sizeOf, typeInfo, Sem.run_bind, Sem.run_pure, Result.andThen_ok, run_program, hii, Sem.run_map]
    rw [Sem.run_ite, if_neg (by simpa using hsz)]
    simp only [Sem.run_bind, Sem.run_pure, Result.andThen_ok, hst]
  have hcs : cs.toList.take (0 + 0) ++ (a.eval y).cells.toList ++ cs.toList.drop (0 + 0 + (a.eval y).cells.toList.length) = (a.eval y).cells.toList := by
    rw [List.drop_eq_nil_of_le (by simp at hlen hlen2 ⊢; omega)]
    simp
  rw [hcs] at hr
  refine ⟨_, hr, rfl, rfl, rfl, by simp [World.setRow], fun g hg => ?_, (a.eval y).cells.toList.toArray, T, ?_, by simpa using hv.1, by simpa using hv.2⟩
  · simp only [World.setRow, Array.getElem?_modify]
    rw [if_neg (by omega)]
  · simp [World.setRow, Array.getElem?_modify, h1]⟩

theorem du_ends {P : Program} {ops : Array Oper} : ∀ (l : List Oper) (s : AS) (ns : NS) (K : AS → NS → Prop), DU P ops s ns l K → ∃ s' ns', K s' ns' ∧ ns.es.length ≤ ns'.es.length
  | [], s, ns, K, h => ⟨s, ns, h, Nat.le_refl _⟩
  | o :: l, s, ns, K, h => by
    obtain ⟨_, h⟩ := h
    rcases h with ⟨_, ⟨A, _, h⟩ | ⟨d, m, _, _, h⟩⟩ | ⟨_, h⟩
    · exact du_ends l _ ns.up K h
    · obtain ⟨s', ns', h1, h2⟩ := du_ends l _ _ K h
      exact ⟨s', ns', h1, Nat.le_trans (by simp [NS.add]) h2⟩
    · exact du_ends l _ ns.up K h
theorem du_relS {P : Program} {w0 w1 : World} {ops : Array Oper} {n nt b : Nat} {c : List AV} {H : List HE} {so : Oper} {T : Act → (World → Prop) → Prop} (h0 : Below w0.heap.size w0 w1) (hS : Stat ops (n + 1) nt) (hX : Xok w0 w1 b c H) :
    ∀ (l : List Oper) (s : AS) (ns : NS) (K : AS → NS → Prop), DU P ops s ns l K → ns.es = [] → (∀ s' ns', K s' ns' → ns'.es = []) → s.heap = H → (∀ j, j < l.length → l[j]? = ops[ns.k + j]?) → ns.k + l.length = n → ∀ Rs0 : Nat → SFB (Bx w0 b c),
    ∃ Rs : Nat → SFB (Bx w0 b c), (∀ i, i < ns.k ∨ n ≤ i → Rs i = Rs0 i) ∧ ∀ a F, PreX w0 w1 s a →
    (∀ s' ns' a' F', K s' ns' → s'.heap = H → PreX w0 w1 s' a' → wpRelB2 P .any ops (Bx w0 b c w1) Rs (n + 1) T n [so] a' F') → wpRelB2 P .any ops (Bx w0 b c w1) Rs (n + 1) T ns.k (l ++ [so]) a F
  | [], s, ns, K, h, _, _, hH, _, hk, Rs0 => ⟨Rs0, fun _ _ => rfl, fun a F hp hT => by
    have := hT s ns a F h hH hp
    have e : ns.k = n := by simpa using hk
    rw [e]
    exact this⟩
  | o :: l, s, ns, K, h, he, hKe, hH, hl, hk, Rs0 => by
    obtain ⟨hd, h⟩ := h
    have hl' : ∀ j, j < l.length → l[j]? = ops[ns.k + 1 + j]? := fun j hj => by have := hl (j + 1) (by simp; omega); simpa [Nat.add_assoc, Nat.add_comm 1 j] using this
    have hk' : ns.k + 1 + l.length = n := by simp only [List.length_cons] at hk; omega
    rcases h with ⟨hg, ⟨A, hev, hrest⟩ | ⟨d, m, hdd, hev, hrest⟩⟩ | ⟨hg, hrest⟩
    · have hH' : (s.put o.dst A).heap = H := by cases h : o.dst <;> simp only [AS.put] <;> exact hH
      obtain ⟨Rs, hRs, hgo⟩ := du_relS (P := P) (T := T) (so := so) h0 hS hX l _ _ _ hrest he hKe hH' hl' hk' (fun i => if i = ns.k then SFB.pure (fun v => A.R w0 v) else Rs0 i)
      have hk0 : Rs ns.k = SFB.pure (fun v => A.R w0 v) := by rw [hRs ns.k (.inl (by show _ < ns.k + 1; omega)), if_pos rfl]
      refine ⟨Rs, fun i hi => by rw [hRs i (by show i < ns.k + 1 ∨ _; omega), if_neg (by omega)], fun a F hp hT => ⟨.inl ⟨hg.out w0 a w1 (hp.sat h0 (hH ▸ hX) (bx_ok.refl _)), fun w hw _ => ?_⟩, fun v hv => ?_⟩⟩
      · have := hev.out w0 a w (hp.sat h0 (hH ▸ hX) hw) (fun e hh => by rw [he] at hh; cases hh)
        rw [hk0]
        generalize (execOp a.eval o).run P w = r at this
        cases r with
        | ok n w' =>
          cases n <;> simp only [EvRes] at this <;> simp only [relUponB]
          case value u => exact ⟨bx_ok.trans hw (bx_below this.1), bx_below this.1, this.2, fun g hg => hg.elim⟩
          case skip => exact ⟨bx_ok.trans hw (bx_below this.1), bx_below this.1, this.2, fun g hg => hg.elim⟩
          case enter f args =>
            refine this.2.mono fun e w'' h => ?_
            obtain ⟨v, rfl, hb, hr⟩ := h
            have hb2 := this.1.trans (hb.mono this.1.size)
            exact ⟨v, rfl, bx_ok.trans hw (bx_below hb2), bx_below hb2, hr, fun g hg => hg.elim⟩
        | halt x w' => simp only [EvRes] at this
      · obtain ⟨w, hw, hF, hv⟩ := hv
        rw [hk0] at hv
        have hv : A.R w0 v := hv
        refine hgo _ _ ?_ hT
        have hs := (hp.sat h0 (hH ▸ hX) hw).put (Below.refl _ _) hv hd
        exact ⟨hs.size, hs.defers, hs.env, by cases h : o.dst <;> simp only [AS.put] <;> exact hp.heap⟩
    · obtain ⟨s', ns', h1, h2⟩ := du_ends l _ _ K hrest
      rw [hKe _ _ h1] at h2
      simp [NS.add] at h2
    · have hH' : (s.put o.dst (vv undef)).heap = H := by cases h : o.dst <;> simp only [AS.put] <;> exact hH
      obtain ⟨Rs, hRs, hgo⟩ := du_relS (P := P) (T := T) (so := so) h0 hS hX l _ _ _ hrest he hKe hH' hl' hk' (fun i => if i = ns.k then SFB.pure (fun v => (vv undef).R w0 v) else Rs0 i)
      have hk0 : Rs ns.k = SFB.pure (fun v => (vv undef).R w0 v) := by rw [hRs ns.k (.inl (by show _ < ns.k + 1; omega)), if_pos rfl]
      refine ⟨Rs, fun i hi => by rw [hRs i (by show i < ns.k + 1 ∨ _; omega), if_neg (by omega)], fun a F hp hT => ⟨.inr ⟨hg.out w0 a w1 (hp.sat h0 (hH ▸ hX) (bx_ok.refl _)), fun w => ?_⟩, fun v hv => ?_⟩⟩
      · rw [hk0]
        exact ⟨rfl, fun g h => h⟩
      · obtain ⟨w, hw, hF, hv⟩ := hv
        rw [hk0] at hv
        have hv : (vv undef).R w0 v := hv
        refine hgo _ _ ?_ hT
        have hs := (hp.sat h0 (hH ▸ hX) hw).put (Below.refl _ _) hv hd
        exact ⟨hs.size, hs.defers, hs.env, by cases h : o.dst <;> simp only [AS.put] <;> exact hp.heap⟩

theorem awp_region_drawS {P : Program} {w0 : World} {nt b : Nat} {c l0 : List AV} {env : List (Nat × AV)} {H H' : List HE} {Q : Exit → Act → World → Prop} {id : Nat} {l : List Oper} {so : Oper} (n : Nat) (hm : P.follows .mixedOrders = true) (hB : (Region.lexTailB .any l.toArray (n + 1) && distB nt (l.take (n + 1))) = true) (hso : l[n]? = some so) (hsd : so.dst = none) (hsg : so.guard = none) (ht : HTake H (.cells b l0) H') (hlen : l0.length = c.length)
    (h : DU P l.toArray ⟨nt, env, H'⟩ ⟨0, []⟩ (l.take n) fun s' ns => ns.es = [] ∧ EvS P s' so b c ∧ AOps P w0 l.toArray ⟨s'.nt, s'.env, .cells b c :: s'.heap⟩ (l.drop (n + 1)) Q) : AWp P w0 ⟨nt, env, H⟩ (.region id l.toArray true) Q := by
  rw [Bool.and_eq_true] at hB
  obtain ⟨hB, hD⟩ := hB
  have hS := stat_of hD
  have hn' : n + 1 < l.length := by
    simp only [Region.lexTailB, Bool.and_eq_true, decide_eq_true_eq] at hB
    simpa using hB.1.1.1.2
  refine ⟨fun a w hs => ?_⟩
  have hb1 : Below w0.heap.size w0 (w.drewN 1) := below_drewN hs.below 1
  have hheap1 : HOk w0 (w.drewN 1) H := hs.heap.below (below_drewN (Below.refl _ _) 1)
  obtain ⟨k1, k2, k3⟩ := ht.ok hheap1
  have hX : Xok w0 (w.drewN 1) b c H' := ⟨(k3 b rfl).1, (k3 b rfl).2.1, ⟨l0, hlen, k1⟩, (k3 b rfl).2.2⟩
  obtain ⟨Rs, hRs0, hRs⟩ := du_relS (P := P) (ops := l.toArray) (n := n) (so := so) (T := fun a' F => ∃ s', (s'.heap = H') ∧ PreX w0 (w.drewN 1) s' a' ∧ (∀ w', F w' → (HE.cells b c).ok w0 w') ∧ AOps P w0 l.toArray ⟨s'.nt, s'.env, .cells b c :: s'.heap⟩ (l.drop (n + 1)) Q) hb1 hS hX _ _ _ _ h rfl (fun _ _ k => k.1) rfl
    (fun j hj => by simp at hj; simp [hj]) (by simp; omega) (fun _ => SFB.cells w0 b c)
  have hRn : Rs n = SFB.cells w0 b c := hRs0 n (.inr (Nat.le_refl _))
  refine wp_region_relB2 bx_ok (lo := (w.drewN 1).heap.size) (n + 1) Rs (Bx w0 b c (w.drewN 1)) hm hB (by rw [hs.size]; exact hS) (fun w' hw => hw.size) (bx_ok.refl _) ?_
  have htk : l.take (n + 1) = l.take n ++ [so] := by
    rw [List.take_add_one, hso]
    rfl
  rw [htk]
  have hgo := hRs a (fun _ => True) ⟨hs.size, hs.defers, hs.env, k2⟩ fun s' ns' a' F' hK hH hp => ?_
  · refine wpRelB2_mono (fun a' F' hT w' listed hw hF _ hall => ?_) _ _ _ _ hgo
    obtain ⟨s', hH, hp, hok, hrest⟩ := hT
    have hsat := hp.sat hb1 (hH ▸ hX) hw
    refine hrest.out a' w' ⟨hsat.below, hsat.size, hsat.defers, hsat.env, hsat.heap.cons (hok w' hF) fun g hg => ?_⟩
    obtain rfl : g = b := hg
    exact ⟨hX.ge, Nat.lt_of_lt_of_le hX.lt hw.size, by rw [hH]; exact hX.free⟩
  · obtain ⟨_, hev, hrest⟩ := hK
    refine ⟨.inl ⟨by simp [Region.wanted, hsg], fun w2 hw2 _ => ?_⟩, fun v hv => ?_⟩
    · obtain ⟨w3, hr, e1, e2, e3, e4, e5, e6⟩ := hev.out w0 a' w2 (hp.sat hb1 (hH ▸ hX) hw2) (hX.now hw2)
      rw [hr, hRn]
      have hbx : Bx w0 b c w2 w3 := ⟨e1, e2, e3, by omega, fun g _ hg => e5 g hg, fun _ => .inr e6⟩
      exact ⟨bx_ok.trans hw2 hbx, hbx, e6, fun g hg => hg.elim⟩
    · rw [hsd]
      exact ⟨s', hH, hp, fun w' hF => by have := hF.2; rw [hRn] at this; exact this, hrest⟩
/-- Behind the operations ahead of the store. -/
structure SEnd (P : Program) (w0 : World) (ops : Array Oper) (n : Nat) (l : List Oper) (Q : Exit → Act → World → Prop) (so : Oper) (b : Nat) (c : List AV) (s : AS) (es : List Ent) : Prop where
  nil : es = []
  ev : EvS P s so b c
  k : ADrop P w0 ops ⟨s.nt, s.env, .cells b c :: s.heap⟩ (n + 1) l Q
theorem send_mk {P : Program} {w0 : World} {ops : Array Oper} {n : Nat} {l : List Oper} {Q : Exit → Act → World → Prop} {nt : Nat} {env : List (Nat × AV)} {H : List HE} {t : TypeId} {x y : Operand} {ty : TypeId} {pos : String} {after : Array Edge} {g : Option (Nat × Bool)} {b : Nat} {la : List AV} {A : AV} {es : List Ent} (he : es = []) (hx : Opd ⟨nt, env, H⟩ x (ptr b 0)) (hy : Opd ⟨nt, env, H⟩ y A) (hc : CellsOf A la) (ht : (P.info? t).map (·.size) = some la.length) (k : ADrop P w0 ops ⟨nt, env, .cells b la :: H⟩ (n + 1) l Q) :
    SEnd P w0 ops n l Q ⟨none, .store t x y, ty, pos, after, g⟩ b la ⟨nt, env, H⟩ es := ⟨he, evs_store hx hy hc ht, k⟩
/-- A region whose operation number n fills the box b of the call's own with the cells c, beside others. -/
theorem awp_drawS {P : Program} {w0 : World} {nt b : Nat} {l0 : List AV} {env : List (Nat × AV)} {H H' : List HE} {Q : Exit → Act → World → Prop} {id : Nat} {l : List Oper} {so : Oper} (n : Nat) (c : List AV) (hm : P.follows .mixedOrders = true) (hB : (Region.lexTailB .any l.toArray (n + 1) && distB nt (l.take (n + 1))) = true) (ht : HTake H (.cells b l0) H') (hlen : l0.length = c.length) (hso : l[n]? = some so) (hsd : so.dst = none) (hsg : so.guard = none)
    (h : DWU P l.toArray ⟨nt, env, H'⟩ ⟨0, []⟩ n l fun s' ns => SEnd P w0 l.toArray n l Q so b c s' ns.es) : AWp P w0 ⟨nt, env, H⟩ (.region id l.toArray true) Q :=
  awp_region_drawS n hm hB hso hsd hsg ht hlen (h.out.mono fun s' ns k => ⟨k.nil, k.ev, k.k.out⟩)
end Go.Proofs.Ytokhbfbanofchaa
