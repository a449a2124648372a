/-
  Regions that draw their order: more edges. Conditions: none.
-/
import Derived.Test.YtjkpnnbahhlopaaBB
namespace Go.Proofs.Ytjkpnnbahhlopaa
open Go Go.RowKit

/-- x is a forerunner of q, near or far. -/
def anc (ops : Array Oper) : Nat → Nat → Nat → Bool
  | 0, _, _ => false
  | f + 1, q, x => match ops[q]? with
    | none => false
    | some o => o.after.toList.any fun e => Region.binds .any e && (Nat.beq e.on x || anc ops f e.on x)
/-- Whoever is listed stands behind its forerunners. -/
def Closed (ops : Array Oper) (listed : Array Bool) : Prop := ∀ j o, ops[j]? = some o → listed.getD j false = true → ∀ e ∈ o.after, Region.binds .any e = true → listed.getD e.on false = true
theorem anc_listed {ops : Array Oper} {listed : Array Bool} (hc : Closed ops listed) : ∀ (f q x : Nat) (o : Oper), ops[q]? = some o → (∀ e ∈ o.after, Region.binds .any e = true → listed.getD e.on false = true) → anc ops f q x = true → listed.getD x false = true
  | 0, _, _, _, _, _, h => by cases h
  | f + 1, q, x, o, ho, hl, h => by
    unfold anc at h
    rw [ho] at h
    simp only [List.any_eq_true, Bool.and_eq_true, Bool.or_eq_true] at h
    obtain ⟨e, he, hb, h1 | h1⟩ := h
    · rw [← Nat.eq_of_beq_eq_true h1]
      exact hl e (by simpa using he) hb
    · have h2 := hl e (by simpa using he) hb
      cases ho2 : ops[e.on]? with
      | none => cases f <;> (unfold anc at h1; try rw [ho2] at h1) <;> cases h1
      | some o2 => exact anc_listed hc f e.on x o2 ho2 (fun e' he' hb' => hc e.on o2 ho2 h2 e' he' hb') h1
theorem closed_set {ops : Array Oper} {listed : Array Bool} {i : Nat} (hc : Closed ops listed) (hi : i ∈ Region.ready .any ops listed) : Closed ops (listed.setIfInBounds i true) := fun j o ho hl e he hb => by
  have up : ∀ x, listed.getD x false = true → (listed.setIfInBounds i true).getD x false = true := fun x hx => by
    rw [Array.getD_eq_getD_getElem?] at hx ⊢
    rw [Array.getElem?_setIfInBounds]
    split
    · split
      · rfl
      · rename_i h1 h2
        subst h1
        rw [Array.getElem?_eq_none (by omega)] at hx
        exact hx
    · exact hx
  by_cases hj : listed.getD j false = true
  · exact up _ (hc j o ho hj e he hb)
  · obtain ⟨_, o', ho', hall⟩ := mem_ready.1 hi
    have : j = i := by
      rcases Nat.decEq j i with h | h
      · exfalso
        apply hj
        rw [Array.getD_eq_getD_getElem?] at hl ⊢
        rw [Array.getElem?_setIfInBounds, if_neg (fun h' => h h'.symm)] at hl
        exact hl
      · exact h
    subst this
    obtain rfl : o = o' := by rw [ho] at ho'; exact Option.some.inj ho'
    exact up _ (by have := hall e he hb; simpa using this)
/-- What is looked at of an edge from p to q. -/
def edgeC (p q : Nat) (l : List Oper) : Bool :=
  !(Nat.beq p q) && Region.noSelect l.toArray && (match l[p]?, l[q]? with
    | some op, some oq => (match op.op with
      | .extract _ _ => true
      | .pick .. => true
      | _ => false) && op.guard.isNone && op.dst.isSome &&
      (op.after.toList.all fun e => !Region.binds .any e || anc l.toArray l.length q e.on) &&
      ((List.range l.length).all fun j => Nat.beq j p || (op.after.toList.any fun e => Region.binds .any e && Nat.beq e.on j) || match l[j]? with
        | some oj => (oj.after.toList.any fun e => Region.binds .any e && Nat.beq e.on p) || op.apart l.toArray oj
        | none => true)
    | _, _ => false)

theorem pick_run {P : Program} (ρ : Operand → Value) {o : Oper} {x y z : Operand} (ho : o.op = .pick x y z) : (∃ v, ∀ w, (execOp ρ o).run P w = .ok (.value v) w) ∨ ∃ why, ∀ w, (execOp ρ o).run P w = .halt (.stuck why) w := by
  unfold execOp
  rw [ho]
  dsimp only
  cases ρ x <;> first
    | (right; exact ⟨_, fun w => rfl⟩)
    | skip
  case bool b => left; exact ⟨_, fun w => rfl⟩
theorem pure_run {P : Program} (ρ : Operand → Value) {o : Oper} (h : (∃ x i, o.op = .extract x i) ∨ ∃ x y z, o.op = .pick x y z) : (∃ v, ∀ w, (execOp ρ o).run P w = .ok (.value v) w) ∨ ∃ why, ∀ w, (execOp ρ o).run P w = .halt (.stuck why) w := by
  rcases h with ⟨x, i, h⟩ | ⟨x, y, z, h⟩
  · exact extract_run ρ h
  · exact pick_run ρ h
section
variable {P : Program} {Q : Exit → Act → World → Prop} {l : List Oper} {p q : Nat}
theorem wpAny_edgeC (hE : edgeC p q l = true) (hQ : ∀ c a w, ¬ Q (.panic c) a w) (hO : ¬ LetsOut Q) : ∀ (f : Nat) (listed : Array Bool) (a : Act) (w : World), listed.size = l.length → Closed l.toArray listed → wpAny P .any (addE p q l).toArray Q f listed a w → wpAny P .any l.toArray Q f listed a w := by
  unfold edgeC at hE
  simp only [Bool.and_eq_true] at hE
  obtain ⟨⟨hpq, hsel⟩, hE⟩ := hE
  have hpq : p ≠ q := fun e => by subst e; simp at hpq
  cases hp : l[p]? with
  | none => rw [hp] at hE; simp at hE
  | some op =>
  cases hq : l[q]? with
  | none => rw [hp, hq] at hE; simp at hE
  | some oq =>
  rw [hp, hq] at hE
  simp only [Bool.and_eq_true] at hE
  obtain ⟨⟨⟨⟨hop, hg⟩, hd⟩, haft⟩, hap⟩ := hE
  have hg : op.guard = none := by simpa using hg
  have hop : (∃ x i, op.op = .extract x i) ∨ ∃ x y z, op.op = .pick x y z := by
    cases h : op.op <;> rw [h] at hop <;> first | (exact .inl ⟨_, _, rfl⟩) | (exact .inr ⟨_, _, _, rfl⟩) | cases hop
  have hp' : l.toArray[p]? = some op := by simpa using hp
  have hq' : l.toArray[q]? = some oq := by simpa using hq
  have get' : ∀ j, (addE p q l).toArray[j]? = if j = q then (l.toArray[j]?).map (withE p) else l.toArray[j]? := fun j => by simp [addE_get]
  have hpl : p < l.length := by
    rcases Nat.lt_or_ge p l.length with h | h
    · exact h
    · rw [List.getElem?_eq_none h] at hp; cases hp
  -- who is ready there is ready here
  have sub : ∀ listed j, j ∈ Region.ready .any (addE p q l).toArray listed → j ∈ Region.ready .any l.toArray listed := fun listed j hj => by
    obtain ⟨h0, o, ho, hall⟩ := mem_ready.1 hj
    rw [get'] at ho
    by_cases hjq : j = q
    · rw [if_pos hjq] at ho
      cases h : l.toArray[j]? with
      | none => rw [h] at ho; cases ho
      | some o0 =>
        rw [h] at ho
        obtain rfl : withE p o0 = o := by simpa using ho
        exact mem_ready.2 ⟨h0, o0, h, fun e he hb => hall e (by simp [withE, he]) hb⟩
    · rw [if_neg hjq] at ho
      exact mem_ready.2 ⟨h0, o, ho, hall⟩
  have sup : ∀ listed j, j ∈ Region.ready .any l.toArray listed → (j = q → listed.getD p false = true) → j ∈ Region.ready .any (addE p q l).toArray listed := fun listed j hj hl => by
    obtain ⟨h0, o, ho, hall⟩ := mem_ready.1 hj
    by_cases hjq : j = q
    · refine mem_ready.2 ⟨h0, withE p o, by rw [get', if_pos hjq, ho]; rfl, fun e he hb => ?_⟩
      simp only [withE, Array.mem_push] at he
      rcases he with he | rfl
      · exact hall e he hb
      · exact hl hjq
    · exact mem_ready.2 ⟨h0, o, by rw [get', if_neg hjq, ho], hall⟩
  -- where q is ready, p is
  have hpr : ∀ listed, Closed l.toArray listed → q ∈ Region.ready .any l.toArray listed → listed.getD p false = false → p < listed.size → p ∈ Region.ready .any l.toArray listed := fun listed hcl hqr hun hlt => by
    obtain ⟨h0, o, ho, hall⟩ := mem_ready.1 hqr
    obtain rfl : oq = o := by rw [hq'] at ho; exact Option.some.inj ho
    refine mem_ready.2 ⟨getD_in hlt hun, op, hp', fun e he hb => ?_⟩
    rw [List.all_eq_true] at haft
    have := haft e (by simpa using he)
    rw [hb] at this
    simp only [Bool.not_true, Bool.false_or] at this
    have := anc_listed hcl _ _ _ _ hq' hall this
    exact this
  have hfree : ∀ (listed : Array Bool), p ∈ Region.ready .any l.toArray listed → ∀ j oj, l.toArray[j]? = some oj → j ≠ p → listed.getD j true = false → (∀ e ∈ oj.after, Region.binds .any e = true → e.on ≠ p) → op.apart l.toArray oj = true := fun listed hpr' j oj hj hjp hun hno => by
    rw [List.all_eq_true] at hap
    have hj' : l[j]? = some oj := by simpa using hj
    have hlt : j < l.length := by
      rcases Nat.lt_or_ge j l.length with h | h
      · exact h
      · rw [List.getElem?_eq_none h] at hj'; cases hj'
    have := hap j (List.mem_range.2 hlt)
    rw [hj'] at this
    simp only [Bool.or_eq_true, List.any_eq_true, Bool.and_eq_true] at this
    rcases this with (h | ⟨e, he, hb, hon⟩) | ⟨e, he, hb, hon⟩ | h
    · exact absurd (Nat.eq_of_beq_eq_true h) hjp
    · obtain ⟨_, o, ho, hall⟩ := mem_ready.1 hpr'
      obtain rfl : op = o := by rw [hp'] at ho; exact Option.some.inj ho
      have := hall e (by simpa using he) hb
      rw [Nat.eq_of_beq_eq_true hon, getD_both hun] at this
      cases this
    · exact absurd (Nat.eq_of_beq_eq_true hon) (hno e (by simpa using he) hb)
    · exact h
  intro f
  induction f with
  | zero =>
    intro listed a w hsz hcl h
    refine ⟨?_, h.2⟩
    rw [List.eq_nil_iff_forall_not_mem]
    intro j hj
    have hn := h.1
    by_cases hc : j = q ∧ listed.getD p false = false
    · obtain ⟨rfl, hun⟩ := hc
      have := sup listed p (hpr listed hcl hj hun (by rw [hsz]; exact hpl)) (fun e => absurd e hpq)
      rw [hn] at this
      cases this
    · have := sup listed j hj (fun e => by
        cases hx : listed.getD p false with
        | true => rfl
        | false => exact absurd ⟨e, hx⟩ hc)
      rw [hn] at this
      cases this
  | succ f ih =>
    intro listed a w hsz hcl h
    by_cases hc : q ∈ Region.ready .any l.toArray listed ∧ listed.getD p false = false ∧ p < listed.size
    · obtain ⟨hqr, hun, hlt⟩ := hc
      have hr := hpr listed hcl hqr hun hlt
      have h1 := h.2 p (sup listed p hr fun e => absurd e hpq)
      rw [wpOp_edge] at h1
      unfold wpOp at h1
      simp only [hp', Region.wanted, hg, if_true] at h1
      have h1 : op.wp P a w (wpAny P .any (addE p q l).toArray Q f (listed.setIfInBounds p true)) Q := by
        rcases h1 with h1 | h1
        · exact h1
        · exact absurd h1.2 hO
      unfold Oper.wp at h1
      rcases pure_run (P := P) a.eval hop with ⟨v, hv⟩ | ⟨why, hv⟩
      · rw [hv w] at h1
        exact wpAny_first hp' (Region.noSelect_spec hsel) (fun c a w hh => absurd hh (hQ c _ w)) f listed a w (hfree listed hr) hr (.inl ⟨by simp [Region.wanted, hg], hv⟩) (ih _ _ _ (by simpa using hsz) (closed_set hcl hr) h1)
      · rw [hv w] at h1
        exact h1.elim
    · refine ⟨fun h0 => h.1 ?_, fun i hi => ?_⟩
      · rw [List.eq_nil_iff_forall_not_mem]
        intro j hj
        have := sub listed j hj
        rw [h0] at this
        cases this
      · have h1 := h.2 i (sup listed i hi fun e => by
          cases hx : listed.getD p false with
          | true => rfl
          | false =>
            subst e
            refine absurd ⟨hi, hx, ?_⟩ hc
            rw [hsz]; exact hpl)
        rw [wpOp_edge] at h1
        exact wpOp_mono (fun a w hh => ih _ _ _ (by simpa using hsz) (closed_set hcl hi) hh) h1
end
def edgesC (n : Nat) : List (Nat × Nat) → List Oper → Bool
  | [], _ => true
  | (p, q) :: r, l => Nat.ble n q && edgeC p q l && edgesC n r (addE p q l)
theorem closed_none {ops : Array Oper} {n : Nat} : Closed ops (Array.replicate n false) := fun j o _ h => by rw [getD_replicate_false] at h; cases h
section
variable {P : Program} {Q : Exit → Act → World → Prop}
end
theorem wp_region_rel4 {P : Program} {lo : Nat} {id : Nat} {Q : Exit → Act → World → Prop} {a : Act} {w : World} {l0 l : List Oper} (n : Nat) (Rs : Nat → SF) (C : World → Prop) (hm : P.follows .mixedOrders = true) (hB : Region.lexTailB .any l.toArray n = true)
    (hS : Stat l.toArray n a.tmps.size) (hlo : ∀ w, C w → lo ≤ w.heap.size) (hC : C (w.drewN 1)) (hsz : l.length = l0.length) (hl : ∀ (f : Nat) (a : Act) (w : World), wpAny P .any l.toArray Q f (Array.replicate l0.length false) a w → wpAny P .any l0.toArray Q f (Array.replicate l0.length false) a w)
    (h : wpRel2 P .any l.toArray C Rs n (fun a' F => ∀ w' listed, C w' → F w' → Feet l.toArray Rs n lo listed a' w' → (∀ j, j < n → listed.getD j false = true) → wpList P l.toArray Q (l.drop n) a' w') 0 (l.take n) a (fun _ => True)) : (Code.region id l0.toArray true).wp P Q a w := by
  simp only [Region.lexTailB, Bool.and_eq_true, decide_eq_true_eq] at hB
  obtain ⟨⟨⟨⟨hsel, hn⟩, hs⟩, hc⟩, hlex⟩ := hB
  have hn' : n < l.length := by simpa using hn
  have htl : (l.take n).length = n := by simp; omega
  have hdl : (l.drop n).length = l.toArray.size - n := by simp
  have inv0 : HeadInv .any l.toArray n (Array.replicate l.toArray.size false) :=
    ⟨by simp, fun j oj _ hl => (by rw [getD_replicate_false] at hl; cases hl), fun t _ ht => getD_in (by simpa using ht) (getD_replicate_false _ _)⟩
  have hno : ∀ w, Known l.toArray Rs n (Array.replicate l.toArray.size false) a w := fun w j d _ _ hl => by rw [getD_replicate_false] at hl; cases hl
  have h1 := wpAnyR2_lex (P := P) (C := C) (Rs := Rs) (md := .any) (g := l.toArray.size - n) hS hsel hs hc hn (l.take n) 0 (Array.replicate l.toArray.size false) a (fun _ => True)
    (fun j hj => by rw [htl] at hj; simp [hj]) (by rw [htl]; omega) inv0 (fun j hj => absurd hj (by omega)) (fun _ _ _ h => h) ⟨_, hC, trivial⟩ rfl (fun w _ => hno w) (by rw [htl]; exact hlex) h
  rw [htl] at h1
  refine wp_region_any hm ?_
  have h2 := wpAny_of_rel2 (Q' := Q) (g := l.toArray.size - n) (lo := lo) hS hlo (fun listed a' F' w' hw hF hft hL => ?_) n _ a _ (w.drewN 1) hC trivial (fun _ _ _ h => h) rfl (fun w _ => hno w)
    ⟨fun j d _ _ hl => (by rw [getD_replicate_false] at hl; cases hl), fun j k d e _ _ _ _ _ hl => (by rw [getD_replicate_false] at hl; cases hl)⟩ h1
  · rw [show n + (l.toArray.size - n) = l.toArray.size by omega] at h2
    rw [show l.toArray.size = l0.toArray.size by simp [hsz]] at h2
    exact hl _ _ _ h2
  · have := wpAny_of_seq (P := P) (md := .any) (ops := l.toArray) (Q' := Q) (l.drop n) n listed a' w' (fun j => by simp [List.getElem?_drop]) (by rw [hdl]; exact hL.1.1) (hL.2 w' listed hw hF hft hL.1.2)
    rwa [hdl] at this

end Go.Proofs.Ytjkpnnbahhlopaa
