/-
  Regions that draw their order: more edges. Conditions: none.
-/
import Derived.Test.YtokhbfbanofchaaBB
namespace Go.Proofs.Ytokhbfbanofchaa
open Go Go.RowKit

/-- x is a forerunner of q, near or far. -/
def anc (ops : Array Oper) : Nat → Nat → Nat → Bool
  | 0, _, _ => false
  | f + 1, q, x => match ops[q]? with
    | none => false
    | some o => o.after.toList.any fun e => Region.binds .any e && (Nat.beq e.on x || anc ops f e.on x)
/-- Whoever is listed stands behind its forerunners. -/
def Closed (ops : Array Oper) (listed : Array Bool) : Prop := ∀ j o, ops[j]? = some o → listed.getD j false = true → ∀ e ∈ o.after, Region.binds .any e = true → listed.getD e.on false = true
theorem anc_listed {ops : Array Oper} {listed : Array Bool} (hc : Closed ops listed) : ∀ (f q x : Nat) (o : Oper), ops[q]? = some o → (∀ e ∈ o.after, Region.binds .any e = true → listed.getD e.on false = true) → anc ops f q x = true → listed.getD x false = true
  | 0, _, _, _, _, _, h => by cases h
  | f + 1, q, x, o, ho, hl, h => by
    unfold anc at h
    rw [ho] at h
    simp only [List.any_eq_true, Bool.and_eq_true, Bool.or_eq_true] at h
    obtain ⟨e, he, hb, h1 | h1⟩ := h
    · rw [← Nat.eq_of_beq_eq_true h1]
      exact hl e (by simpa using he) hb
    · have h2 := hl e (by simpa using he) hb
      cases ho2 : ops[e.on]? with
      | none => cases f <;> (unfold anc at h1; try rw [ho2] at h1) <;> cases h1
      | some o2 => exact anc_listed hc f e.on x o2 ho2 (fun e' he' hb' => hc e.on o2 ho2 h2 e' he' hb') h1
theorem closed_set {ops : Array Oper} {listed : Array Bool} {i : Nat} (hc : Closed ops listed) (hi : i ∈ Region.ready .any ops listed) : Closed ops (listed.setIfInBounds i true) := fun j o ho hl e he hb => by
  have up : ∀ x, listed.getD x false = true → (listed.setIfInBounds i true).getD x false = true := fun x hx => by
    rw [Array.getD_eq_getD_getElem?] at hx ⊢
    rw [Array.getElem?_setIfInBounds]
    split
    · split
      · rfl
      · rename_i h1 h2
        subst h1
        rw [Array.getElem?_eq_none (by omega)] at hx
        exact hx
    · exact hx
  by_cases hj : listed.getD j false = true
  · exact up _ (hc j o ho hj e he hb)
  · obtain ⟨_, o', ho', hall⟩ := mem_ready.1 hi
    have : j = i := by
      rcases Nat.decEq j i with h | h
      · exfalso
        apply hj
        rw [Array.getD_eq_getD_getElem?] at hl ⊢
        rw [Array.getElem?_setIfInBounds, if_neg (fun h' => h h'.symm)] at hl
        exact hl
      · exact h
    subst this
    obtain rfl : o = o' := by rw [ho] at ho'; exact Option.some.inj ho'
    exact up _ (by have := hall e he hb; simpa using this)
/-- What is looked at of an edge from p to q. -/
def edgeC (p q : Nat) (l : List Oper) : Bool :=
  !(Nat.beq p q) && Region.noSelect l.toArray && (match l[p]?, l[q]? with
    | some op, some oq => (match op.op with
      | .extract _ _ => true
      | .pick .. => true
      | _ => false) && op.guard.isNone && op.dst.isSome &&
      (op.after.toList.all fun e => !Region.binds .any e || anc l.toArray l.length q e.on) &&
      ((List.range l.length).all fun j => Nat.beq j p || (op.after.toList.any fun e => Region.binds .any e && Nat.beq e.on j) || match l[j]? with
        | some oj => (oj.after.toList.any fun e => Region.binds .any e && Nat.beq e.on p) || op.apart l.toArray oj
        | none => true)
    | _, _ => false)

theorem pick_run {P : Program} (ρ : Operand → Value) {o : Oper} {x y z : Operand} (ho : o.op = .pick x y z) : (∃ v, ∀ w, (execOp ρ o).run P w = .ok (.value v) w) ∨ ∃ why, ∀ w, (execOp ρ o).run P w = .halt (.stuck why) w := by
  unfold execOp
  rw [ho]
  dsimp only
  cases ρ x <;> first
    | (right; exact ⟨_, fun w => rfl⟩)
    | skip
  case bool b => left; exact ⟨_, fun w => rfl⟩
theorem pure_run {P : Program} (ρ : Operand → Value) {o : Oper} (h : (∃ x i, o.op = .extract x i) ∨ ∃ x y z, o.op = .pick x y z) : (∃ v, ∀ w, (execOp ρ o).run P w = .ok (.value v) w) ∨ ∃ why, ∀ w, (execOp ρ o).run P w = .halt (.stuck why) w := by
  rcases h with ⟨x, i, h⟩ | ⟨x, y, z, h⟩
  · exact extract_run ρ h
  · exact pick_run ρ h
section
variable {P : Program} {Q : Exit → Act → World → Prop} {l : List Oper} {p q : Nat}
theorem wpAny_edgeC (hE : edgeC p q l = true) (hQ : ∀ c a w, ¬ Q (.panic c) a w) (hO : ¬ LetsOut Q) : ∀ (f : Nat) (listed : Array Bool) (a : Act) (w : World), listed.size = l.length → Closed l.toArray listed → wpAny P .any (addE p q l).toArray Q f listed a w → wpAny P .any l.toArray Q f listed a w := by
  unfold edgeC at hE
  simp only [Bool.and_eq_true] at hE
  obtain ⟨⟨hpq, hsel⟩, hE⟩ := hE
  have hpq : p ≠ q := fun e => by subst e; simp at hpq
  cases hp : l[p]? with
  | none => rw [hp] at hE; simp at hE
  | some op =>
  cases hq : l[q]? with
  | none => rw [hp, hq] at hE; simp at hE
  | some oq =>
  rw [hp, hq] at hE
  simp only [Bool.and_eq_true] at hE
  obtain ⟨⟨⟨⟨hop, hg⟩, hd⟩, haft⟩, hap⟩ := hE
  have hg : op.guard = none := by simpa using hg
  have hop : (∃ x i, op.op = .extract x i) ∨ ∃ x y z, op.op = .pick x y z := by
    cases h : op.op <;> rw [h] at hop <;> first | (exact .inl ⟨_, _, rfl⟩) | (exact .inr ⟨_, _, _, rfl⟩) | cases hop
  have hp' : l.toArray[p]? = some op := by simpa using hp
  have hq' : l.toArray[q]? = some oq := by simpa using hq
  have get' : ∀ j, (addE p q l).toArray[j]? = if j = q then (l.toArray[j]?).map (withE p) else l.toArray[j]? := fun j => by simp [addE_get]
  have hpl : p < l.length := by
    rcases Nat.lt_or_ge p l.length with h | h
    · exact h
    · rw [List.getElem?_eq_none h] at hp; cases hp
  -- who is ready there is ready here
  have sub : ∀ listed j, j ∈ Region.ready .any (addE p q l).toArray listed → j ∈ Region.ready .any l.toArray listed := fun listed j hj => by
    obtain ⟨h0, o, ho, hall⟩ := mem_ready.1 hj
    rw [get'] at ho
    by_cases hjq : j = q
    · rw [if_pos hjq] at ho
      cases h : l.toArray[j]? with
      | none => rw [h] at ho; cases ho
      | some o0 =>
        rw [h] at ho
        obtain rfl : withE p o0 = o := by simpa using ho
        exact mem_ready.2 ⟨h0, o0, h, fun e he hb => hall e (by simp [withE, he]) hb⟩
    · rw [if_neg hjq] at ho
      exact mem_ready.2 ⟨h0, o, ho, hall⟩
  have sup : ∀ listed j, j ∈ Region.ready .any l.toArray listed → (j = q → listed.getD p false = true) → j ∈ Region.ready .any (addE p q l).toArray listed := fun listed j hj hl => by
    obtain ⟨h0, o, ho, hall⟩ := mem_ready.1 hj
    by_cases hjq : j = q
    · refine mem_ready.2 ⟨h0, withE p o, by rw [get', if_pos hjq, ho]; rfl, fun e he hb => ?_⟩
      simp only [withE, Array.mem_push] at he
      rcases he with he | rfl
      · exact hall e he hb
      · exact hl hjq
    · exact mem_ready.2 ⟨h0, o, by rw [get', if_neg hjq, ho], hall⟩
  -- where q is ready, p is
  have hpr : ∀ listed, Closed l.toArray listed → q ∈ Region.ready .any l.toArray listed → listed.getD p false = false → p < listed.size → p ∈ Region.ready .any l.toArray listed := fun listed hcl hqr hun hlt => by
    obtain ⟨h0, o, ho, hall⟩ := mem_ready.1 hqr
    obtain rfl : oq = o := by rw [hq'] at ho; exact Option.some.inj ho
    refine mem_ready.2 ⟨getD_in hlt hun, op, hp', fun e he hb => ?_⟩
    rw [List.all_eq_true] at haft
    have := haft e (by simpa using he)
    rw [hb] at this
    simp only [Bool.not_true, Bool.false_or] at this
    have := anc_listed hcl _ _ _ _ hq' hall this
    exact this
  have hfree : ∀ (listed : Array Bool), p ∈ Region.ready .any l.toArray listed → ∀ j oj, l.toArray[j]? = some oj → j ≠ p → listed.getD j true = false → (∀ e ∈ oj.after, Region.binds .any e = true → e.on ≠ p) → op.apart l.toArray oj = true := fun listed hpr' j oj hj hjp hun hno => by
    rw [List.all_eq_true] at hap
    have hj' : l[j]? = some oj := by simpa using hj
    have hlt : j < l.length := by
      rcases Nat.lt_or_ge j l.length with h | h
      · exact h
      · rw [List.getElem?_eq_none h] at hj'; cases hj'
    have := hap j (List.mem_range.2 hlt)
    rw [hj'] at this
    simp only [Bool.or_eq_true, List.any_eq_true, Bool.and_eq_true] at this
    rcases this with (h | ⟨e, he, hb, hon⟩) | ⟨e, he, hb, hon⟩ | h
    · exact absurd (Nat.eq_of_beq_eq_true h) hjp
    · obtain ⟨_, o, ho, hall⟩ := mem_ready.1 hpr'
      obtain rfl : op = o := by rw [hp'] at ho; exact Option.some.inj ho
      have := hall e (by simpa using he) hb
      rw [Nat.eq_of_beq_eq_true hon, getD_both hun] at this
      cases this
    · exact absurd (Nat.eq_of_beq_eq_true hon) (hno e (by simpa using he) hb)
    · exact h
  intro f
  induction f with
  | zero =>
    intro listed a w hsz hcl h
    refine ⟨?_, h.2⟩
    rw [List.eq_nil_iff_forall_not_mem]
    intro j hj
    have hn := h.1
    by_cases hc : j = q ∧ listed.getD p false = false
    · obtain ⟨rfl, hun⟩ := hc
      have := sup listed p (hpr listed hcl hj hun (by rw [hsz]; exact hpl)) (fun e => absurd e hpq)
      rw [hn] at this
      cases this
    · have := sup listed j hj (fun e => by
        cases hx : listed.getD p false with
        | true => rfl
        | false => exact absurd ⟨e, hx⟩ hc)
      rw [hn] at this
      cases this
  | succ f ih =>
    intro listed a w hsz hcl h
    by_cases hc : q ∈ Region.ready .any l.toArray listed ∧ listed.getD p false = false ∧ p < listed.size
    · obtain ⟨hqr, hun, hlt⟩ := hc
      have hr := hpr listed hcl hqr hun hlt
      have h1 := h.2 p (sup listed p hr fun e => absurd e hpq)
      rw [wpOp_edge] at h1
      unfold wpOp at h1
      simp only [hp', Region.wanted, hg, if_true] at h1
      have h1 : op.wp P a w (wpAny P .any (addE p q l).toArray Q f (listed.setIfInBounds p true)) Q := by
        rcases h1 with h1 | h1
        · exact h1
        · exact absurd h1.2 hO
      unfold Oper.wp at h1
      rcases pure_run (P := P) a.eval hop with ⟨v, hv⟩ | ⟨why, hv⟩
      · rw [hv w] at h1
        exact wpAny_first hp' (Region.noSelect_spec hsel) (fun c a w hh => absurd hh (hQ c _ w)) f listed a w (hfree listed hr) hr (.inl ⟨by simp [Region.wanted, hg], hv⟩) (ih _ _ _ (by simpa using hsz) (closed_set hcl hr) h1)
      · rw [hv w] at h1
        exact h1.elim
    · refine ⟨fun h0 => h.1 ?_, fun i hi => ?_⟩
      · rw [List.eq_nil_iff_forall_not_mem]
        intro j hj
        have := sub listed j hj
        rw [h0] at this
        cases this
      · have h1 := h.2 i (sup listed i hi fun e => by
          cases hx : listed.getD p false with
          | true => rfl
          | false =>
            subst e
            refine absurd ⟨hi, hx, ?_⟩ hc
            rw [hsz]; exact hpl)
        rw [wpOp_edge] at h1
        exact wpOp_mono (fun a w hh => ih _ _ _ (by simpa using hsz) (closed_set hcl hi) hh) h1
end
def edgesC (n : Nat) : List (Nat × Nat) → List Oper → Bool
  | [], _ => true
  | (p, q) :: r, l => Nat.ble n q && edgeC p q l && edgesC n r (addE p q l)
theorem closed_none {ops : Array Oper} {n : Nat} : Closed ops (Array.replicate n false) := fun j o _ h => by rw [getD_replicate_false] at h; cases h
theorem wpAny_edgesC {P : Program} {Q : Exit → Act → World → Prop} {n : Nat} (hQ : ∀ c a w, ¬ Q (.panic c) a w) (hO : ¬ LetsOut Q) : ∀ (ps : List (Nat × Nat)) (l : List Oper), edgesC n ps l = true → ∀ (f : Nat) (a : Act) (w : World), wpAny P .any (addEs ps l).toArray Q f (Array.replicate l.length false) a w → wpAny P .any l.toArray Q f (Array.replicate l.length false) a w
  | [], _, _, _, _, _, h => h
  | (p, q) :: r, l, hE, f, a, w, h => by
    simp only [edgesC, Bool.and_eq_true] at hE
    refine wpAny_edgeC hE.1.2 hQ hO f _ a w (by simp) closed_none ?_
    have := wpAny_edgesC (P := P) hQ hO r (addE p q l) hE.2 f a w
    rw [addE_length] at this
    exact this h
theorem addEs_takeC {n : Nat} : ∀ (ps : List (Nat × Nat)) (l : List Oper), edgesC n ps l = true → (addEs ps l).take n = l.take n
  | [], _, _ => rfl
  | (p, q) :: r, l, hE => by
    simp only [edgesC, Bool.and_eq_true] at hE
    rw [addEs, addEs_takeC r _ hE.2, addE_take p n q l (Nat.le_of_ble_eq_true hE.1.1)]
section
variable {P : Program} {Q : Exit → Act → World → Prop}
theorem wpList_edgesC {n : Nat} : ∀ (ps : List (Nat × Nat)) (l : List Oper), edgesC n ps l = true → ∀ (a : Act) (w : World), wpList P l.toArray Q (l.drop n) a w → wpList P (addEs ps l).toArray Q ((addEs ps l).drop n) a w
  | [], _, _, _, _, h => h
  | (p, q) :: r, l, hE, a, w, h => by
    simp only [edgesC, Bool.and_eq_true] at hE
    refine wpList_edgesC r (addE p q l) hE.2 a w (wpList_edge _ _ (fun j => ?_) a w h)
    simp only [List.getElem?_drop, addE_get]
    by_cases hj : n + j = q
    · rw [if_pos hj]; exact .inr rfl
    · rw [if_neg hj]; exact .inl rfl
end
theorem wp_region_rel4 {P : Program} {lo : Nat} {id : Nat} {Q : Exit → Act → World → Prop} {a : Act} {w : World} {l0 l : List Oper} (n : Nat) (Rs : Nat → SF) (C : World → Prop) (hm : P.follows .mixedOrders = true) (hB : Region.lexTailB .any l.toArray n = true)
    (hS : Stat l.toArray n a.tmps.size) (hlo : ∀ w, C w → lo ≤ w.heap.size) (hC : C (w.drewN 1)) (hsz : l.length = l0.length) (hl : ∀ (f : Nat) (a : Act) (w : World), wpAny P .any l.toArray Q f (Array.replicate l0.length false) a w → wpAny P .any l0.toArray Q f (Array.replicate l0.length false) a w)
    (h : wpRel2 P .any l.toArray C Rs n (fun a' F => ∀ w' listed, C w' → F w' → Feet l.toArray Rs n lo listed a' w' → (∀ j, j < n → listed.getD j false = true) → wpList P l.toArray Q (l.drop n) a' w') 0 (l.take n) a (fun _ => True)) : (Code.region id l0.toArray true).wp P Q a w := by
  simp only [Region.lexTailB, Bool.and_eq_true, decide_eq_true_eq] at hB
  obtain ⟨⟨⟨⟨hsel, hn⟩, hs⟩, hc⟩, hlex⟩ := hB
  have hn' : n < l.length := by simpa using hn
  have htl : (l.take n).length = n := by simp; omega
  have hdl : (l.drop n).length = l.toArray.size - n := by simp
  have inv0 : HeadInv .any l.toArray n (Array.replicate l.toArray.size false) :=
    ⟨by simp, fun j oj _ hl => (by rw [getD_replicate_false] at hl; cases hl), fun t _ ht => getD_in (by simpa using ht) (getD_replicate_false _ _)⟩
  have hno : ∀ w, Known l.toArray Rs n (Array.replicate l.toArray.size false) a w := fun w j d _ _ hl => by rw [getD_replicate_false] at hl; cases hl
  have h1 := wpAnyR2_lex (P := P) (C := C) (Rs := Rs) (md := .any) (g := l.toArray.size - n) hS hsel hs hc hn (l.take n) 0 (Array.replicate l.toArray.size false) a (fun _ => True)
    (fun j hj => by rw [htl] at hj; simp [hj]) (by rw [htl]; omega) inv0 (fun j hj => absurd hj (by omega)) (fun _ _ _ h => h) ⟨_, hC, trivial⟩ rfl (fun w _ => hno w) (by rw [htl]; exact hlex) h
  rw [htl] at h1
  refine wp_region_any hm ?_
  have h2 := wpAny_of_rel2 (Q' := Q) (g := l.toArray.size - n) (lo := lo) hS hlo (fun listed a' F' w' hw hF hft hL => ?_) n _ a _ (w.drewN 1) hC trivial (fun _ _ _ h => h) rfl (fun w _ => hno w)
    ⟨fun j d _ _ hl => (by rw [getD_replicate_false] at hl; cases hl), fun j k d e _ _ _ _ _ hl => (by rw [getD_replicate_false] at hl; cases hl)⟩ h1
  · rw [show n + (l.toArray.size - n) = l.toArray.size by omega] at h2
    rw [show l.toArray.size = l0.toArray.size by simp [hsz]] at h2
    exact hl _ _ _ h2
  · have := wpAny_of_seq (P := P) (md := .any) (ops := l.toArray) (Q' := Q) (l.drop n) n listed a' w' (fun j => by simp [List.getElem?_drop]) (by rw [hdl]; exact hL.1.1) (hL.2 w' listed hw hF hft hL.1.2)
    rwa [hdl] at this

theorem awp_region_drawF {P : Program} {w0 : World} {s : AS} {Q : Exit → Act → World → Prop} {id : Nat} {l : List Oper} (n : Nat) (ps : List (Nat × Nat)) (hm : P.follows .mixedOrders = true) (hB : (Region.lexTailB .any (addEs ps l).toArray n && distB s.nt (l.take n) && edgesC n ps l) = true)
    (h : DU P (addEs ps l).toArray s ⟨0, []⟩ (l.take n) fun s' ns => FinU (fun s'' => AOps P w0 l.toArray s'' (l.drop n) (NoP Q)) s' ns.es) : AWp P w0 s (.region id l.toArray true) Q := by
  simp only [Bool.and_eq_true] at hB
  obtain ⟨⟨hB, hD⟩, hE⟩ := hB
  have htk := addEs_takeC ps l hE
  have hS : Stat (addEs ps l).toArray n s.nt := stat_of (by rw [htk]; exact hD)
  have hn' : n < l.length := by
    simp only [Region.lexTailB, Bool.and_eq_true, decide_eq_true_eq] at hB
    have := hB.1.1.1.2
    simpa [addEs_length] using this
  rw [← htk] at h
  have hlen : (addEs ps l).length = l.length := addEs_length ps l
  refine ⟨fun a w hs => ?_⟩
  have hb1 : Below w0.heap.size w0 (w.drewN 1) := below_drewN hs.below 1
  obtain ⟨Rs, _, hRs⟩ := du_rel (P := P) (ops := (addEs ps l).toArray) (n := n) (T := fun Rs a' F => ∀ w' listed, CB (w.drewN 1) w' → F w' → Feet (addEs ps l).toArray Rs n (w.drewN 1).heap.size listed a' w' → (∀ j, j < n → listed.getD j false = true) → wpList P (addEs ps l).toArray (NoP Q) ((addEs ps l).drop n) a' w') hb1 hS _ _ _ _ h
    (fun j hj => by simp at hj; simp [hj]) (by simp [hlen]; omega) (fun _ => SF.pure fun _ => True)
  refine Code.wp_mono (Q := NoP Q) (fun e a w q => q.2) ?_
  refine wp_region_rel4 (lo := (w.drewN 1).heap.size) (l := addEs ps l) n Rs (CB (w.drewN 1)) hm hB (by rw [hs.size]; exact hS) (fun w' hw => Below.size hw) (Below.refl _ _) hlen (wpAny_edgesC (fun c a w q => by cases q.1) (fun ⟨a, w, q⟩ => by cases q.1) ps l hE) (hRs a _ ⟨hs.size, hs.defers, hs.env, hs.heap.below (below_drewN (Below.refl _ _) 1), (fun e he => by cases he), (by simp)⟩ fun s' ns a' F hK hnk hp w' listed hw hF hft hall => ?_)
  have hsat := hp.sat hb1 hw
  have hfin := finU_sat ns.es s' hK hsat (fun e he => (hp.ents e he).2.2.2 w' hF) (fun e he g hg => by
    obtain ⟨h1, h2, h3, h4⟩ := hp.ents e he
    have hg' : (Rs e.j).ft (a'.tmps.getD e.d undef) g := by rw [h3]; exact hg
    obtain ⟨q1, q2⟩ := hft.lt e.j e.d (by omega) h1 (hall _ (by omega)) g hg'
    exact ⟨Nat.le_trans hb1.size q1, q2, fun x hx hxf => absurd (hp.heap.foot x hx g hxf).2 (by omega)⟩) (by
    have hnd := hp.nodup
    rw [List.nodup_iff_pairwise_ne, List.pairwise_map] at hnd
    refine hnd.imp_of_mem fun {e e'} he he' hne g hg hg' => ?_
    obtain ⟨h1, h2, h3, h4⟩ := hp.ents e he
    obtain ⟨h1', h2', h3', h4'⟩ := hp.ents e' he'
    exact hft.ap e.j e'.j e.d e'.d (by omega) (by omega) hne h1 h1' (hall _ (by omega)) (hall _ (by omega)) g (by rw [h3]; exact hg) (by rw [h3']; exact hg'))
  obtain ⟨s2, hK2, hs2⟩ := hfin
  exact wpList_edgesC ps l hE a' w' (hK2.out a' w' hs2)

theorem awp_drawF {P : Program} {w0 : World} {s : AS} {Q : Exit → Act → World → Prop} {id : Nat} {l : List Oper} (n : Nat) (ps : List (Nat × Nat)) (hm : P.follows .mixedOrders = true) (hB : (Region.lexTailB .any (addEs ps l).toArray n && distB s.nt (l.take n) && edgesC n ps l) = true)
    (h : DWU P (addEs ps l).toArray s ⟨0, []⟩ n l fun s' ns => FinV (fun s'' => ADrop P w0 l.toArray s'' n l (NoP Q)) s' ns.es) : AWp P w0 s (.region id l.toArray true) Q :=
  awp_region_drawF n ps hm hB (h.out.mono fun s' ns k => k.out.mono fun s2 k2 => k2.out)
end Go.Proofs.Ytokhbfbanofchaa
