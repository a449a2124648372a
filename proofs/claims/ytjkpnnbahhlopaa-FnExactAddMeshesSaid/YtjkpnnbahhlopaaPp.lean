/-
  Regions that draw their order: the list of operations in another order. Conditions: none.
-/
import Derived.Test.YtjkpnnbahhlopaaAq
namespace Go.Proofs.Ytjkpnnbahhlopaa
open Go Go.RowKit

def renO (ts : List Nat) : Oper → Oper
  | ⟨d, op, ty, pos, after, g⟩ => ⟨d, op, ty, pos, (after.toList.map fun e => ⟨ts.getD e.on 0, e.ground⟩).toArray, g⟩
def nopO : Oper := ⟨none, .move (.const (.bool true)), 0, "", #[], none⟩
def permL (ss ts : List Nat) (l : List Oper) : List Oper := ss.map fun i => renO ts (l.getD i nopO)
/-- What is looked at of a change of order: 'ss' from new places to old ones, 'ts' back. -/
def permB (ss ts : List Nat) (l : List Oper) : Bool :=
  Nat.beq ss.length l.length && (List.range l.length).all (fun i => Nat.blt (ts.getD i 0) l.length && Nat.beq (ss.getD (ts.getD i 0) 0) i && Nat.blt (ss.getD i 0) l.length && Nat.beq (ts.getD (ss.getD i 0) 0) i) && l.all fun o => o.guard.isNone && o.after.toList.all fun e => Nat.blt e.on l.length
section
variable {P : Program} {Q : Exit → Act → World → Prop}
theorem permD_some {α : Type} {l : List α} {d : α} {i : Nat} (h : i < l.length) : l[i]? = some (l.getD i d) := by
  rw [List.getD_eq_getElem?_getD, List.getElem?_eq_getElem h]
  rfl
theorem permL_get {ss ts : List Nat} {l : List Oper} (hl : ss.length = l.length) {j : Nat} (hj : j < l.length) (hs : ss.getD j 0 < l.length) : (permL ss ts l)[j]? = (l[ss.getD j 0]?).map (renO ts) := by
  unfold permL
  rw [List.getElem?_map, permD_some (l := ss) (d := 0) (by omega), permD_some (l := l) (d := nopO) hs]
  rfl
theorem wpAny_perm {ss ts : List Nat} {l : List Oper} (hB : permB ss ts l = true) : ∀ (f : Nat) (listed listed' : Array Bool) (a : Act) (w : World), listed.size = l.length → listed'.size = l.length → (∀ i, i < l.length → listed'.getD (ts.getD i 0) false = listed.getD i false) →
    wpAny P .any (permL ss ts l).toArray Q f listed' a w → wpAny P .any l.toArray Q f listed a w := by
  simp only [permB, Bool.and_eq_true, List.all_eq_true, List.mem_range] at hB
  obtain ⟨⟨hlen, hm⟩, hO⟩ := hB
  have hlen : ss.length = l.length := Nat.eq_of_beq_eq_true hlen
  have b1 : ∀ i, i < l.length → ts.getD i 0 < l.length := fun i hi => Nat.le_of_ble_eq_true (hm i hi).1.1.1
  have b2 : ∀ i, i < l.length → ss.getD (ts.getD i 0) 0 = i := fun i hi => Nat.eq_of_beq_eq_true (hm i hi).1.1.2
  have b3 : ∀ i, i < l.length → ss.getD i 0 < l.length := fun i hi => Nat.le_of_ble_eq_true (hm i hi).1.2
  have b4 : ∀ i, i < l.length → ts.getD (ss.getD i 0) 0 = i := fun i hi => Nat.eq_of_beq_eq_true (hm i hi).2
  have get' : ∀ i, i < l.length → (permL ss ts l).toArray[ts.getD i 0]? = (l.toArray[i]?).map (renO ts) := fun i hi => by
    rw [List.getElem?_toArray, List.getElem?_toArray, permL_get hlen (b1 i hi) (by rw [b2 i hi]; exact hi), b2 i hi]
  have hsz : (permL ss ts l).length = l.length := by unfold permL; rw [List.length_map, hlen]
  have inr : ∀ {arr : Array Bool} {i : Nat}, arr.size = l.length → i < l.length → arr.getD i true = arr.getD i false := fun {arr i} h hi => by
    have : i < arr.size := by omega
    simp [Array.getD, this]
  have lt_of : ∀ {i : Nat} {o : Oper}, l.toArray[i]? = some o → i < l.length := fun {i o} h => by
    rcases Nat.lt_or_ge i l.length with q | q
    · exact q
    · rw [List.getElem?_toArray, List.getElem?_eq_none q] at h; cases h
  have mem_of : ∀ {i : Nat} {o : Oper}, l.toArray[i]? = some o → o ∈ l := fun {i o} h => by
    rw [List.getElem?_toArray] at h
    exact List.mem_of_getElem? h
  -- who is ready here is ready there, and back
  have to : ∀ {listed listed' : Array Bool}, listed.size = l.length → listed'.size = l.length → (∀ i, i < l.length → listed'.getD (ts.getD i 0) false = listed.getD i false) → ∀ i, i ∈ Region.ready .any l.toArray listed → i < l.length ∧ ts.getD i 0 ∈ Region.ready .any (permL ss ts l).toArray listed' := fun {listed listed'} h1 h2 hl i hi => by
    obtain ⟨h0, o, ho, hall⟩ := mem_ready.1 hi
    have hlt := lt_of ho
    refine ⟨hlt, mem_ready.2 ⟨by rw [inr h2 (b1 i hlt), hl i hlt, ← inr h1 hlt]; exact h0, renO ts o, by rw [get' i hlt, ho]; rfl, fun e he hb => ?_⟩⟩
    have hoo := hO o (mem_of ho)
    obtain ⟨d, op, ty, pos, after, g⟩ := o
    have he : e ∈ (after.toList.map fun e => (⟨ts.getD e.on 0, e.ground⟩ : Edge)).toArray := he
    rw [List.mem_toArray, List.mem_map] at he
    obtain ⟨e0, he0, rfl⟩ := he
    have := hoo.2 e0 he0
    rw [hl e0.on (Nat.le_of_ble_eq_true this)]
    exact hall e0 (by simpa using he0) hb
  have back : ∀ {listed listed' : Array Bool}, listed.size = l.length → listed'.size = l.length → (∀ i, i < l.length → listed'.getD (ts.getD i 0) false = listed.getD i false) → ∀ j, j ∈ Region.ready .any (permL ss ts l).toArray listed' → ss.getD j 0 ∈ Region.ready .any l.toArray listed := fun {listed listed'} h1 h2 hl j hj => by
    obtain ⟨h0, o', ho', hall⟩ := mem_ready.1 hj
    have hj' : j < l.length := by
      rcases Nat.lt_or_ge j l.length with q | q
      · exact q
      · rw [List.getElem?_toArray, List.getElem?_eq_none (by omega)] at ho'; cases ho'
    have hs := b3 j hj'
    have g := get' (ss.getD j 0) hs
    rw [b4 j hj', ho'] at g
    cases ho : l.toArray[ss.getD j 0]? with
    | none => rw [ho] at g; cases g
    | some o =>
      rw [ho] at g
      obtain rfl : o' = renO ts o := by simpa using g
      refine mem_ready.2 ⟨by rw [inr h1 hs, ← hl _ hs, b4 j hj', ← inr h2 hj']; exact h0, o, ho, fun e he hb => ?_⟩
      have hoo := hO o (mem_of ho)
      obtain ⟨d, op, ty, pos, after, g0⟩ := o
      have he' : e ∈ after.toList := by simpa using he
      have := hoo.2 e he'
      rw [← hl e.on (Nat.le_of_ble_eq_true this)]
      refine hall ⟨ts.getD e.on 0, e.ground⟩ ?_ hb
      show (⟨ts.getD e.on 0, e.ground⟩ : Edge) ∈ (after.toList.map fun e => (⟨ts.getD e.on 0, e.ground⟩ : Edge)).toArray
      rw [List.mem_toArray, List.mem_map]
      exact ⟨e, he', rfl⟩
  intro f
  induction f with
  | zero =>
    intro listed listed' a w h1 h2 hl h
    refine ⟨?_, h.2⟩
    rw [List.eq_nil_iff_forall_not_mem]
    intro i hi
    have := (to h1 h2 hl i hi).2
    rw [h.1] at this
    cases this
  | succ f ih =>
    intro listed listed' a w h1 h2 hl h
    refine ⟨fun h0 => h.1 ?_, fun i hi => ?_⟩
    · rw [List.eq_nil_iff_forall_not_mem]
      intro j hj
      have := back h1 h2 hl j hj
      rw [h0] at this
      cases this
    · obtain ⟨hlt, hr⟩ := to h1 h2 hl i hi
      have k := h.2 _ hr
      have hK : ∀ a w, wpAny P .any (permL ss ts l).toArray Q f (listed'.setIfInBounds (ts.getD i 0) true) a w → wpAny P .any l.toArray Q f (listed.setIfInBounds i true) a w := fun a w q => by
        refine ih _ _ a w (by simpa using h1) (by simpa using h2) (fun x hx => ?_) q
        by_cases hxi : x = i
        · subst hxi
          have e1 : ts.getD x 0 < listed'.size := by rw [h2]; exact b1 x hx
          have e2 : x < listed.size := by rw [h1]; exact hx
          have q1 : ∀ {arr : Array Bool} {i : Nat}, i < arr.size → (arr.setIfInBounds i true).getD i false = true := fun {arr i} h => by
            rw [Array.getD_eq_getD_getElem?, Array.getElem?_setIfInBounds_self_of_lt h]
            rfl
          rw [q1 e1, q1 e2]
        · have hne : ts.getD i 0 ≠ ts.getD x 0 := fun q => hxi (by rw [← b2 x hx, ← b2 i hlt, q])
          rw [listed_ne hne, listed_ne (Ne.symm hxi)]
          exact hl x hx
      unfold wpOp at k ⊢
      rw [get' i hlt] at k
      cases ho : l.toArray[i]? with
      | none => rw [ho] at k; exact hK _ _ k
      | some o =>
        rw [ho] at k
        have hoo := (hO o (mem_of ho)).1
        obtain ⟨d, op, ty, pos, after, g⟩ := o
        have hg : g = none := by simpa using hoo
        subst hg
        have e1 : ∀ (q : Nat → Option Bool) (af : Array Edge), Region.wanted (⟨d, op, ty, pos, af, none⟩ : Oper) q = true := fun q af => by simp [Region.wanted]
        simp only [Option.map_some, renO, e1, if_true] at k ⊢
        rcases k with k | k
        · exact .inl (Oper.wp_mono (o := ⟨d, op, ty, pos, after, none⟩) hK k)
        · exact .inr k
end
def silent : Op → Bool
  | .extract .. => true
  | .pick .. => true
  | .move _ => true
  | _ => false
theorem silent_run {P : Program} (ρ : Operand → Value) {o : Oper} (h : silent o.op = true) : (∃ v, ∀ w, (execOp ρ o).run P w = .ok (.value v) w) ∨ ∃ why, ∀ w, (execOp ρ o).run P w = .halt (.stuck why) w := by
  cases ho : o.op <;> rw [ho] at h <;> first | cases h | skip
  case move x => exact .inl ⟨ρ x, fun w => by simp only [execOp, ho]; rfl⟩
  case extract x i => exact extract_run ρ ho
  case pick x y z => exact pick_run ρ ho
theorem alloc_run {P : Program} {o : Oper} {t : TypeId} (ho : o.op = .alloc t) (w : World) : (∃ v w1, ∀ ρ, (execOp ρ o).run P w = .ok (.value v) w1) ∨ ∃ x w1, ∀ ρ, (execOp ρ o).run P w = .halt x w1 := by
  simp only [execOp, ho]
  cases h : (Instr.alloc t true (.tuple #[])).run P w with
  | ok x w1 => exact .inl ⟨x, w1, fun _ => by simp [Sem.run_bind, h]⟩
  | halt x w1 => exact .inr ⟨x, w1, fun _ => by simp [Sem.run_bind, h]⟩
section
variable {P : Program} {Q : Exit → Act → World → Prop} {ops : Array Oper} {md : Region.Mode}
/-- A new variable made now, where all that may be done ahead of it neither looks at memory nor turns it. -/
theorem wpAny_hop {p : Nat} {op : Oper} {v : Value} {w w1 : World} (hp : ops[p]? = some op) (hg : op.guard = none) (hrun : ∀ ρ, (execOp ρ op).run P w = .ok (.value v) w1) (hsel : ∀ (j : Nat) (o : Oper) cs b, ops[j]? = some o → o.op ≠ .select cs b) (hO : ¬ LetsOut Q) :
    ∀ (f : Nat) (listed : Array Bool) (a : Act), (∀ j oj, ops[j]? = some oj → j ≠ p → listed.getD j true = false → (∀ e ∈ oj.after, Region.binds md e = true → e.on ≠ p) → op.apart ops oj = true ∧ oj.guard = none ∧ silent oj.op = true) →
    p ∈ Region.ready md ops listed → wpAny P md ops Q f (listed.setIfInBounds p true) (a.put op.dst v) w1 → wpAny P md ops Q (f + 1) listed a w := by
  have now : ∀ {K : Act → World → Prop} {a : Act}, K (a.put op.dst v) w1 → wpOp P ops Q p K a w := fun {K a} h => by
    unfold wpOp
    simp only [hp, Region.wanted, hg, if_true]
    refine .inl ?_
    unfold Oper.wp
    rw [hrun]
    exact h
  intro f
  induction f with
  | zero =>
    intro listed a _ hr H
    refine ⟨fun h => (by rw [h] at hr; cases hr), fun j hj => ?_⟩
    by_cases hjp : j = p
    · subst hjp; exact now H
    · have := ready_mono hj hjp
      rw [H.1] at this
      cases this
  | succ f ih =>
    intro listed a hfree hr H
    refine ⟨fun h => (by rw [h] at hr; cases hr), fun j hj => ?_⟩
    by_cases hjp : j = p
    · subst hjp; exact now H
    · have h1 := H.2 j (ready_mono hj hjp)
      obtain ⟨hjun, oj, hoj, hall⟩ := mem_ready.1 hj
      have hnot : ∀ e ∈ oj.after, Region.binds md e = true → e.on ≠ p := fun e he hb heq => by
        have h1 := hall e he hb
        have h0 := (mem_ready.1 hr).1
        rw [heq, getD_both h0] at h1
        cases h1
      obtain ⟨hap, hgj, hsj⟩ := hfree j oj hoj hjp hjun hnot
      obtain ⟨a1, a2, a3⟩ := Oper.apart_spec hap
      have hfree' : ∀ k ok, ops[k]? = some ok → k ≠ p → (listed.setIfInBounds j true).getD k true = false → (∀ e ∈ ok.after, Region.binds md e = true → e.on ≠ p) → op.apart ops ok = true ∧ ok.guard = none ∧ silent ok.op = true := fun k ok hk hkp hun hno => by
        refine hfree k ok hk hkp ?_ hno
        by_cases hjk : j = k
        · subst hjk; exact hjun
        · rw [getD_set_ne true hjk] at hun; exact hun
      unfold wpOp at h1 ⊢
      simp only [hoj, Region.wanted, hgj, if_true] at h1 ⊢
      refine .inl ?_
      have h1 := h1.resolve_right fun q => hO q.2
      unfold Oper.wp at h1 ⊢
      rw [execOp_put oj (fun cs b => hsel j oj cs b hoj) a op.dst v a1] at h1
      rcases silent_run (P := P) a.eval hsj with ⟨u, hu⟩ | ⟨why, hu⟩
      · rw [hu] at h1 ⊢
        refine ih (listed.setIfInBounds j true) (a.put oj.dst u) hfree' (ready_mono hr (Ne.symm hjp)) ?_
        rw [Array.setIfInBounds_comm _ _ hjp, ← Act.put_comm a v u a2]
        exact h1
      · rw [hu] at h1
        exact h1.elim
end
/-- What is looked at of an edge from a new variable p to q. -/
def edgeA (p q : Nat) (l : List Oper) : Bool :=
  !(Nat.beq p q) && Region.noSelect l.toArray && (match l[p]?, l[q]? with
    | some op, some _ => (match op.op with
      | .alloc _ => true
      | _ => false) && op.guard.isNone && op.dst.isSome &&
      (op.after.toList.all fun e => !Region.binds .any e || anc l.toArray l.length q e.on) &&
      ((List.range l.length).all fun j => Nat.beq j p || anc l.toArray l.length q j || match l[j]? with
        | some oj => (oj.after.toList.any fun e => Region.binds .any e && Nat.beq e.on p) || (op.apart l.toArray oj && oj.guard.isNone && silent oj.op)
        | none => true)
    | _, _ => false)
section
variable {P : Program} {Q : Exit → Act → World → Prop} {l : List Oper} {p q : Nat}
theorem wpAny_edgeA (hE : edgeA p q l = true) (hQ : ∀ c a w, ¬ Q (.panic c) a w) (hO : ¬ LetsOut Q) : ∀ (f : Nat) (listed : Array Bool) (a : Act) (w : World), listed.size = l.length → Closed l.toArray listed → wpAny P .any (addE p q l).toArray Q f listed a w → wpAny P .any l.toArray Q f listed a w := by
  unfold edgeA at hE
  simp only [Bool.and_eq_true] at hE
  obtain ⟨⟨hpq, hsel⟩, hE⟩ := hE
  have hpq : p ≠ q := fun e => by subst e; simp at hpq
  cases hp : l[p]? with
  | none => rw [hp] at hE; simp at hE
  | some op =>
  cases hq : l[q]? with
  | none => rw [hp, hq] at hE; simp at hE
  | some oq =>
  rw [hp, hq] at hE
  simp only [Bool.and_eq_true] at hE
  obtain ⟨⟨⟨⟨hop, hg⟩, hd⟩, haft⟩, hap⟩ := hE
  have hg : op.guard = none := by simpa using hg
  have hop : ∃ t, op.op = .alloc t := by
    cases h : op.op <;> rw [h] at hop <;> first | (exact ⟨_, rfl⟩) | cases hop
  obtain ⟨t, hop⟩ := hop
  have hp' : l.toArray[p]? = some op := by simpa using hp
  have hq' : l.toArray[q]? = some oq := by simpa using hq
  have get' : ∀ j, (addE p q l).toArray[j]? = if j = q then (l.toArray[j]?).map (withE p) else l.toArray[j]? := fun j => by simp [addE_get]
  have hpl : p < l.length := by
    rcases Nat.lt_or_ge p l.length with h | h
    · exact h
    · rw [List.getElem?_eq_none h] at hp; cases hp
  -- who is ready there is ready here
  have sub : ∀ listed j, j ∈ Region.ready .any (addE p q l).toArray listed → j ∈ Region.ready .any l.toArray listed := fun listed j hj => by
    obtain ⟨h0, o, ho, hall⟩ := mem_ready.1 hj
    rw [get'] at ho
    by_cases hjq : j = q
    · rw [if_pos hjq] at ho
      cases h : l.toArray[j]? with
      | none => rw [h] at ho; cases ho
      | some o0 =>
        rw [h] at ho
        obtain rfl : withE p o0 = o := by simpa using ho
        exact mem_ready.2 ⟨h0, o0, h, fun e he hb => hall e (by simp [withE, he]) hb⟩
    · rw [if_neg hjq] at ho
      exact mem_ready.2 ⟨h0, o, ho, hall⟩
  have sup : ∀ listed j, j ∈ Region.ready .any l.toArray listed → (j = q → listed.getD p false = true) → j ∈ Region.ready .any (addE p q l).toArray listed := fun listed j hj hl => by
    obtain ⟨h0, o, ho, hall⟩ := mem_ready.1 hj
    by_cases hjq : j = q
    · refine mem_ready.2 ⟨h0, withE p o, by rw [get', if_pos hjq, ho]; rfl, fun e he hb => ?_⟩
      simp only [withE, Array.mem_push] at he
      rcases he with he | rfl
      · exact hall e he hb
      · exact hl hjq
    · exact mem_ready.2 ⟨h0, o, by rw [get', if_neg hjq, ho], hall⟩
  -- where q is ready, p is
  have hpr : ∀ listed, Closed l.toArray listed → q ∈ Region.ready .any l.toArray listed → listed.getD p false = false → p < listed.size → p ∈ Region.ready .any l.toArray listed := fun listed hcl hqr hun hlt => by
    obtain ⟨h0, o, ho, hall⟩ := mem_ready.1 hqr
    obtain rfl : oq = o := by rw [hq'] at ho; exact Option.some.inj ho
    refine mem_ready.2 ⟨getD_in hlt hun, op, hp', fun e he hb => ?_⟩
    rw [List.all_eq_true] at haft
    have := haft e (by simpa using he)
    rw [hb] at this
    simp only [Bool.not_true, Bool.false_or] at this
    have := anc_listed hcl _ _ _ _ hq' hall this
    exact this
  have hfree : ∀ (listed : Array Bool), Closed l.toArray listed → q ∈ Region.ready .any l.toArray listed → ∀ j oj, l.toArray[j]? = some oj → j ≠ p → listed.getD j true = false → (∀ e ∈ oj.after, Region.binds .any e = true → e.on ≠ p) → op.apart l.toArray oj = true ∧ oj.guard = none ∧ silent oj.op = true := fun listed hcl hqr j oj hj hjp hun hno => by
    rw [List.all_eq_true] at hap
    have hj' : l[j]? = some oj := by simpa using hj
    have hlt : j < l.length := by
      rcases Nat.lt_or_ge j l.length with h | h
      · exact h
      · rw [List.getElem?_eq_none h] at hj'; cases hj'
    have := hap j (List.mem_range.2 hlt)
    rw [hj'] at this
    simp only [Bool.or_eq_true, List.any_eq_true, Bool.and_eq_true] at this
    rcases this with (h | h) | ⟨e, he, hb, hon⟩ | h
    · exact absurd (Nat.eq_of_beq_eq_true h) hjp
    · obtain ⟨_, o, ho, hall⟩ := mem_ready.1 hqr
      obtain rfl : oq = o := by rw [hq'] at ho; exact Option.some.inj ho
      have := anc_listed hcl _ _ _ _ hq' hall h
      rw [getD_both hun] at this
      cases this
    · exact absurd (Nat.eq_of_beq_eq_true hon) (hno e (by simpa using he) hb)
    · exact ⟨h.1.1, by simpa using h.1.2, h.2⟩
  intro f
  induction f with
  | zero =>
    intro listed a w hsz hcl h
    refine ⟨?_, h.2⟩
    rw [List.eq_nil_iff_forall_not_mem]
    intro j hj
    have hn := h.1
    by_cases hc : j = q ∧ listed.getD p false = false
    · obtain ⟨rfl, hun⟩ := hc
      have := sup listed p (hpr listed hcl hj hun (by rw [hsz]; exact hpl)) (fun e => absurd e hpq)
      rw [hn] at this
      cases this
    · have := sup listed j hj (fun e => by
        cases hx : listed.getD p false with
        | true => rfl
        | false => exact absurd ⟨e, hx⟩ hc)
      rw [hn] at this
      cases this
  | succ f ih =>
    intro listed a w hsz hcl h
    by_cases hc : q ∈ Region.ready .any l.toArray listed ∧ listed.getD p false = false ∧ p < listed.size
    · obtain ⟨hqr, hun, hlt⟩ := hc
      have hr := hpr listed hcl hqr hun hlt
      have h1 := h.2 p (sup listed p hr fun e => absurd e hpq)
      rw [wpOp_edge] at h1
      unfold wpOp at h1
      simp only [hp', Region.wanted, hg, if_true] at h1
      have h1 : op.wp P a w (wpAny P .any (addE p q l).toArray Q f (listed.setIfInBounds p true)) Q := by
        rcases h1 with h1 | h1
        · exact h1
        · exact absurd h1.2 hO
      unfold Oper.wp at h1
      rcases alloc_run (P := P) hop w with ⟨v, w1, hv⟩ | ⟨x, w1, hv⟩
      · rw [hv] at h1
        exact wpAny_hop hp' hg hv (Region.noSelect_spec hsel) hO f listed a (hfree listed hcl hqr) hr (ih _ _ _ (by simpa using hsz) (closed_set hcl hr) h1)
      · rw [hv] at h1
        cases x <;> first | exact absurd h1 (hQ _ _ _) | exact h1.elim
    · refine ⟨fun h0 => h.1 ?_, fun i hi => ?_⟩
      · rw [List.eq_nil_iff_forall_not_mem]
        intro j hj
        have := sub listed j hj
        rw [h0] at this
        cases this
      · have h1 := h.2 i (sup listed i hi fun e => by
          cases hx : listed.getD p false with
          | true => rfl
          | false =>
            subst e
            refine absurd ⟨hi, hx, ?_⟩ hc
            rw [hsz]; exact hpl)
        rw [wpOp_edge] at h1
        exact wpOp_mono (fun a w hh => ih _ _ _ (by simpa using hsz) (closed_set hcl hi) hh) h1
end
def edgesG (n : Nat) : List (Nat × Nat) → List Oper → Bool
  | [], _ => true
  | (p, q) :: r, l => Nat.ble n q && (edgeC p q l || edgeA p q l) && edgesG n r (addE p q l)
theorem wpAny_edgesG {P : Program} {Q : Exit → Act → World → Prop} {n : Nat} (hQ : ∀ c a w, ¬ Q (.panic c) a w) (hO : ¬ LetsOut Q) : ∀ (ps : List (Nat × Nat)) (l : List Oper), edgesG n ps l = true → ∀ (f : Nat) (a : Act) (w : World), wpAny P .any (addEs ps l).toArray Q f (Array.replicate l.length false) a w → wpAny P .any l.toArray Q f (Array.replicate l.length false) a w
  | [], _, _, _, _, _, h => h
  | (p, q) :: r, l, hE, f, a, w, h => by
    simp only [edgesG, Bool.and_eq_true, Bool.or_eq_true] at hE
    have h2 : wpAny P .any (addE p q l).toArray Q f (Array.replicate l.length false) a w := by
      have := wpAny_edgesG (P := P) hQ hO r (addE p q l) hE.2 f a w
      rw [addE_length] at this
      exact this h
    rcases hE.1.2 with hC | hA
    · exact wpAny_edgeC hC hQ hO f _ a w (by simp) closed_none h2
    · exact wpAny_edgeA hA hQ hO f _ a w (by simp) closed_none h2
theorem addEs_takeG {n : Nat} : ∀ (ps : List (Nat × Nat)) (l : List Oper), edgesG n ps l = true → (addEs ps l).take n = l.take n
  | [], _, _ => rfl
  | (p, q) :: r, l, hE => by
    simp only [edgesG, Bool.and_eq_true] at hE
    rw [addEs, addEs_takeG r _ hE.2, addE_take p n q l (Nat.le_of_ble_eq_true hE.1.1)]
theorem wpList_edgesG {P : Program} {Q : Exit → Act → World → Prop} {n : Nat} : ∀ (ps : List (Nat × Nat)) (l : List Oper), edgesG n ps l = true → ∀ (a : Act) (w : World), wpList P l.toArray Q (l.drop n) a w → wpList P (addEs ps l).toArray Q ((addEs ps l).drop n) a w
  | [], _, _, _, _, h => h
  | (p, q) :: r, l, hE, a, w, h => by
    simp only [edgesG, Bool.and_eq_true] at hE
    refine wpList_edgesG r (addE p q l) hE.2 a w (wpList_edge _ _ (fun j => ?_) a w h)
    simp only [List.getElem?_drop, addE_get]
    by_cases hj : n + j = q
    · rw [if_pos hj]; exact .inr rfl
    · rw [if_neg hj]; exact .inl rfl
theorem awp_drawP {P : Program} {w0 : World} {s : AS} {Q : Exit → Act → World → Prop} {id : Nat} {l0 : List Oper} (ss ts : List Nat) (n : Nat) (ps : List (Nat × Nat)) (hm : P.follows .mixedOrders = true) (hP : permB ss ts l0 = true) (hB : (Region.lexTailB .any (addEs ps (permL ss ts l0)).toArray n && distB s.nt ((permL ss ts l0).take n) && edgesG n ps (permL ss ts l0)) = true)
    (h0 : DWU P (addEs ps (permL ss ts l0)).toArray s ⟨0, []⟩ n (permL ss ts l0) fun s' ns => FinV (fun s'' => ADrop P w0 (permL ss ts l0).toArray s'' n (permL ss ts l0) (NoP Q)) s' ns.es) : AWp P w0 s (.region id l0.toArray true) Q := by
  have hsz : (permL ss ts l0).length = l0.length := by
    have := hP
    simp only [permB, Bool.and_eq_true] at this
    unfold permL
    rw [List.length_map, Nat.eq_of_beq_eq_true this.1.1]
  have hperm : ∀ (f : Nat) (a : Act) (w : World), wpAny P .any (permL ss ts l0).toArray (NoP Q) f (Array.replicate l0.length false) a w → wpAny P .any l0.toArray (NoP Q) f (Array.replicate l0.length false) a w := fun f a w q =>
    wpAny_perm hP f _ _ a w (by simp) (by simp) (fun i hi => by rw [getD_replicate_false, getD_replicate_false]) q
  have h : DU P (addEs ps (permL ss ts l0)).toArray s ⟨0, []⟩ ((permL ss ts l0).take n) fun s' ns => FinU (fun s'' => AOps P w0 (permL ss ts l0).toArray s'' ((permL ss ts l0).drop n) (NoP Q)) s' ns.es := h0.out.mono fun s' ns k => k.out.mono fun s2 k2 => k2.out
  clear h0
  generalize permL ss ts l0 = l at h hB hsz hperm
  simp only [Bool.and_eq_true] at hB
  obtain ⟨⟨hB, hD⟩, hE⟩ := hB
  have htk := addEs_takeG ps l hE
  have hS : Stat (addEs ps l).toArray n s.nt := stat_of (by rw [htk]; exact hD)
  have hn' : n < l.length := by
    simp only [Region.lexTailB, Bool.and_eq_true, decide_eq_true_eq] at hB
    have := hB.1.1.1.2
    simpa [addEs_length] using this
  rw [← htk] at h
  have hlen : (addEs ps l).length = l.length := addEs_length ps l
  refine ⟨fun a w hs => ?_⟩
  have hb1 : Below w0.heap.size w0 (w.drewN 1) := below_drewN hs.below 1
  obtain ⟨Rs, _, hRs⟩ := du_rel (P := P) (ops := (addEs ps l).toArray) (n := n) (T := fun Rs a' F => ∀ w' listed, CB (w.drewN 1) w' → F w' → Feet (addEs ps l).toArray Rs n (w.drewN 1).heap.size listed a' w' → (∀ j, j < n → listed.getD j false = true) → wpList P (addEs ps l).toArray (NoP Q) ((addEs ps l).drop n) a' w') hb1 hS _ _ _ _ h
    (fun j hj => by simp at hj; simp [hj]) (by simp [hlen]; omega) (fun _ => SF.pure fun _ => True)
  refine Code.wp_mono (Q := NoP Q) (fun e a w q => q.2) ?_
  refine wp_region_rel4 (lo := (w.drewN 1).heap.size) (l := addEs ps l) n Rs (CB (w.drewN 1)) hm hB (by rw [hs.size]; exact hS) (fun w' hw => Below.size hw) (Below.refl _ _) (hlen.trans hsz) (fun f a w q => hperm f a w (by
    have := wpAny_edgesG (P := P) (Q := NoP Q) (fun c a w q => by cases q.1) (fun ⟨a, w, q⟩ => by cases q.1) ps l hE f a w
    rw [hsz] at this
    exact this q)) (hRs a _ ⟨hs.size, hs.defers, hs.env, hs.heap.below (below_drewN (Below.refl _ _) 1), (fun e he => by cases he), (by simp)⟩ fun s' ns a' F hK hnk hp w' listed hw hF hft hall => ?_)
  have hsat := hp.sat hb1 hw
  have hfin := finU_sat ns.es s' hK hsat (fun e he => (hp.ents e he).2.2.2 w' hF) (fun e he g hg => by
    obtain ⟨h1, h2, h3, h4⟩ := hp.ents e he
    have hg' : (Rs e.j).ft (a'.tmps.getD e.d undef) g := by rw [h3]; exact hg
    obtain ⟨q1, q2⟩ := hft.lt e.j e.d (by omega) h1 (hall _ (by omega)) g hg'
    exact ⟨Nat.le_trans hb1.size q1, q2, fun x hx hxf => absurd (hp.heap.foot x hx g hxf).2 (by omega)⟩) (by
    have hnd := hp.nodup
    rw [List.nodup_iff_pairwise_ne, List.pairwise_map] at hnd
    refine hnd.imp_of_mem fun {e e'} he he' hne g hg hg' => ?_
    obtain ⟨h1, h2, h3, h4⟩ := hp.ents e he
    obtain ⟨h1', h2', h3', h4'⟩ := hp.ents e' he'
    exact hft.ap e.j e'.j e.d e'.d (by omega) (by omega) hne h1 h1' (hall _ (by omega)) (hall _ (by omega)) g (by rw [h3]; exact hg) (by rw [h3']; exact hg'))
  obtain ⟨s2, hK2, hs2⟩ := hfin
  exact wpList_edgesG ps l hE a' w' (hK2.out a' w' hs2)
theorem inj_tupG {mk : Value → AV} {B : AV} (h : Inj mk) : Inj fun sv => tup [mk sv, B] := fun w sv sv' v h1 h2 => by
  obtain ⟨cs, e, a⟩ := h1
  obtain ⟨cs', e', a'⟩ := h2
  subst e
  injection e' with e'
  have e2 : cs = cs' := by simpa using congrArg Array.toList e'
  subst e2
  match cs, a, a' with
  | x :: y :: r, a, a' => exact h w sv sv' x a.1 a'.1
end Go.Proofs.Ytjkpnnbahhlopaa
