/-
  Slices of structs of floats: from the flat readings to the abstract ones and back; slices of the call's own that are marked. Conditions: none.
-/
import Derived.Test.YthnlpbfheefldaaAi
namespace Go.Proofs.Ythnlpbfheefldaa
open Go Go.RowKit

/-- The content c of n elements of s floats reads flat as X. -/
def Flat (s n : Nat) (c : Nat → List AV) (X : List Nat) : Prop := 0 < s ∧ X.length = n * s ∧ ∀ k, k < n → (c k).length = s ∧ ∀ r, r < s → ∃ x, (c k)[r]? = some (fl .f32 x) ∧ X[k * s + r]? = some x

theorem Flat.at_ {s n : Nat} {c : Nat → List AV} {X : List Nat} (h : Flat s n c X) {j x : Nat} (hj : X[j]? = some x) : j / s < n ∧ (c (j / s))[j % s]? = some (fl .f32 x) := by
  have hjl : j < X.length := (List.getElem?_eq_some_iff.1 hj).1
  rw [h.2.1] at hjl
  have hk : j / s < n := by rw [Nat.div_lt_iff_lt_mul h.1]; exact hjl
  obtain ⟨_, hr⟩ := h.2.2 (j / s) hk
  obtain ⟨y, h1, h2⟩ := hr (j % s) (Nat.mod_lt _ h.1)
  rw [Nat.div_add_mod' j s, hj] at h2
  injection h2 with h2
  subst h2
  exact ⟨hk, h1⟩
theorem Rd_of_rs {w : World} {s n : Nat} {c : Nat → List AV} {X : List Nat} {v : Value} (hf : Flat s n c X) (h : (rs s n c).R w v) : ∃ A cap, v = .slice A n cap ∧ n ≤ cap ∧ Rd w w.heap.size s A n X := by
  obtain ⟨A, cap, rfl, hc, hh⟩ := h
  refine ⟨A, cap, rfl, hc, hf.2.1, fun hn => ?_⟩
  obtain ⟨b, p, rfl, hl⟩ := hh hn
  refine ⟨b, p, rfl, (hl 0 hn).1, fun j x hj => ?_⟩
  obtain ⟨hk, hc⟩ := hf.at_ hj
  obtain ⟨u, hu, ⟨q, rfl, hq⟩, _⟩ := (hl _ hk).2 _ _ hc
  rw [Nat.add_assoc, Nat.div_add_mod' j s] at hu
  exact ⟨q, hu, hq⟩
theorem rs_of_Rd {w : World} {s n cap : Nat} {c : Nat → List AV} {X : List Nat} {A : Option Addr} (hf : Flat s n c X) (h : Rd w w.heap.size s A n X) (hc : n ≤ cap) : (rs s n c).R w (.slice A n cap) := by
  refine ⟨A, cap, rfl, hc, fun hn => ?_⟩
  obtain ⟨b, o, rfl, hb, hh⟩ := h.adr hn
  refine ⟨b, o, rfl, fun k hk => ⟨hb, fun r B hr => ?_⟩⟩
  obtain ⟨hl, hx⟩ := hf.2.2 k hk
  have hrs : r < s := by rw [← hl]; exact (List.getElem?_eq_some_iff.1 hr).1
  obtain ⟨x, h1, h2⟩ := hx r hrs
  rw [h1] at hr
  injection hr with hr
  subst hr
  obtain ⟨u, hu, hfu⟩ := hh _ _ h2
  rw [← Nat.add_assoc] at hu
  exact ⟨_, hu, ⟨u, rfl, hfu⟩, rfl⟩
theorem row_of_Ow {w w' : World} {s n T hi : Nat} {c : Nat → List AV} {X : List Nat} {v : Value} (hf : Flat s n c X) (h : Ow w' w.heap.size hi T s v n X) : (HE.row v T s n c).ok w w' ∧ ∀ g, v.ownBlock = some g → w.heap.size ≤ g ∧ g < w'.heap.size := by
  obtain ⟨xs, h1, h2⟩ := h.own
  refine ⟨⟨xs, h1, fun k hk => All.of_get ?_ fun r A hr => ?_, h2.one_cell⟩, fun g hg => ⟨(World.ownsRow.lt h1 g hg).1, (World.ownsRow.lt h1 g hg).2⟩⟩
  · have hks : k * s + s ≤ n * s := by
      have : (k + 1) * s ≤ n * s := Nat.mul_le_mul_right _ hk
      rw [Nat.add_mul, Nat.one_mul] at this
      exact this
    rw [(hf.2.2 k hk).1, List.length_take, List.length_drop, h1.1]
    omega
  · obtain ⟨hl, hx⟩ := hf.2.2 k hk
    have hrs : r < s := by rw [← hl]; exact (List.getElem?_eq_some_iff.1 hr).1
    obtain ⟨x, h3, h4⟩ := hx r hrs
    rw [h3] at hr
    injection hr with hr
    subst hr
    obtain ⟨b, hb, hfb⟩ := h2.at_ _ _ h4
    exact ⟨_, by rw [List.getElem?_take, if_pos hrs, List.getElem?_drop]; exact hb, b, rfl, hfb⟩
theorem Ow_of_row {w0 w : World} {s n T : Nat} {c : Nat → List AV} {X : List Nat} {v : Value} (hf : Flat s n c X) (h : (HE.row v T s n c).ok w0 w) (lo hi : Nat) (hlo : ∀ g, v.ownBlock = some g → lo ≤ g ∧ g < hi) (hw : hi ≤ w.heap.size) : Ow w lo hi T s v n X := by
  obtain ⟨xs, ⟨hlen, h1⟩, h2, h3⟩ := h
  refine ⟨⟨xs, ⟨hlen, ?_⟩, ⟨by rw [hlen, hf.2.1], fun j x hj => ?_⟩⟩, fun g hg => (hlo g hg).2, hw⟩
  · rcases h1 with h1 | ⟨g, cap, cur, rfl, hg, r⟩
    · exact .inl h1
    · exact .inr ⟨g, cap, cur, rfl, (hlo g rfl).1, r⟩
  · obtain ⟨hk, hc⟩ := hf.at_ hj
    obtain ⟨u, hu, q, rfl, hq⟩ := (h2 _ hk).get hc
    rw [List.getElem?_take] at hu
    split at hu
    · rw [List.getElem?_drop, Nat.div_add_mod' j s] at hu
      exact ⟨q, hu, hq⟩
    · cases hu
theorem row_conv {w0 w : World} {s n T : Nat} {c c' : Nat → List AV} {v : Value} (h : (HE.row v T s n c).ok w0 w) (hc : ∀ k, k < n → c k = c' k) : (HE.row v T s n c').ok w0 w := by
  obtain ⟨xs, h1, h2, h3⟩ := h
  exact ⟨xs, h1, fun k hk => by rw [← hc k hk]; exact h2 k hk, h3⟩

/-- One entry of the memory is put in place of another. -/
inductive HRep : List HE → HE → HE → List HE → Prop where
  | here {e e' H} : HRep (e :: H) e e' (e' :: H)
  | there {x e e' H H'} : HRep H e e' H' → HRep (x :: H) e e' (x :: H')
theorem HRep.mem {H H' : List HE} {e e' : HE} (h : HRep H e e' H') : e ∈ H := by
  induction h with
  | here => exact .head _
  | there _ ih => exact .tail _ ih
theorem HRep.foots {H H' : List HE} {e e' : HE} (hf : ∀ g, e'.foot g → e.foot g) (h : HRep H e e' H') : ∀ x ∈ H', ∃ y ∈ H, ∀ g, x.foot g → y.foot g := by
  induction h with
  | here =>
    intro x hx
    cases hx with
    | head => exact ⟨_, .head _, hf⟩
    | tail _ hm => exact ⟨x, .tail _ hm, fun g hg => hg⟩
  | there _ ih =>
    intro x hx
    cases hx with
    | head => exact ⟨_, .head _, fun g hg => hg⟩
    | tail _ hm =>
      obtain ⟨y, h1, h2⟩ := ih hf x hm
      exact ⟨y, .tail _ h1, h2⟩
theorem HRep.ok {w0 w w' : World} {H H' : List HE} {e e' : HE} (hf : ∀ g, e'.foot g → e.foot g) (h : HRep H e e' H') : HOk w0 w H → w.heap.size ≤ w'.heap.size → (∀ g, g < w.heap.size → ¬ e.foot g → w'.heap[g]? = w.heap[g]?) → e'.ok w0 w' → HOk w0 w' H' := by
  induction h with
  | @here e e' H =>
    intro hH hs hk hn
    exact ⟨hn, fun g hg => ⟨(hH.2.1 g (hf g hg)).1, Nat.lt_of_lt_of_le (hH.2.1 g (hf g hg)).2.1 hs, (hH.2.1 g (hf g hg)).2.2⟩, hH.2.2.keep hs fun x hx g hg => hk g (hH.2.2.foot x hx g hg).2 fun hgb => (hH.2.1 g hgb).2.2 x hx hg⟩
  | @there x e e' H H' hp ih =>
    intro hH hs hk hn
    have hne : ∀ g, x.foot g → ¬ e.foot g := fun g hg hgb => (hH.2.1 g hg).2.2 _ hp.mem hgb
    refine ⟨hH.1.keep hs fun g hg => hk g (hH.2.1 g hg).2.1 (hne g hg), fun g hg => ⟨(hH.2.1 g hg).1, Nat.lt_of_lt_of_le (hH.2.1 g hg).2.1 hs, fun y hy hfy => ?_⟩, ih hf hH.2.2 hs hk hn⟩
    obtain ⟨z, h1, h2⟩ := hp.foots hf y hy
    exact (hH.2.1 g hg).2.2 z h1 (h2 g hfy)

/-- What a marking function does to a slice that the caller owns. -/
def Marks (P : Program) (f : FuncId) (T s : Nat) : Prop := ∀ (w : World) (v : Value) (n : Nat) (X : List Nat) (lo hi : Nat) (K : Int), Ow w lo hi T s v n X → n ≤ 1048576 → 0 ≤ K → K ≤ 16777216 →
  Calls P f #[v, .int .i64 K] w fun e w' => e = .returned (.int .i64 (K + (s : Int) * n)) ∧ Ow w' lo hi T s v n (marks K (n * s)) ∧ Only lo hi w w'
def markC (s : Nat) (K : Int) (k : Nat) : List AV := (List.range s).map fun r => fl .f32 (floatOfInt .f32 (K + ((k * s + r : Nat) : Int)))
theorem flat_marks {s n : Nat} (hs : 0 < s) (K : Int) : Flat s n (markC s K) (marks K (n * s)) := ⟨hs, marks_len _ _, fun k hk => ⟨by simp [markC], fun r hr => by
  have : k * s + r < n * s := by
    have : (k + 1) * s ≤ n * s := Nat.mul_le_mul_right _ hk
    rw [Nat.add_mul, Nat.one_mul] at this
    omega
  exact ⟨_, by simp [markC, hr], marks_at K this⟩⟩⟩

section
variable {P : Program} {w0 : World} {ops : Array Oper} {nt : Nat} {env : List (Nat × AV)} {H : List HE} {rest : List Oper} {Q : Exit → Act → World → Prop} {ty : TypeId} {pos : String} {after : Array Edge}
theorem aops_mark {d : Nat} {f : FuncId} {x y z : Operand} {v : Value} {T s n : Nat} {c : Nat → List AV} {X : List Nat} {K : Int} {H' : List HE} {ts : Array TypeId} (hcan : Can P f) (hm : Marks P f T s) (hx : Opd ⟨nt, env, H⟩ x (vv (.func (.func f) #[] #[]))) (hy : Opd ⟨nt, env, H⟩ y (vv v)) (hz : Opd ⟨nt, env, H⟩ z (vv (.int .i64 K)))
    (hr : HRep H (.row v T s n c) (.row v T s n (markC s K)) H') (hf : Flat s n c X) (hn : n ≤ 1048576) (h0 : 0 ≤ K) (h1 : K ≤ 16777216) (hd : Nat.blt d nt = true)
    (k : AOps P w0 ops ⟨nt, (d, vv (.int .i64 (K + (s : Int) * n))) :: env, H'⟩ rest Q) : AOps P w0 ops ⟨nt, env, H⟩ (⟨some d, .call { callee := .value x, args := #[y, z], argTypes := ts }, ty, pos, after, none⟩ :: rest) Q := by
  refine ⟨fun a w hs => wpList_plain rfl fun KK hK => ?_⟩
  have e : a.eval x = _ := hx w0 a w hs
  have ey : a.eval y = v := hy w0 a w hs
  have ez : a.eval z = .int .i64 K := hz w0 a w hs
  unfold Oper.wp
  rw [run_call hcan x #[y, z] ts rfl a e w]
  simp only [Oper.upon, List.map_toArray, List.map_cons, List.map_nil, ey, ez]
  have hrow := hs.heap.get _ hr.mem
  have hfoot := fun g (hg : v.ownBlock = some g) => hs.heap.foot _ hr.mem g hg
  obtain ⟨lo, hi, hlh, hlo, hiw, hlow⟩ : ∃ lo hi, (∀ g, v.ownBlock = some g → lo ≤ g ∧ g < hi) ∧ (∀ g, lo ≤ g → g < hi → v.ownBlock = some g) ∧ hi ≤ w.heap.size ∧ w0.heap.size ≤ lo := by
    cases hv : v.ownBlock with
    | none => exact ⟨w0.heap.size, w0.heap.size, fun g hg => (by cases hg), fun g h2 h3 => by omega, hs.below.size, Nat.le_refl _⟩
    | some g => exact ⟨g, g + 1, fun g' hg' => by injection hg' with hg'; omega, fun g' h2 h3 => by congr 1; omega, (hfoot g hv).2, (hfoot g hv).1⟩
  refine (hm w v n X lo hi K (Ow_of_row hf hrow lo hi hlh hiw) hn h0 h1).mono fun e2 w' h => ?_
  obtain ⟨rfl, how, hon⟩ := h
  have hs0 : 0 < s := hf.1
  have hb : Below w0.heap.size w w' := hon.below hlow hs.below.size
  have hff : ∀ g, (HE.row v T s n (markC s K)).foot g → (HE.row v T s n c).foot g := fun g hg => hg
  refine hK _ _ (k.out _ _ (hs.step (dst := some d) (A := vv _) hb rfl hd (hr.ok hff hs.heap hon.size (fun g hg hng => hon.block g hg ?_) ?_)))
  · by_cases h1 : lo ≤ g ∧ g < hi
    · exact absurd (hlo g h1.1 h1.2) hng
    · omega
  · obtain ⟨xs, ho, hfl⟩ := how.own
    have ho2 : w'.ownsRow w0.heap.size T s v n xs := by
      refine ⟨ho.1, ?_⟩
      rcases ho.2 with h2 | ⟨g, cap, cur, rfl, hg, r⟩
      · exact .inl h2
      · exact .inr ⟨g, cap, cur, rfl, (hfoot g rfl).1, r⟩
    refine ⟨xs, ho2, fun j hj => ?_, hfl.one_cell⟩
    have hfm := flat_marks (n := n) hs0 K
    refine All.of_get ?_ fun r A hr2 => ?_
    · have : (j + 1) * s ≤ n * s := Nat.mul_le_mul_right _ hj
      rw [Nat.add_mul, Nat.one_mul] at this
      rw [(hfm.2.2 j hj).1, List.length_take, List.length_drop, ho.1]
      omega
    · obtain ⟨hl, hx2⟩ := hfm.2.2 j hj
      have hrs : r < s := by rw [← hl]; exact (List.getElem?_eq_some_iff.1 hr2).1
      obtain ⟨q, h3, h4⟩ := hx2 r hrs
      rw [h3] at hr2
      injection hr2 with hr2
      subst hr2
      obtain ⟨b, hb2, hfb⟩ := hfl.at_ _ _ h4
      exact ⟨_, by rw [List.getElem?_take, if_pos hrs, List.getElem?_drop]; exact hb2, b, rfl, hfb⟩
end

end Go.Proofs.Ythnlpbfheefldaa
