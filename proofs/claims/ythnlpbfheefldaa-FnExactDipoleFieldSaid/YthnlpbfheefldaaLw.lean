/-
  The helpers of the laws over slices of structs, in the abstract form. Conditions: none.
-/
import Derived.Test.YthnlpbfheefldaaBr
import Derived.Test.YthnlpbfheefldaaVecS
import Derived.Test.YthnlpbfheefldaaPoleS
namespace Go.Proofs.Ythnlpbfheefldaa
open Go Go.RowKit

/-- One entry of the memory is put in place of another. -/
inductive HRep : List HE → HE → HE → List HE → Prop where
  | here {e e' H} : HRep (e :: H) e e' (e' :: H)
  | there {x e e' H H'} : HRep H e e' H' → HRep (x :: H) e e' (x :: H')
theorem HRep.mem {H H' : List HE} {e e' : HE} (h : HRep H e e' H') : e ∈ H := by
  induction h with
  | here => exact .head _
  | there _ ih => exact .tail _ ih
theorem HRep.foots {H H' : List HE} {e e' : HE} (hf : ∀ g, e'.foot g → e.foot g) (h : HRep H e e' H') : ∀ x ∈ H', ∃ y ∈ H, ∀ g, x.foot g → y.foot g := by
  induction h with
  | here =>
    intro x hx
    cases hx with
    | head => exact ⟨_, .head _, hf⟩
    | tail _ hm => exact ⟨x, .tail _ hm, fun g hg => hg⟩
  | there _ ih =>
    intro x hx
    cases hx with
    | head => exact ⟨_, .head _, fun g hg => hg⟩
    | tail _ hm =>
      obtain ⟨y, h1, h2⟩ := ih hf x hm
      exact ⟨y, .tail _ h1, h2⟩
theorem HRep.ok {w0 w w' : World} {H H' : List HE} {e e' : HE} (hf : ∀ g, e'.foot g → e.foot g) (h : HRep H e e' H') : HOk w0 w H → w.heap.size ≤ w'.heap.size → (∀ g, g < w.heap.size → ¬ e.foot g → w'.heap[g]? = w.heap[g]?) → e'.ok w0 w' → HOk w0 w' H' := by
  induction h with
  | @here e e' H =>
    intro hH hs hk hn
    exact ⟨hn, fun g hg => ⟨(hH.2.1 g (hf g hg)).1, Nat.lt_of_lt_of_le (hH.2.1 g (hf g hg)).2.1 hs, (hH.2.1 g (hf g hg)).2.2⟩, hH.2.2.keep hs fun x hx g hg => hk g (hH.2.2.foot x hx g hg).2 fun hgb => (hH.2.1 g hgb).2.2 x hx hg⟩
  | @there x e e' H H' hp ih =>
    intro hH hs hk hn
    have hne : ∀ g, x.foot g → ¬ e.foot g := fun g hg hgb => (hH.2.1 g hg).2.2 _ hp.mem hgb
    refine ⟨hH.1.keep fun g hg => hk g (hH.2.1 g hg).2.1 (hne g hg), fun g hg => ⟨(hH.2.1 g hg).1, Nat.lt_of_lt_of_le (hH.2.1 g hg).2.1 hs, fun y hy hfy => ?_⟩, ih hf hH.2.2 hs hk hn⟩
    obtain ⟨z, h1, h2⟩ := hp.foots hf y hy
    exact (hH.2.1 g hg).2.2 z h1 (h2 g hfy)

/-- What a marking function does to a slice that the caller owns. -/
def Marks (P : Program) (f : FuncId) (T s : Nat) : Prop := ∀ (w : World) (v : Value) (n : Nat) (X : List Nat) (lo hi : Nat) (K : Int), Ow w lo hi T s v n X → n ≤ 1048576 → 0 ≤ K → K ≤ 16777216 →
  Calls P f #[v, .int .i64 K] w fun e w' => e = .returned (.int .i64 (K + (s : Int) * n)) ∧ Ow w' lo hi T s v n (marks K (n * s)) ∧ Only lo hi w w'
def markC (s : Nat) (K : Int) (k : Nat) : List AV := (List.range s).map fun r => fl .f32 (floatOfInt .f32 (K + ((k * s + r : Nat) : Int)))
theorem flat_marks {s n : Nat} (hs : 0 < s) (K : Int) : Flat s n (markC s K) (marks K (n * s)) := ⟨hs, marks_len _ _, fun k hk => ⟨by simp [markC], fun r hr => by
  have : k * s + r < n * s := by
    have : (k + 1) * s ≤ n * s := Nat.mul_le_mul_right _ hk
    rw [Nat.add_mul, Nat.one_mul] at this
    omega
  exact ⟨_, by simp [markC, hr], marks_at K this⟩⟩⟩

section
variable {P : Program} {w0 : World} {ops : Array Oper} {nt : Nat} {env : List (Nat × AV)} {H : List HE} {rest : List Oper} {Q : Exit → Act → World → Prop} {ty : TypeId} {pos : String} {after : Array Edge}
theorem aops_mark {d : Nat} {f : FuncId} {x y z : Operand} {v : Value} {T s n : Nat} {c : Nat → List AV} {X : List Nat} {K : Int} {H' : List HE} {ts : Array TypeId} (hcan : Can P f) (hm : Marks P f T s) (hx : Opd ⟨nt, env, H⟩ x (vv (.func (.func f) #[] #[]))) (hy : Opd ⟨nt, env, H⟩ y (vv v)) (hz : Opd ⟨nt, env, H⟩ z (vv (.int .i64 K)))
    (hr : HRep H (.row v T s n c) (.row v T s n (markC s K)) H') (hf : Flat s n c X) (hn : n ≤ 1048576) (h0 : 0 ≤ K) (h1 : K ≤ 16777216) (hd : Nat.blt d nt = true)
    (k : AOps P w0 ops ⟨nt, (d, vv (.int .i64 (K + (s : Int) * n))) :: env, H'⟩ rest Q) : AOps P w0 ops ⟨nt, env, H⟩ (⟨some d, .call { callee := .value x, args := #[y, z], argTypes := ts }, ty, pos, after, none⟩ :: rest) Q := by
  refine ⟨fun a w hs => wpList_plain rfl fun KK hK => ?_⟩
  have e : a.eval x = _ := hx w0 a w hs
  have ey : a.eval y = v := hy w0 a w hs
  have ez : a.eval z = .int .i64 K := hz w0 a w hs
  unfold Oper.wp
  rw [run_call hcan x #[y, z] ts rfl a e w]
  simp only [Oper.upon, List.map_toArray, List.map_cons, List.map_nil, ey, ez]
  have hrow := hs.heap.get _ hr.mem
  have hfoot := fun g (hg : v.ownBlock = some g) => hs.heap.foot _ hr.mem g hg
  obtain ⟨lo, hi, hlh, hlo, hiw, hlow⟩ : ∃ lo hi, (∀ g, v.ownBlock = some g → lo ≤ g ∧ g < hi) ∧ (∀ g, lo ≤ g → g < hi → v.ownBlock = some g) ∧ hi ≤ w.heap.size ∧ w0.heap.size ≤ lo := by
    cases hv : v.ownBlock with
    | none => exact ⟨w0.heap.size, w0.heap.size, fun g hg => (by cases hg), fun g h2 h3 => by omega, hs.below.size, Nat.le_refl _⟩
    | some g => exact ⟨g, g + 1, fun g' hg' => by injection hg' with hg'; omega, fun g' h2 h3 => by congr 1; omega, (hfoot g hv).2, (hfoot g hv).1⟩
  refine (hm w v n X lo hi K (Ow_of_row hf hrow lo hi hlh hiw) hn h0 h1).mono fun e2 w' h => ?_
  obtain ⟨rfl, how, hon⟩ := h
  have hs0 : 0 < s := hf.1
  have hb : Below w0.heap.size w w' := hon.below hlow hs.below.size
  have hff : ∀ g, (HE.row v T s n (markC s K)).foot g → (HE.row v T s n c).foot g := fun g hg => hg
  refine hK _ _ (k.out _ _ (hs.step (dst := some d) (A := vv _) hb rfl hd (hr.ok hff hs.heap hon.size (fun g hg hng => hon.block g hg ?_) ?_)))
  · by_cases h1 : lo ≤ g ∧ g < hi
    · exact absurd (hlo g h1.1 h1.2) hng
    · omega
  · obtain ⟨xs, ho, hfl⟩ := how.own
    have ho2 : w'.ownsRow w0.heap.size T s v n xs := by
      refine ⟨ho.1, ?_⟩
      rcases ho.2 with h2 | ⟨g, cap, cur, rfl, hg, r⟩
      · exact .inl h2
      · exact .inr ⟨g, cap, cur, rfl, (hfoot g rfl).1, r⟩
    refine ⟨xs, ho2, fun j hj => ?_, hfl.one_cell⟩
    have hfm := flat_marks (n := n) hs0 K
    refine All.of_get ?_ fun r A hr2 => ?_
    · have : (j + 1) * s ≤ n * s := Nat.mul_le_mul_right _ hj
      rw [Nat.add_mul, Nat.one_mul] at this
      rw [(hfm.2.2 j hj).1, List.length_take, List.length_drop, ho.1]
      omega
    · obtain ⟨hl, hx2⟩ := hfm.2.2 j hj
      have hrs : r < s := by rw [← hl]; exact (List.getElem?_eq_some_iff.1 hr2).1
      obtain ⟨q, h3, h4⟩ := hx2 r hrs
      rw [h3] at hr2
      injection hr2 with hr2
      subst hr2
      obtain ⟨b, hb2, hfb⟩ := hfl.at_ _ _ h4
      exact ⟨_, by rw [List.getElem?_take, if_pos hrs, List.getElem?_drop]; exact hb2, b, rfl, hfb⟩
end

theorem c_lawsToPoleS {n : Nat} {F : Nat → P4} (hn : n ≤ 1048576) : Con Try.prog 27 [rs 4 n (poleC F)] (RetRow 59 4 n (poleC F) fun sv => vv sv) := con_of ⟨_, Try.func27, rfl, by kernel_rfl⟩ fun w vs h => by
  match vs, h with
  | [v], h =>
    obtain ⟨A, cap, rfl, hc, hr⟩ := Rd_of_rs (flat_pole F n) h.1
    exact (lawsToPoleS w hr hn).mono fun e w' ⟨v, he, how, hb⟩ => ⟨v, he, hb, v, (row_of_Ow (flat_pole F n) how).1, (row_of_Ow (flat_pole F n) how).2, fun _ => rfl⟩
theorem c_lawsEqPoleS {n : Nat} {F : Nat → P4} (hn : n ≤ 1048576) : Con Try.prog 29 [rs 4 n (poleC F), rs 4 n (poleC F)] (RetA (vv (.bool true))) := con_of ⟨_, Try.func29, rfl, by kernel_rfl⟩ fun w vs h => by
  match vs, h with
  | [v, u], h =>
    obtain ⟨A, cap, rfl, hc, hr⟩ := Rd_of_rs (flat_pole F n) h.1
    obtain ⟨A2, cap2, rfl, hc2, hr2⟩ := Rd_of_rs (flat_pole F n) h.2.1
    exact (lawsEqPoleS w hr hr2 (by simp [maxLen]; omega)).mono fun e w' ⟨he, hb⟩ => ⟨_, he, hb, fun _ => rfl⟩
theorem c_lawsSzPoleS {n : Nat} {c : Nat → List AV} {L : Int} (hn : n ≤ maxLen) (h0 : 0 ≤ L) (h1 : L ≤ 1048576) (hL : (n : Int) ≤ L) : Con Try.prog 25 [rs 4 n c, vv (.int .i64 L)] (RetA (vv (.int .i64 (L - n)))) := con_of ⟨_, Try.func25, rfl, by kernel_rfl⟩ fun w vs h => by
  match vs, h with
  | [v, u], h =>
    obtain ⟨A, cap, rfl, _⟩ := h.1
    obtain rfl : u = _ := h.2.1
    exact (lawsSzPoleS w h0 h1 hn hL).mono fun e w' ⟨he, hw⟩ => ⟨_, he, hw ▸ Below.refl _ _, fun _ => rfl⟩
theorem c_lawsSzPoleS_no {n : Nat} {c : Nat → List AV} {L : Int} (hn : n ≤ maxLen) (h0 : 0 ≤ L) (h1 : L ≤ 1048576) (hL : L < (n : Int)) : Con Try.prog 25 [rs 4 n c, vv (.int .i64 L)] (RetA (vv (.int .i64 (-1)))) := con_of ⟨_, Try.func25, rfl, by kernel_rfl⟩ fun w vs h => by
  match vs, h with
  | [v, u], h =>
    obtain ⟨A, cap, rfl, _⟩ := h.1
    obtain rfl : u = _ := h.2.1
    exact (lawsSzPoleS_no w h0 h1 hn hL).mono fun e w' ⟨he, hw⟩ => ⟨_, he, hw ▸ Below.refl _ _, fun _ => rfl⟩
theorem c_lawsHeldPoleS {n : Nat} {K : Int} (hn : n ≤ 1048576) (h0 : 0 ≤ K) (h1 : K ≤ 16777216) : Con Try.prog 33 [rs 4 n (markC 4 K), vv (.int .i64 K)] (RetA (vv (.int .i64 (K + (4 : Int) * n)))) := con_of ⟨_, Try.func33, rfl, by kernel_rfl⟩ fun w vs h => by
  match vs, h with
  | [v, u], h =>
    obtain ⟨A, cap, rfl, hc, hr⟩ := Rd_of_rs (flat_marks (n := n) (by omega) K) h.1
    obtain rfl : u = _ := h.2.1
    exact (lawsHeldPoleS w hr hn h0 h1).mono fun e w' ⟨he, hw⟩ => ⟨_, he, hw ▸ Below.refl _ _, fun _ => rfl⟩
theorem m_PoleS : Marks Try.prog 32 59 4 := fun w v n X lo hi K ho hn h0 h1 => lawsMarkPoleS w ho hn h0 h1
theorem can_markPoleS : Can Try.prog 32 := ⟨_, Try.func32, rfl, by kernel_rfl⟩
theorem c_lawsToVectorS {n : Nat} {F : Nat → V3} (hn : n ≤ 1048576) : Con Try.prog 59 [rs 3 n (vecC F)] (RetRow 28 3 n (vecC F) fun sv => vv sv) := con_of ⟨_, Try.func59, rfl, by kernel_rfl⟩ fun w vs h => by
  match vs, h with
  | [v], h =>
    obtain ⟨A, cap, rfl, hc, hr⟩ := Rd_of_rs (flat_vec F n) h.1
    exact (lawsToVectorS w hr hn).mono fun e w' ⟨v, he, how, hb⟩ => ⟨v, he, hb, v, (row_of_Ow (flat_vec F n) how).1, (row_of_Ow (flat_vec F n) how).2, fun _ => rfl⟩
theorem c_lawsEqVectorS {n : Nat} {F : Nat → V3} (hn : n ≤ 1048576) : Con Try.prog 54 [rs 3 n (vecC F), rs 3 n (vecC F)] (RetA (vv (.bool true))) := con_of ⟨_, Try.func54, rfl, by kernel_rfl⟩ fun w vs h => by
  match vs, h with
  | [v, u], h =>
    obtain ⟨A, cap, rfl, hc, hr⟩ := Rd_of_rs (flat_vec F n) h.1
    obtain ⟨A2, cap2, rfl, hc2, hr2⟩ := Rd_of_rs (flat_vec F n) h.2.1
    exact (lawsEqVectorS w hr hr2 (by simp [maxLen]; omega)).mono fun e w' ⟨he, hb⟩ => ⟨_, he, hb, fun _ => rfl⟩
theorem c_lawsSzVectorS {n : Nat} {c : Nat → List AV} {L : Int} (hn : n ≤ maxLen) (h0 : 0 ≤ L) (h1 : L ≤ 1048576) (hL : (n : Int) ≤ L) : Con Try.prog 57 [rs 3 n c, vv (.int .i64 L)] (RetA (vv (.int .i64 (L - n)))) := con_of ⟨_, Try.func57, rfl, by kernel_rfl⟩ fun w vs h => by
  match vs, h with
  | [v, u], h =>
    obtain ⟨A, cap, rfl, _⟩ := h.1
    obtain rfl : u = _ := h.2.1
    exact (lawsSzVectorS w h0 h1 hn hL).mono fun e w' ⟨he, hw⟩ => ⟨_, he, hw ▸ Below.refl _ _, fun _ => rfl⟩
theorem c_lawsSzVectorS_no {n : Nat} {c : Nat → List AV} {L : Int} (hn : n ≤ maxLen) (h0 : 0 ≤ L) (h1 : L ≤ 1048576) (hL : L < (n : Int)) : Con Try.prog 57 [rs 3 n c, vv (.int .i64 L)] (RetA (vv (.int .i64 (-1)))) := con_of ⟨_, Try.func57, rfl, by kernel_rfl⟩ fun w vs h => by
  match vs, h with
  | [v, u], h =>
    obtain ⟨A, cap, rfl, _⟩ := h.1
    obtain rfl : u = _ := h.2.1
    exact (lawsSzVectorS_no w h0 h1 hn hL).mono fun e w' ⟨he, hw⟩ => ⟨_, he, hw ▸ Below.refl _ _, fun _ => rfl⟩
theorem c_lawsHeldVectorS {n : Nat} {K : Int} (hn : n ≤ 1048576) (h0 : 0 ≤ K) (h1 : K ≤ 16777216) : Con Try.prog 56 [rs 3 n (markC 3 K), vv (.int .i64 K)] (RetA (vv (.int .i64 (K + (3 : Int) * n)))) := con_of ⟨_, Try.func56, rfl, by kernel_rfl⟩ fun w vs h => by
  match vs, h with
  | [v, u], h =>
    obtain ⟨A, cap, rfl, hc, hr⟩ := Rd_of_rs (flat_marks (n := n) (by omega) K) h.1
    obtain rfl : u = _ := h.2.1
    exact (lawsHeldVectorS w hr hn h0 h1).mono fun e w' ⟨he, hw⟩ => ⟨_, he, hw ▸ Below.refl _ _, fun _ => rfl⟩
theorem m_VectorS : Marks Try.prog 55 28 3 := fun w v n X lo hi K ho hn h0 h1 => lawsMarkVectorS w ho hn h0 h1
theorem can_markVectorS : Can Try.prog 55 := ⟨_, Try.func55, rfl, by kernel_rfl⟩

theorem c_lawsToVector {A : V3} : Con Try.prog 19 [vec A] (RetA (vec A)) := con_of ⟨_, Try.func19, rfl, by kernel_rfl⟩ fun w vs h => by
  match vs, h with
  | [a], h => exact (lawsToVector w (vec_Vb.1 h.1)).mono fun e w' ⟨v, he, hv, hb⟩ => ⟨v, he, hb, fun wx => vec_Vb.2 hv⟩
theorem c_lawsEqVector {A : V3} : Con Try.prog 24 [vec A, vec A] (RetA (vv (.bool true))) := con_of ⟨_, Try.func24, rfl, by kernel_rfl⟩ fun w vs h => by
  match vs, h with
  | [a, b], h => exact (lawsEqVector w (vec_Vb.1 h.1) (vec_Vb.1 h.2.1)).mono fun e w' ⟨he, hb⟩ => ⟨_, he, hb, fun wx => rfl⟩
theorem c_lawsSameFloat {X : Nat} : Con Try.prog 21 [fl .f64 X, fl .f64 X] (RetA (vv (.bool true))) := con_of ⟨_, Try.func21, rfl, by kernel_rfl⟩ fun w vs h => by
  match vs, h with
  | [a, b], h =>
    obtain ⟨x, rfl, hx⟩ := h.1
    obtain ⟨y, rfl, hy⟩ := h.2.1
    exact (lawsSameFloat w hx hy).mono fun e w' ⟨he, hb⟩ => ⟨_, he, hb, fun wx => rfl⟩

/-- A law that returns true, in the form of the given statement's walk. -/
theorem law_of {P : Program} {f : FuncId} {As : List AV} (h : Con P f As (RetA (vv (.bool true)))) {w : World} {vs : List Value} (hv : All w As vs) : Calls P f vs.toArray w (RetB true w) :=
  (h.2 w vs hv).mono fun e w' ⟨v, he, hb, hq⟩ => ⟨by obtain rfl : v = _ := hq w; exact he, hb⟩
end Go.Proofs.Ythnlpbfheefldaa
