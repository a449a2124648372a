/-
  The helpers of the laws over slices of structs, in the abstract form. Conditions: none.
-/
import Derived.Test.YtjkpnnbahhlopaaBr
import Derived.Test.YtjkpnnbahhlopaaVecS
import Derived.Test.YtjkpnnbahhlopaaPoleS
namespace Go.Proofs.Ytjkpnnbahhlopaa
open Go Go.RowKit

theorem c_lawsToVectorS {n : Nat} {F : Nat → V3} (hn : n ≤ 1048576) : Con Try.prog 22 [rs 3 n (vecC F)] (RetRow 26 3 n (vecC F) fun sv => vv sv) := con_of ⟨_, Try.func22, rfl, by kernel_rfl⟩ fun w vs h => by
  match vs, h with
  | [v], h =>
    obtain ⟨A, cap, rfl, hc, hr⟩ := Rd_of_rs (flat_vec F n) h.1
    exact (lawsToVectorS w hr hn).mono fun e w' ⟨v, he, how, hb⟩ => ⟨v, he, hb, v, (row_of_Ow (flat_vec F n) how).1, (row_of_Ow (flat_vec F n) how).2, fun _ => rfl⟩
theorem c_lawsEqVectorS {n : Nat} {F : Nat → V3} (hn : n ≤ 1048576) : Con Try.prog 29 [rs 3 n (vecC F), rs 3 n (vecC F)] (RetA (vv (.bool true))) := con_of ⟨_, Try.func29, rfl, by kernel_rfl⟩ fun w vs h => by
  match vs, h with
  | [v, u], h =>
    obtain ⟨A, cap, rfl, hc, hr⟩ := Rd_of_rs (flat_vec F n) h.1
    obtain ⟨A2, cap2, rfl, hc2, hr2⟩ := Rd_of_rs (flat_vec F n) h.2.1
    exact (lawsEqVectorS w hr hr2 (by simp [maxLen]; omega)).mono fun e w' ⟨he, hb⟩ => ⟨_, he, hb, fun _ => rfl⟩
theorem c_lawsSzVectorS {n : Nat} {c : Nat → List AV} {L : Int} (hn : n ≤ maxLen) (h0 : 0 ≤ L) (h1 : L ≤ 1048576) (hL : (n : Int) ≤ L) : Con Try.prog 18 [rs 3 n c, vv (.int .i64 L)] (RetA (vv (.int .i64 (L - n)))) := con_of ⟨_, Try.func18, rfl, by kernel_rfl⟩ fun w vs h => by
  match vs, h with
  | [v, u], h =>
    obtain ⟨A, cap, rfl, _⟩ := h.1
    obtain rfl : u = _ := h.2.1
    exact (lawsSzVectorS w h0 h1 hn hL).mono fun e w' ⟨he, hw⟩ => ⟨_, he, hw ▸ Below.refl _ _, fun _ => rfl⟩
theorem c_lawsSzVectorS_no {n : Nat} {c : Nat → List AV} {L : Int} (hn : n ≤ maxLen) (h0 : 0 ≤ L) (h1 : L ≤ 1048576) (hL : L < (n : Int)) : Con Try.prog 18 [rs 3 n c, vv (.int .i64 L)] (RetA (vv (.int .i64 (-1)))) := con_of ⟨_, Try.func18, rfl, by kernel_rfl⟩ fun w vs h => by
  match vs, h with
  | [v, u], h =>
    obtain ⟨A, cap, rfl, _⟩ := h.1
    obtain rfl : u = _ := h.2.1
    exact (lawsSzVectorS_no w h0 h1 hn hL).mono fun e w' ⟨he, hw⟩ => ⟨_, he, hw ▸ Below.refl _ _, fun _ => rfl⟩
theorem c_lawsHeldVectorS {n : Nat} {K : Int} (hn : n ≤ 1048576) (h0 : 0 ≤ K) (h1 : K ≤ 16777216) : Con Try.prog 31 [rs 3 n (markC 3 K), vv (.int .i64 K)] (RetA (vv (.int .i64 (K + (3 : Int) * n)))) := con_of ⟨_, Try.func31, rfl, by kernel_rfl⟩ fun w vs h => by
  match vs, h with
  | [v, u], h =>
    obtain ⟨A, cap, rfl, hc, hr⟩ := Rd_of_rs (flat_marks (n := n) (by omega) K) h.1
    obtain rfl : u = _ := h.2.1
    exact (lawsHeldVectorS w hr hn h0 h1).mono fun e w' ⟨he, hw⟩ => ⟨_, he, hw ▸ Below.refl _ _, fun _ => rfl⟩
theorem m_VectorS : Marks Try.prog 30 26 3 := fun w v n X lo hi K ho hn h0 h1 => lawsMarkVectorS w ho hn h0 h1
theorem can_markVectorS : Can Try.prog 30 := ⟨_, Try.func30, rfl, by kernel_rfl⟩

theorem c_lawsToVector {A : V3} : Con Try.prog 6 [vec A] (RetA (vec A)) := con_of ⟨_, Try.func6, rfl, by kernel_rfl⟩ fun w vs h => by
  match vs, h with
  | [a], h => exact (lawsToVector w (vec_Vb.1 h.1)).mono fun e w' ⟨v, he, hv, hb⟩ => ⟨v, he, hb, fun wx => vec_Vb.2 hv⟩
theorem c_lawsEqVector {A : V3} : Con Try.prog 28 [vec A, vec A] (RetA (vv (.bool true))) := con_of ⟨_, Try.func28, rfl, by kernel_rfl⟩ fun w vs h => by
  match vs, h with
  | [a, b], h => exact (lawsEqVector w (vec_Vb.1 h.1) (vec_Vb.1 h.2.1)).mono fun e w' ⟨he, hb⟩ => ⟨_, he, hb, fun wx => rfl⟩
theorem c_lawsSameFloat {X : Nat} : Con Try.prog 8 [fl .f64 X, fl .f64 X] (RetA (vv (.bool true))) := con_of ⟨_, Try.func8, rfl, by kernel_rfl⟩ fun w vs h => by
  match vs, h with
  | [a, b], h =>
    obtain ⟨x, rfl, hx⟩ := h.1
    obtain ⟨y, rfl, hy⟩ := h.2.1
    exact (lawsSameFloat w hx hy).mono fun e w' ⟨he, hb⟩ => ⟨_, he, hb, fun wx => rfl⟩

/-- A law that returns true, in the form of the given statement's walk. -/
theorem law_of {P : Program} {f : FuncId} {As : List AV} (h : Con P f As (RetA (vv (.bool true)))) {w : World} {vs : List Value} (hv : All w As vs) : Calls P f vs.toArray w (RetB true w) :=
  (h.2 w vs hv).mono fun e w' ⟨v, he, hb, hq⟩ => ⟨by obtain rfl : v = _ := hq w; exact he, hb⟩
end Go.Proofs.Ytjkpnnbahhlopaa
