/-
  Slices of structs of floats: from the flat readings to the abstract ones and back. Conditions: none.
-/
import Derived.Test.YthnlpbfheefldaaTy
import Derived.Test.YthnlpbfheefldaaApp
namespace Go.Proofs.Ythnlpbfheefldaa
open Go Go.RowKit

/-- The content c of n elements of s floats reads flat as X. -/
def Flat (s n : Nat) (c : Nat → List AV) (X : List Nat) : Prop := 0 < s ∧ X.length = n * s ∧ ∀ k, k < n → (c k).length = s ∧ ∀ r, r < s → ∃ x, (c k)[r]? = some (fl .f32 x) ∧ X[k * s + r]? = some x

theorem Flat.at_ {s n : Nat} {c : Nat → List AV} {X : List Nat} (h : Flat s n c X) {j x : Nat} (hj : X[j]? = some x) : j / s < n ∧ (c (j / s))[j % s]? = some (fl .f32 x) := by
  have hjl : j < X.length := (List.getElem?_eq_some_iff.1 hj).1
  rw [h.2.1] at hjl
  have hk : j / s < n := by rw [Nat.div_lt_iff_lt_mul h.1]; exact hjl
  obtain ⟨_, hr⟩ := h.2.2 (j / s) hk
  obtain ⟨y, h1, h2⟩ := hr (j % s) (Nat.mod_lt _ h.1)
  rw [Nat.div_add_mod' j s, hj] at h2
  injection h2 with h2
  subst h2
  exact ⟨hk, h1⟩
theorem Rd_of_rs {w : World} {s n : Nat} {c : Nat → List AV} {X : List Nat} {v : Value} (hf : Flat s n c X) (h : (rs s n c).R w v) : ∃ A cap, v = .slice A n cap ∧ n ≤ cap ∧ Rd w w.heap.size s A n X := by
  obtain ⟨A, cap, rfl, hc, hh⟩ := h
  refine ⟨A, cap, rfl, hc, hf.2.1, fun hn => ?_⟩
  obtain ⟨b, p, rfl, hl⟩ := hh hn
  refine ⟨b, p, rfl, (hl 0 hn).1, fun j x hj => ?_⟩
  obtain ⟨hk, hc⟩ := hf.at_ hj
  obtain ⟨u, hu, ⟨q, rfl, hq⟩, _⟩ := (hl _ hk).2 _ _ hc
  rw [Nat.add_assoc, Nat.div_add_mod' j s] at hu
  exact ⟨q, hu, hq⟩
theorem rs_of_Rd {w : World} {s n cap : Nat} {c : Nat → List AV} {X : List Nat} {A : Option Addr} (hf : Flat s n c X) (h : Rd w w.heap.size s A n X) (hc : n ≤ cap) : (rs s n c).R w (.slice A n cap) := by
  refine ⟨A, cap, rfl, hc, fun hn => ?_⟩
  obtain ⟨b, o, rfl, hb, hh⟩ := h.adr hn
  refine ⟨b, o, rfl, fun k hk => ⟨hb, fun r B hr => ?_⟩⟩
  obtain ⟨hl, hx⟩ := hf.2.2 k hk
  have hrs : r < s := by rw [← hl]; exact (List.getElem?_eq_some_iff.1 hr).1
  obtain ⟨x, h1, h2⟩ := hx r hrs
  rw [h1] at hr
  injection hr with hr
  subst hr
  obtain ⟨u, hu, hfu⟩ := hh _ _ h2
  rw [← Nat.add_assoc] at hu
  exact ⟨_, hu, ⟨u, rfl, hfu⟩, rfl⟩
theorem row_of_Ow {w w' : World} {s n T hi : Nat} {c : Nat → List AV} {X : List Nat} {v : Value} (hf : Flat s n c X) (h : Ow w' w.heap.size hi T s v n X) : (HE.row v T s n c).ok w w' ∧ ∀ g, v.ownBlock = some g → w.heap.size ≤ g ∧ g < w'.heap.size := by
  obtain ⟨xs, h1, h2⟩ := h.own
  refine ⟨⟨xs, h1, fun k hk => All.of_get ?_ fun r A hr => ?_, h2.one_cell⟩, fun g hg => ⟨(World.ownsRow.lt h1 g hg).1, (World.ownsRow.lt h1 g hg).2⟩⟩
  · have hks : k * s + s ≤ n * s := by
      have : (k + 1) * s ≤ n * s := Nat.mul_le_mul_right _ hk
      rw [Nat.add_mul, Nat.one_mul] at this
      exact this
    rw [(hf.2.2 k hk).1, List.length_take, List.length_drop, h1.1]
    omega
  · obtain ⟨hl, hx⟩ := hf.2.2 k hk
    have hrs : r < s := by rw [← hl]; exact (List.getElem?_eq_some_iff.1 hr).1
    obtain ⟨x, h3, h4⟩ := hx r hrs
    rw [h3] at hr
    injection hr with hr
    subst hr
    obtain ⟨b, hb, hfb⟩ := h2.at_ _ _ h4
    exact ⟨_, by rw [List.getElem?_take, if_pos hrs, List.getElem?_drop]; exact hb, b, rfl, hfb⟩
theorem Ow_of_row {w0 w : World} {s n T : Nat} {c : Nat → List AV} {X : List Nat} {v : Value} (hf : Flat s n c X) (h : (HE.row v T s n c).ok w0 w) (lo hi : Nat) (hlo : ∀ g, v.ownBlock = some g → lo ≤ g ∧ g < hi) (hw : hi ≤ w.heap.size) : Ow w lo hi T s v n X := by
  obtain ⟨xs, ⟨hlen, h1⟩, h2, h3⟩ := h
  refine ⟨⟨xs, ⟨hlen, ?_⟩, ⟨by rw [hlen, hf.2.1], fun j x hj => ?_⟩⟩, fun g hg => (hlo g hg).2, hw⟩
  · rcases h1 with h1 | ⟨g, cap, cur, rfl, hg, r⟩
    · exact .inl h1
    · exact .inr ⟨g, cap, cur, rfl, (hlo g rfl).1, r⟩
  · obtain ⟨hk, hc⟩ := hf.at_ hj
    obtain ⟨u, hu, q, rfl, hq⟩ := (h2 _ hk).get hc
    rw [List.getElem?_take] at hu
    split at hu
    · rw [List.getElem?_drop, Nat.div_add_mod' j s] at hu
      exact ⟨q, hu, hq⟩
    · cases hu
theorem row_conv {w0 w : World} {s n T : Nat} {c c' : Nat → List AV} {v : Value} (h : (HE.row v T s n c).ok w0 w) (hc : ∀ k, k < n → c k = c' k) : (HE.row v T s n c').ok w0 w := by
  obtain ⟨xs, h1, h2, h3⟩ := h
  exact ⟨xs, h1, fun k hk => by rw [← hc k hk]; exact h2 k hk, h3⟩

def poleC (X : Nat → P4) (k : Nat) : List AV := [fl .f32 (X k).at_.x, fl .f32 (X k).at_.y, fl .f32 (X k).at_.z, fl .f32 (X k).s]
def vecC (X : Nat → V3) (k : Nat) : List AV := [fl .f32 (X k).x, fl .f32 (X k).y, fl .f32 (X k).z]

theorem mapTo_len (F : Nat → V3) (n : Nat) : (mapTo F n).length = n * 3 := by
  induction n with
  | zero => rfl
  | succ n ih => rw [mapTo_succ, List.length_append, ih]; simp; omega
theorem mapToP_len (F : Nat → P4) (n : Nat) : (mapToP F n).length = n * 4 := by
  induction n with
  | zero => rfl
  | succ n ih => rw [mapToP_succ, List.length_append, ih]; simp; omega
theorem mapTo_at (F : Nat → V3) {n k : Nat} (hk : k < n) : ∀ r, r < 3 → (mapTo F n)[k * 3 + r]? = [(F k).x, (F k).y, (F k).z][r]? := by
  induction n with
  | zero => omega
  | succ n ih =>
    intro r hr
    rw [mapTo_succ]
    by_cases h : k < n
    · rw [List.getElem?_append_left (by rw [mapTo_len]; omega)]
      exact ih h r hr
    · obtain rfl : k = n := by omega
      rw [List.getElem?_append_right (by rw [mapTo_len]; omega), mapTo_len]
      congr 1
      omega
theorem mapToP_at (F : Nat → P4) {n k : Nat} (hk : k < n) : ∀ r, r < 4 → (mapToP F n)[k * 4 + r]? = [(F k).at_.x, (F k).at_.y, (F k).at_.z, (F k).s][r]? := by
  induction n with
  | zero => omega
  | succ n ih =>
    intro r hr
    rw [mapToP_succ]
    by_cases h : k < n
    · rw [List.getElem?_append_left (by rw [mapToP_len]; omega)]
      exact ih h r hr
    · obtain rfl : k = n := by omega
      rw [List.getElem?_append_right (by rw [mapToP_len]; omega), mapToP_len]
      congr 1
      omega
theorem flat_vec (F : Nat → V3) (n : Nat) : Flat 3 n (vecC F) (mapTo F n) := ⟨by omega, mapTo_len F n, fun k hk => ⟨rfl, fun r hr => by
  rw [mapTo_at F hk r hr]
  match r, hr with
  | 0, _ => exact ⟨_, rfl, rfl⟩
  | 1, _ => exact ⟨_, rfl, rfl⟩
  | 2, _ => exact ⟨_, rfl, rfl⟩⟩⟩
theorem flat_pole (F : Nat → P4) (n : Nat) : Flat 4 n (poleC F) (mapToP F n) := ⟨by omega, mapToP_len F n, fun k hk => ⟨rfl, fun r hr => by
  rw [mapToP_at F hk r hr]
  match r, hr with
  | 0, _ => exact ⟨_, rfl, rfl⟩
  | 1, _ => exact ⟨_, rfl, rfl⟩
  | 2, _ => exact ⟨_, rfl, rfl⟩
  | 3, _ => exact ⟨_, rfl, rfl⟩⟩⟩
theorem getD_some {X : List Nat} {j : Nat} (h : j < X.length) : X[j]? = some (X.getD j 0) := by
  rw [List.getD_eq_getElem?_getD, List.getElem?_eq_getElem h]
  rfl
theorem flat_vecL {X : List Nat} {n : Nat} (h : X.length = n * 3) : Flat 3 n (vecC (v3at X)) X := ⟨by omega, h, fun k hk => ⟨rfl, fun r hr => by
  match r, hr with
  | 0, _ => exact ⟨_, rfl, getD_some (by omega)⟩
  | 1, _ => exact ⟨_, rfl, getD_some (by omega)⟩
  | 2, _ => exact ⟨_, rfl, getD_some (by omega)⟩⟩⟩
theorem flat_poleL {X : List Nat} {n : Nat} (h : X.length = n * 4) : Flat 4 n (poleC (p4at X)) X := ⟨by omega, h, fun k hk => ⟨rfl, fun r hr => by
  match r, hr with
  | 0, _ => exact ⟨_, rfl, getD_some (by omega)⟩
  | 1, _ => exact ⟨_, rfl, getD_some (by omega)⟩
  | 2, _ => exact ⟨_, rfl, getD_some (by omega)⟩
  | 3, _ => exact ⟨_, rfl, getD_some (by omega)⟩⟩⟩
end Go.Proofs.Ythnlpbfheefldaa
