/-
  Slices of any elements opened; slices of relays and of bools. Conditions: none.
-/
import Derived.Test.YtejpamlaacffaaaOq
import Derived.Test.YtejpamlaacffaaaBD
namespace Go.Proofs.Ytejpamlaacffaaa
open Go Go.RowKit Go.ChangeShapes Go.WideShapes
set_option maxRecDepth 100000

theorem rs_conv {s n : Nat} {c c' : Nat → List AV} {w : World} {v : Value} (hc : ∀ k, k < n → c k = c' k) (h : (rs s n c).R w v) : (rs s n c').R w v := by
  obtain ⟨a, cap, e, hn, h⟩ := h
  refine ⟨a, cap, e, hn, fun h0 => ?_⟩
  obtain ⟨b, p, e2, h2⟩ := h h0
  exact ⟨b, p, e2, fun k hk => by rw [← hc k hk]; exact h2 k hk⟩
section
variable {H : Type} {enc : TypeId × Value → H} {P : Program} {w : World} {base : Nat} {spare : Nat → Bool} {held : Bool}
/-- What the cells of a type stand for. -/
def Opens (enc : TypeId × Value → H) (P : Program) (w : World) (base : Nat) (spare : Nat → Bool) (held : Bool) (t s : Nat) (S : List AV → Prop) : Prop :=
  ∀ {fuel : Nat} {cs : List Value} {x : DataW H × List MemPlace}, DataW.trod enc P w base spare held fuel t cs = some x → ∃ l : List AV, l.length = s ∧ S l ∧ All w l cs ∧ ∀ u ∈ cs, u.oneCell' = true
theorem cells_slice {t e s : Nat} {S : List AV → Prop} (ht : P.underlying t = some (.slice e)) (hC : P.cellsOf e = s) (hs : 0 < s) (hel : Opens enc P w base spare held e s S) :
    Opens enc P w base spare held t 1 fun l => ∃ n c, n ≤ maxLen ∧ (∀ k, k < n → S (c k)) ∧ l = [rs s n c] := by
  intro fuel cs x hf
  rcases Go.Deep.open_slice ht hf with ⟨e, _⟩ | ⟨a, len, cap, m, n2, D, Pl, e, _, hl, hm, hmm, _, hx⟩
  · have e' : cs = [Value.slice none 0 0] := e
    subst e'
    exact ⟨[rs s 0 fun _ => []], rfl, ⟨0, _, by simp [maxLen], fun k hk => absurd hk (by omega), rfl⟩, ⟨⟨none, 0, rfl, Nat.le_refl _, fun h => absurd h (by omega)⟩, trivial⟩, fun u hu => by simp at hu; subst hu; rfl⟩
  · have e' : cs = [Value.slice (some a) len cap] := e
    subst e'
    have hmn : len ≤ m := by rw [hmm]; split <;> omega
    have hch : ∀ k, k < len → ∃ l : List AV, S l ∧ ∃ cs' : List Value, cs'.length = s ∧ (∀ j, j < s → w.cell? ((a.add (k * s)).add j) = cs'[j]?) ∧ All w l cs' ∧ ∀ u ∈ cs', u.oneCell' = true := fun k hk => by
      obtain ⟨cs', h1, h2⟩ := hx k (by omega)
      rw [hC] at h1
      obtain ⟨_, hlen, hat⟩ := World.cells?_some h1
      obtain ⟨l, hll, hS, hall, h1c⟩ := hel h2
      exact ⟨l, hS, cs', by rw [hall.length, hll], fun j hj => hat j hj, hall, h1c⟩
    let c : Nat → List AV := fun k => if hk : k < len then Classical.choose (hch k hk) else []
    have hc : ∀ k, k < len → S (c k) ∧ ∃ cs' : List Value, cs'.length = s ∧ (∀ j, j < s → w.cell? ((a.add (k * s)).add j) = cs'[j]?) ∧ All w (c k) cs' ∧ ∀ u ∈ cs', u.oneCell' = true := fun k hk => by
      have := Classical.choose_spec (hch k hk)
      simp only [c, dif_pos hk]
      exact this
    refine ⟨[rs s len c], rfl, ⟨len, c, by omega, fun k hk => (hc k hk).1, rfl⟩, ⟨⟨some a, cap, rfl, hl, fun h0 => ?_⟩, trivial⟩, fun u hu => by simp at hu; subst hu; rfl⟩
    obtain ⟨b, o, sp⟩ := a
    have hsp : sp = none := by
      obtain ⟨_, cs', hl', hat, _⟩ := hc 0 h0
      have h0' := hat 0 hs
      rw [List.getElem?_eq_getElem (by omega)] at h0'
      rw [Nat.zero_mul] at h0'
      exact World.cell?_spot (by simpa [Addr.add] using h0')
    subst hsp
    refine ⟨b, o, rfl, fun k hk => ?_⟩
    obtain ⟨_, cs', hl', hat, hall, h1c⟩ := hc k hk
    have hcell : ∀ j, j < s → w.cell? ⟨b, o + k * s + j, none⟩ = cs'[j]? := fun j hj => by
      have := hat j hj
      rw [add_lit, add_lit] at this
      exact this
    refine ⟨?_, fun j A hj => ?_⟩
    · rcases Nat.lt_or_ge b w.heap.size with hlt | hge
      · exact hlt
      · have h2 := hcell 0 hs
        rw [List.getElem?_eq_getElem (by omega)] at h2
        have : w.cell? ⟨b, o + k * s + 0, none⟩ = none := by simp [World.cell?, hge]
        rw [this] at h2
        cases h2
    · obtain ⟨u, hu, hr⟩ := hall.get hj
      have hjs : j < s := by rw [← hl']; exact (List.getElem?_eq_some_iff.1 hu).1
      exact ⟨u, by rw [hcell j hjs, hu], hr, h1c u (List.mem_of_getElem? hu)⟩
theorem open_one {t : Nat} {v : Value} {d : DataW H} {p : List MemPlace} {S : List AV → Prop} (h : Opens enc P w base spare held t 1 S) (hc : v.cells = #[v]) (ht : DataW.Trod enc P w base spare held t v d p) : ∃ A, S [A] ∧ A.R w v := by
  obtain ⟨fuel, hf⟩ := ht
  obtain ⟨l, hl, hS, hall, _⟩ := h hf
  match l, hl with
  | [A], _ =>
    refine ⟨A, hS, ?_⟩
    have e : (Value.cells v).toList = [v] := by rw [hc]
    rw [e] at hall
    exact hall.1
end
section
variable {H : Type} {enc : TypeId × Value → H} {w : World} {base : Nat} {spare : Nat → Bool} {held : Bool} {r : Reach} {b0 : Nat} {v : Value} {d : DataW H} {p : List MemPlace}
end
end Go.Proofs.Ytejpamlaacffaaa
