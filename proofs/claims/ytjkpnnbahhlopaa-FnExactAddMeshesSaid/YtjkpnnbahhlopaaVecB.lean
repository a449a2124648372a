/-
  Contracts of the square root, of lengths, of comparisons of floats and vectors. Conditions: none.
-/
import Derived.Test.YtjkpnnbahhlopaaVecA
import Derived.Test.YtjkpnnbahhlopaaRoot
namespace Go.Proofs.Ytjkpnnbahhlopaa
open Go Go.RowKit
set_option maxRecDepth 100000
attribute [local go_sem] run_store_float

theorem order_self {k : FloatKind} {X : Nat} (h : isNan k X = false) : k.format.order X X = some .eq := by
  unfold isNan at h
  unfold Ieee.Format.order
  cases he : k.format.read X with
  | nan s t => rw [he] at h; cases h
  | infinity s => cases s <;> rfl
  | number s m e => simp [Ieee.Datum.order]

set_option maxHeartbeats 400000 in
theorem lawsSameFloat {X x y : Nat} (w : World) (hx : Fb .f64 X x) (hy : Fb .f64 X y) : Calls Try.prog 8 #[.float .f64 x, .float .f64 y] w (RetB true w) := by
  by_cases hn : isNan .f64 X = true
  · have h1 : FloatKind.f64.format.order x x = none := order_nan_left (by rw [hx.nan]; exact hn)
    have h2 : FloatKind.f64.format.order y y = none := order_nan_left (by rw [hy.nan]; exact hn)
    clear hx hy hn
    go_enter Try.func8, Try.ntmps8
    go_wp2
    go_ret
    exact ⟨rfl, by (repeat (first | with_reducible exact Below.refl _ _ | with_reducible refine below_drewN ?_ _ | with_reducible refine Below.drew ?_ | with_reducible refine Below.alloc ?_ (by first | (simp; done) | omega | (simp; omega)) _ | with_reducible refine Below.setCell ?_ (by first | (simp; done) | omega | (simp; omega)) _ | with_reducible refine Below.trans ?_ (Below.mono (by assumption) (by first | (simp; done) | omega | (simp; omega)))))⟩
  · have hn : isNan .f64 X = false := by simpa using hn
    have e1 : x = X := by rw [← hx.can]; exact (can_num (by rw [hx.nan]; exact hn)).symm
    have e2 : y = X := by rw [← hy.can]; exact (can_num (by rw [hy.nan]; exact hn)).symm
    subst e1
    subst e2
    have h1 := order_self hn
    clear hn hy
    by_cases hz : (FloatKind.f64.format.order y 0 == some .eq) = true
    · go_enter Try.func8, Try.ntmps8
      go_wp2_with (first | (refine wpList_fop _ rfl (op := .quo) rfl rfl rfl rfl (by (first | assumption | exact Fb_const (by decide +kernel) | exact Fb_ofInt _ _)) (by (first | assumption | exact Fb_const (by decide +kernel) | exact Fb_ofInt _ _)) ?_; intro r n hr) | (refine wpList_fcmp _ rfl (c := .gtr) rfl rfl rfl rfl (by (first | assumption | exact Fb_const (by decide +kernel) | exact Fb_ofInt _ _)) (by (first | assumption | exact Fb_const (by decide +kernel) | exact Fb_ofInt _ _)) ?_))
      go_ret
      exact ⟨rfl, by (repeat (first | with_reducible exact Below.refl _ _ | with_reducible refine below_drewN ?_ _ | with_reducible refine Below.drew ?_ | with_reducible refine Below.alloc ?_ (by first | (simp; done) | omega | (simp; omega)) _ | with_reducible refine Below.setCell ?_ (by first | (simp; done) | omega | (simp; omega)) _ | with_reducible refine Below.trans ?_ (Below.mono (by assumption) (by first | (simp; done) | omega | (simp; omega)))))⟩
    · have hz : (FloatKind.f64.format.order y 0 == some .eq) = false := by simpa using hz
      go_enter Try.func8, Try.ntmps8
      go_wp2
      go_ret
      exact ⟨rfl, by (repeat (first | with_reducible exact Below.refl _ _ | with_reducible refine below_drewN ?_ _ | with_reducible refine Below.drew ?_ | with_reducible refine Below.alloc ?_ (by first | (simp; done) | omega | (simp; omega)) _ | with_reducible refine Below.setCell ?_ (by first | (simp; done) | omega | (simp; omega)) _ | with_reducible refine Below.trans ?_ (Below.mono (by assumption) (by first | (simp; done) | omega | (simp; omega)))))⟩

set_option maxHeartbeats 400000 in
theorem lawsToVector {A : V3} {a : Value} (w : World) (ha : Vb A a) : Calls Try.prog 6 #[a] w (RetV A w) := by
  obtain ⟨x, y, z, rfl, hx, hy, hz⟩ := ha
  go_enter Try.func6, Try.ntmps6
  go_wp2_with fail
  refine bodyPost_ret (v := ?v) ?h rfl ?_
  case h => (simp [results, Try.results6, go_sem]; rfl)
  exact ⟨_, rfl, Vb.eta (by assumption) (by assumption) (by assumption), by (repeat (first | with_reducible exact Below.refl _ _ | with_reducible refine below_drewN ?_ _ | with_reducible refine Below.drew ?_ | with_reducible refine Below.alloc ?_ (by first | (simp; done) | omega | (simp; omega)) _ | with_reducible refine Below.setCell ?_ (by first | (simp; done) | omega | (simp; omega)) _ | with_reducible refine Below.trans ?_ (Below.mono (by assumption) (by first | (simp; done) | omega | (simp; omega)))))⟩

set_option maxHeartbeats 800000 in
theorem lawsEqVector {A : V3} {a b : Value} (w : World) (ha : Vb A a) (hb : Vb A b) : Calls Try.prog 28 #[a, b] w (RetB true w) := by
  obtain ⟨x, y, z, rfl, hx, hy, hz⟩ := ha
  obtain ⟨u, v, s, rfl, hu, hv, hs⟩ := hb
  have hfx := fits_widen A.x
  have hfy := fits_widen A.y
  have hfz := fits_widen A.z
  go_enter Try.func28, Try.ntmps28
  go_wp2_with (first | (first | (refine wpList_fcvt _ rfl (src := 22) (dst := 29) (s := .f32) (k := .f64) rfl rfl Try.underlying22 Try.underlying29 (by decide) (by assumption) ?_; intro r n hr0; have hr := hr0 (fits_widen _); clear hr0) | (refine wpList_fcvt _ rfl (src := 29) (dst := 22) (s := .f64) (k := .f32) rfl rfl Try.underlying29 Try.underlying22 (by decide) (by assumption) ?_; intro r n hr0; have hr := hr0 (by assumption); clear hr0)) | (go_at_call 8; refine (lawsSameFloat _ (by assumption) (by assumption)).mono ?_; rintro e w1 ⟨rfl, hb⟩; (have hzb := hb.size; (try simp at hzb); (try (have hk : ∀ o, w1.cell? ⟨w.heap.size, o, none⟩ = _ := fun o => hb.cell (p := ⟨w.heap.size, o, none⟩) (by first | (simp; done) | omega | (simp; omega)))); (try (have hf : ∀ o, w1.frozen? ⟨w.heap.size, o, none⟩ = _ := fun o => hb.frozen (p := ⟨w.heap.size, o, none⟩) (by first | (simp; done) | omega | (simp; omega)))); (try (have hk : ∀ o, w1.cell? ⟨w.heap.size + 1, o, none⟩ = _ := fun o => hb.cell (p := ⟨w.heap.size + 1, o, none⟩) (by first | (simp; done) | omega | (simp; omega)))); (try (have hf : ∀ o, w1.frozen? ⟨w.heap.size + 1, o, none⟩ = _ := fun o => hb.frozen (p := ⟨w.heap.size + 1, o, none⟩) (by first | (simp; done) | omega | (simp; omega)))); (try (have hk : ∀ o, w1.cell? ⟨w.heap.size + 1 + 1, o, none⟩ = _ := fun o => hb.cell (p := ⟨w.heap.size + 1 + 1, o, none⟩) (by first | (simp; done) | omega | (simp; omega)))); (try (have hf : ∀ o, w1.frozen? ⟨w.heap.size + 1 + 1, o, none⟩ = _ := fun o => hb.frozen (p := ⟨w.heap.size + 1 + 1, o, none⟩) (by first | (simp; done) | omega | (simp; omega)))); (try (have hk : ∀ o, w1.cell? ⟨w.heap.size + 1 + 1 + 1, o, none⟩ = _ := fun o => hb.cell (p := ⟨w.heap.size + 1 + 1 + 1, o, none⟩) (by first | (simp; done) | omega | (simp; omega)))); (try (have hf : ∀ o, w1.frozen? ⟨w.heap.size + 1 + 1 + 1, o, none⟩ = _ := fun o => hb.frozen (p := ⟨w.heap.size + 1 + 1 + 1, o, none⟩) (by first | (simp; done) | omega | (simp; omega)))); (try (have hk : ∀ o, w1.cell? ⟨w.heap.size + 1 + 1 + 1 + 1, o, none⟩ = _ := fun o => hb.cell (p := ⟨w.heap.size + 1 + 1 + 1 + 1, o, none⟩) (by first | (simp; done) | omega | (simp; omega)))); (try (have hf : ∀ o, w1.frozen? ⟨w.heap.size + 1 + 1 + 1 + 1, o, none⟩ = _ := fun o => hb.frozen (p := ⟨w.heap.size + 1 + 1 + 1 + 1, o, none⟩) (by first | (simp; done) | omega | (simp; omega)))))))
  go_ret
  exact ⟨rfl, by (repeat (first | with_reducible exact Below.refl _ _ | with_reducible refine below_drewN ?_ _ | with_reducible refine Below.drew ?_ | with_reducible refine Below.alloc ?_ (by first | (simp; done) | omega | (simp; omega)) _ | with_reducible refine Below.setCell ?_ (by first | (simp; done) | omega | (simp; omega)) _ | with_reducible refine Below.trans ?_ (Below.mono (by assumption) (by first | (simp; done) | omega | (simp; omega)))))⟩

end Go.Proofs.Ytjkpnnbahhlopaa
