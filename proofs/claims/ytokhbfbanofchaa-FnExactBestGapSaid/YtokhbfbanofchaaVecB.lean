/-
  Contracts of the square root, of lengths, of comparisons of floats and vectors. Conditions: none.
-/
import Derived.Test.YtokhbfbanofchaaVecA
import Derived.Test.YtokhbfbanofchaaRoot
namespace Go.Proofs.Ytokhbfbanofchaa
open Go Go.RowKit
set_option maxRecDepth 100000
attribute [local go_sem] run_store_float

theorem callSqrt (x : Nat) (w : World) : ∃ r n, (callFunc 142 #[.float .f64 x]).run Try.prog w = .ok (.value (.float .f64 r)) (w.drewN n) ∧ ∀ X, Fb .f64 X x → Fb .f64 (fsqrt X) r := by
  obtain ⟨r, n, h1, h2⟩ := run_sqrt (P := Try.prog) x w
  refine ⟨r, n, ?_, h2⟩
  rw [run_callFunc_extern (e := Extern.MathSqrt.sqrt) Try.func142 (by decide) (by kernel_rfl) (by kernel_rfl) (by kernel_rfl), h1]
  rfl

set_option maxHeartbeats 400000 in
theorem mathSqrt {X x : Nat} (w : World) (hx : Fb .f64 X x) : Calls Try.prog 132 #[.float .f64 x] w (RetF .f64 (fsqrt X) w) := by
  obtain ⟨r, n, h1, h2⟩ := callSqrt x w
  have hr := h2 X hx
  clear h2
  go_enter Try.func132, Try.ntmps132
  go_wp2_with (refine wpList_extern _ rfl rfl rfl h1 ?_)
  go_ret
  exact ⟨_, rfl, hr, by (repeat (first | with_reducible exact Below.refl _ _ | with_reducible refine below_drewN ?_ _ | with_reducible refine Below.drew ?_ | with_reducible refine Below.alloc ?_ (by first | (simp; done) | omega | (simp; omega)) _ | with_reducible refine Below.setCell ?_ (by first | (simp; done) | omega | (simp; omega)) _ | with_reducible refine Below.trans ?_ (Below.mono (by assumption) (by first | (simp; done) | omega | (simp; omega)))))⟩

theorem specNarrow {X x : Nat} (w : World) (hx : Fb .f64 X x) (hf : fits .f64 .f32 X) : Calls Try.prog 140 #[.float .f64 x] w (RetF .f32 (fcvt .f64 .f32 X) w) := by
  go_enter Try.func140, Try.ntmps140
  go_wp2_with (first | (refine wpList_fcvt _ rfl (src := 22) (dst := 34) (s := .f32) (k := .f64) rfl rfl Try.underlying22 Try.underlying34 (by decide) (by assumption) ?_; intro r n hr0; have hr := hr0 (fits_widen _); clear hr0) | (refine wpList_fcvt _ rfl (src := 34) (dst := 22) (s := .f64) (k := .f32) rfl rfl Try.underlying34 Try.underlying22 (by decide) (by assumption) ?_; intro r n hr0; have hr := hr0 (by assumption); clear hr0))
  go_ret
  exact ⟨_, rfl, by assumption, by (repeat (first | with_reducible exact Below.refl _ _ | with_reducible refine below_drewN ?_ _ | with_reducible refine Below.drew ?_ | with_reducible refine Below.alloc ?_ (by first | (simp; done) | omega | (simp; omega)) _ | with_reducible refine Below.setCell ?_ (by first | (simp; done) | omega | (simp; omega)) _ | with_reducible refine Below.trans ?_ (Below.mono (by assumption) (by first | (simp; done) | omega | (simp; omega)))))⟩

set_option maxHeartbeats 400000 in
theorem implRoot {X x : Nat} (w : World) (hx : Fb .f32 X x) : Calls Try.prog 114 #[.float .f32 x] w (RetF .f32 (rootF X) w) := by
  have hf := fits_root X
  go_enter Try.func114, Try.ntmps114
  go_wp2_with (first | (first | (refine wpList_fcvt _ rfl (src := 22) (dst := 34) (s := .f32) (k := .f64) rfl rfl Try.underlying22 Try.underlying34 (by decide) (by assumption) ?_; intro r n hr0; have hr := hr0 (fits_widen _); clear hr0) | (refine wpList_fcvt _ rfl (src := 34) (dst := 22) (s := .f64) (k := .f32) rfl rfl Try.underlying34 Try.underlying22 (by decide) (by assumption) ?_; intro r n hr0; have hr := hr0 (by assumption); clear hr0)) | (go_at_call 132; refine (mathSqrt _ (by assumption)).mono ?_; rintro e w1 ⟨r, rfl, hr, hb⟩; (have hzb := hb.size; try simp at hzb)))
  go_ret
  exact ⟨_, rfl, by assumption, by (repeat (first | with_reducible exact Below.refl _ _ | with_reducible refine below_drewN ?_ _ | with_reducible refine Below.drew ?_ | with_reducible refine Below.alloc ?_ (by first | (simp; done) | omega | (simp; omega)) _ | with_reducible refine Below.setCell ?_ (by first | (simp; done) | omega | (simp; omega)) _ | with_reducible refine Below.trans ?_ (Below.mono (by assumption) (by first | (simp; done) | omega | (simp; omega)))))⟩

set_option maxHeartbeats 400000 in
theorem specSqrt {X x : Nat} (w : World) (hx : Fb .f32 X x) : Calls Try.prog 126 #[.float .f32 x] w (RetF .f32 (rootF X) w) := by
  have hf := fits_root X
  go_enter Try.func126, Try.ntmps126
  go_wp2_with (first | (first | (refine wpList_fcvt _ rfl (src := 22) (dst := 34) (s := .f32) (k := .f64) rfl rfl Try.underlying22 Try.underlying34 (by decide) (by assumption) ?_; intro r n hr0; have hr := hr0 (fits_widen _); clear hr0) | (refine wpList_fcvt _ rfl (src := 34) (dst := 22) (s := .f64) (k := .f32) rfl rfl Try.underlying34 Try.underlying22 (by decide) (by assumption) ?_; intro r n hr0; have hr := hr0 (by assumption); clear hr0)) | (go_at_call 132; refine (mathSqrt _ (by assumption)).mono ?_; rintro e w1 ⟨r, rfl, hr, hb⟩; (have hzb := hb.size; try simp at hzb)) | (go_at_call 140; refine (specNarrow _ (by assumption) hf).mono ?_; rintro e w1 ⟨r, rfl, hr, hb⟩; (have hzb := hb.size; try simp at hzb)))
  go_ret
  exact ⟨_, rfl, by assumption, by (repeat (first | with_reducible exact Below.refl _ _ | with_reducible refine below_drewN ?_ _ | with_reducible refine Below.drew ?_ | with_reducible refine Below.alloc ?_ (by first | (simp; done) | omega | (simp; omega)) _ | with_reducible refine Below.setCell ?_ (by first | (simp; done) | omega | (simp; omega)) _ | with_reducible refine Below.trans ?_ (Below.mono (by assumption) (by first | (simp; done) | omega | (simp; omega)))))⟩

set_option maxHeartbeats 400000 in
theorem implLong {A : V3} {a : Value} (w : World) (ha : Vb A a) : Calls Try.prog 123 #[a] w (RetF .f32 (longV A) w) := by
  obtain ⟨x, y, z, rfl, hx, hy, hz⟩ := ha
  go_enter Try.func123, Try.ntmps123
  go_wp2_with (first | (go_at_call 57; refine (implInner _ (Vb.eta hx hy hz) (Vb.eta hx hy hz)).mono ?_; rintro e w1 ⟨r, rfl, hr, hb⟩; (have hzb := hb.size; try simp at hzb)) | (go_at_call 114; refine (implRoot _ (by assumption)).mono ?_; rintro e w1 ⟨r, rfl, hr, hb⟩; (have hzb := hb.size; try simp at hzb)))
  go_ret
  exact ⟨_, rfl, by assumption, by (repeat (first | with_reducible exact Below.refl _ _ | with_reducible refine below_drewN ?_ _ | with_reducible refine Below.drew ?_ | with_reducible refine Below.alloc ?_ (by first | (simp; done) | omega | (simp; omega)) _ | with_reducible refine Below.setCell ?_ (by first | (simp; done) | omega | (simp; omega)) _ | with_reducible refine Below.trans ?_ (Below.mono (by assumption) (by first | (simp; done) | omega | (simp; omega)))))⟩
set_option maxHeartbeats 400000 in
theorem specLong {A : V3} {a : Value} (w : World) (ha : Vb A a) : Calls Try.prog 136 #[a] w (RetF .f32 (longV A) w) := by
  obtain ⟨x, y, z, rfl, hx, hy, hz⟩ := ha
  go_enter Try.func136, Try.ntmps136
  go_wp2_with (first | (go_at_call 53; refine (specInner _ (Vb.eta hx hy hz) (Vb.eta hx hy hz)).mono ?_; rintro e w1 ⟨r, rfl, hr, hb⟩; (have hzb := hb.size; try simp at hzb)) | (go_at_call 126; refine (specSqrt _ (by assumption)).mono ?_; rintro e w1 ⟨r, rfl, hr, hb⟩; (have hzb := hb.size; try simp at hzb)))
  go_ret
  exact ⟨_, rfl, by assumption, by (repeat (first | with_reducible exact Below.refl _ _ | with_reducible refine below_drewN ?_ _ | with_reducible refine Below.drew ?_ | with_reducible refine Below.alloc ?_ (by first | (simp; done) | omega | (simp; omega)) _ | with_reducible refine Below.setCell ?_ (by first | (simp; done) | omega | (simp; omega)) _ | with_reducible refine Below.trans ?_ (Below.mono (by assumption) (by first | (simp; done) | omega | (simp; omega)))))⟩

theorem order_self {k : FloatKind} {X : Nat} (h : isNan k X = false) : k.format.order X X = some .eq := by
  unfold isNan at h
  unfold Ieee.Format.order
  cases he : k.format.read X with
  | nan s t => rw [he] at h; cases h
  | infinity s => cases s <;> rfl
  | number s m e => simp [Ieee.Datum.order]

set_option maxHeartbeats 400000 in
theorem lawsSameFloat {X x y : Nat} (w : World) (hx : Fb .f64 X x) (hy : Fb .f64 X y) : Calls Try.prog 18 #[.float .f64 x, .float .f64 y] w (RetB true w) := by
  by_cases hn : isNan .f64 X = true
  · have h1 : FloatKind.f64.format.order x x = none := order_nan_left (by rw [hx.nan]; exact hn)
    have h2 : FloatKind.f64.format.order y y = none := order_nan_left (by rw [hy.nan]; exact hn)
    clear hx hy hn
    go_enter Try.func18, Try.ntmps18
    go_wp2
    go_ret
    exact ⟨rfl, by (repeat (first | with_reducible exact Below.refl _ _ | with_reducible refine below_drewN ?_ _ | with_reducible refine Below.drew ?_ | with_reducible refine Below.alloc ?_ (by first | (simp; done) | omega | (simp; omega)) _ | with_reducible refine Below.setCell ?_ (by first | (simp; done) | omega | (simp; omega)) _ | with_reducible refine Below.trans ?_ (Below.mono (by assumption) (by first | (simp; done) | omega | (simp; omega)))))⟩
  · have hn : isNan .f64 X = false := by simpa using hn
    have e1 : x = X := by rw [← hx.can]; exact (can_num (by rw [hx.nan]; exact hn)).symm
    have e2 : y = X := by rw [← hy.can]; exact (can_num (by rw [hy.nan]; exact hn)).symm
    subst e1
    subst e2
    have h1 := order_self hn
    clear hn hy
    by_cases hz : (FloatKind.f64.format.order y 0 == some .eq) = true
    · go_enter Try.func18, Try.ntmps18
      go_wp2_with (first | (refine wpList_fop _ rfl (op := .quo) rfl rfl rfl rfl (by (first | assumption | exact Fb_const (by decide +kernel) | exact Fb_ofInt _ _)) (by (first | assumption | exact Fb_const (by decide +kernel) | exact Fb_ofInt _ _)) ?_; intro r n hr) | (refine wpList_fcmp _ rfl (c := .gtr) rfl rfl rfl rfl (by (first | assumption | exact Fb_const (by decide +kernel) | exact Fb_ofInt _ _)) (by (first | assumption | exact Fb_const (by decide +kernel) | exact Fb_ofInt _ _)) ?_))
      go_ret
      exact ⟨rfl, by (repeat (first | with_reducible exact Below.refl _ _ | with_reducible refine below_drewN ?_ _ | with_reducible refine Below.drew ?_ | with_reducible refine Below.alloc ?_ (by first | (simp; done) | omega | (simp; omega)) _ | with_reducible refine Below.setCell ?_ (by first | (simp; done) | omega | (simp; omega)) _ | with_reducible refine Below.trans ?_ (Below.mono (by assumption) (by first | (simp; done) | omega | (simp; omega)))))⟩
    · have hz : (FloatKind.f64.format.order y 0 == some .eq) = false := by simpa using hz
      go_enter Try.func18, Try.ntmps18
      go_wp2
      go_ret
      exact ⟨rfl, by (repeat (first | with_reducible exact Below.refl _ _ | with_reducible refine below_drewN ?_ _ | with_reducible refine Below.drew ?_ | with_reducible refine Below.alloc ?_ (by first | (simp; done) | omega | (simp; omega)) _ | with_reducible refine Below.setCell ?_ (by first | (simp; done) | omega | (simp; omega)) _ | with_reducible refine Below.trans ?_ (Below.mono (by assumption) (by first | (simp; done) | omega | (simp; omega)))))⟩

end Go.Proofs.Ytokhbfbanofchaa
