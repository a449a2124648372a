/-
  Contracts of the square root, of lengths, of comparisons of floats and vectors. Conditions: none.
-/
import Derived.Test.YtejpamlaacffaaaVecA
import Derived.Test.YtejpamlaacffaaaRoot
namespace Go.Proofs.Ytejpamlaacffaaa
open Go Go.RowKit
set_option maxRecDepth 100000
attribute [local go_sem] run_store_float

theorem callSqrt (x : Nat) (w : World) : ∃ r n, (callFunc 69 #[.float .f64 x]).run Try.prog w = .ok (.value (.float .f64 r)) (w.drewN n) ∧ ∀ X, Fb .f64 X x → Fb .f64 (fsqrt X) r := by
  obtain ⟨r, n, h1, h2⟩ := run_sqrt (P := Try.prog) x w
  refine ⟨r, n, ?_, h2⟩
  rw [run_callFunc_extern (e := Extern.MathSqrt.sqrt) Try.func69 (by decide) (by kernel_rfl) (by kernel_rfl) (by kernel_rfl), h1]
  rfl

set_option maxHeartbeats 400000 in
theorem mathSqrt {X x : Nat} (w : World) (hx : Fb .f64 X x) : Calls Try.prog 57 #[.float .f64 x] w (RetF .f64 (fsqrt X) w) := by
  obtain ⟨r, n, h1, h2⟩ := callSqrt x w
  have hr := h2 X hx
  clear h2
  go_enter Try.func57, Try.ntmps57
  go_wp2_with (refine wpList_extern _ rfl rfl rfl h1 ?_)
  go_ret
  exact ⟨_, rfl, hr, by (repeat (first | with_reducible exact Below.refl _ _ | with_reducible refine below_drewN ?_ _ | with_reducible refine Below.drew ?_ | with_reducible refine Below.alloc ?_ (by first | (simp; done) | omega | (simp; omega)) _ | with_reducible refine Below.setCell ?_ (by first | (simp; done) | omega | (simp; omega)) _ | with_reducible refine Below.trans ?_ (Below.mono (by assumption) (by first | (simp; done) | omega | (simp; omega)))))⟩

theorem specNarrow {X x : Nat} (w : World) (hx : Fb .f64 X x) (hf : fits .f64 .f32 X) : Calls Try.prog 59 #[.float .f64 x] w (RetF .f32 (fcvt .f64 .f32 X) w) := by
  go_enter Try.func59, Try.ntmps59
  go_wp2_with (first | (refine wpList_fcvt _ rfl (src := 24) (dst := 42) (s := .f32) (k := .f64) rfl rfl Try.underlying24 Try.underlying42 (by decide) (by assumption) ?_; intro r n hr0; have hr := hr0 (fits_widen _); clear hr0) | (refine wpList_fcvt _ rfl (src := 42) (dst := 24) (s := .f64) (k := .f32) rfl rfl Try.underlying42 Try.underlying24 (by decide) (by assumption) ?_; intro r n hr0; have hr := hr0 (by assumption); clear hr0))
  go_ret
  exact ⟨_, rfl, by assumption, by (repeat (first | with_reducible exact Below.refl _ _ | with_reducible refine below_drewN ?_ _ | with_reducible refine Below.drew ?_ | with_reducible refine Below.alloc ?_ (by first | (simp; done) | omega | (simp; omega)) _ | with_reducible refine Below.setCell ?_ (by first | (simp; done) | omega | (simp; omega)) _ | with_reducible refine Below.trans ?_ (Below.mono (by assumption) (by first | (simp; done) | omega | (simp; omega)))))⟩

set_option maxHeartbeats 400000 in
theorem specSqrt {X x : Nat} (w : World) (hx : Fb .f32 X x) : Calls Try.prog 62 #[.float .f32 x] w (RetF .f32 (rootF X) w) := by
  have hf := fits_root X
  go_enter Try.func62, Try.ntmps62
  go_wp2_with (first | (first | (refine wpList_fcvt _ rfl (src := 24) (dst := 42) (s := .f32) (k := .f64) rfl rfl Try.underlying24 Try.underlying42 (by decide) (by assumption) ?_; intro r n hr0; have hr := hr0 (fits_widen _); clear hr0) | (refine wpList_fcvt _ rfl (src := 42) (dst := 24) (s := .f64) (k := .f32) rfl rfl Try.underlying42 Try.underlying24 (by decide) (by assumption) ?_; intro r n hr0; have hr := hr0 (by assumption); clear hr0)) | (go_at_call 57; refine (mathSqrt _ (by assumption)).mono ?_; rintro e w1 ⟨r, rfl, hr, hb⟩; (have hzb := hb.size; try simp at hzb)) | (go_at_call 59; refine (specNarrow _ (by assumption) hf).mono ?_; rintro e w1 ⟨r, rfl, hr, hb⟩; (have hzb := hb.size; try simp at hzb)))
  go_ret
  exact ⟨_, rfl, by assumption, by (repeat (first | with_reducible exact Below.refl _ _ | with_reducible refine below_drewN ?_ _ | with_reducible refine Below.drew ?_ | with_reducible refine Below.alloc ?_ (by first | (simp; done) | omega | (simp; omega)) _ | with_reducible refine Below.setCell ?_ (by first | (simp; done) | omega | (simp; omega)) _ | with_reducible refine Below.trans ?_ (Below.mono (by assumption) (by first | (simp; done) | omega | (simp; omega)))))⟩

set_option maxHeartbeats 400000 in
theorem specLong {A : V3} {a : Value} (w : World) (ha : Vb A a) : Calls Try.prog 46 #[a] w (RetF .f32 (longV A) w) := by
  obtain ⟨x, y, z, rfl, hx, hy, hz⟩ := ha
  go_enter Try.func46, Try.ntmps46
  go_wp2_with (first | (go_at_call 53; refine (specInner _ (Vb.eta hx hy hz) (Vb.eta hx hy hz)).mono ?_; rintro e w1 ⟨r, rfl, hr, hb⟩; (have hzb := hb.size; try simp at hzb)) | (go_at_call 62; refine (specSqrt _ (by assumption)).mono ?_; rintro e w1 ⟨r, rfl, hr, hb⟩; (have hzb := hb.size; try simp at hzb)))
  go_ret
  exact ⟨_, rfl, by assumption, by (repeat (first | with_reducible exact Below.refl _ _ | with_reducible refine below_drewN ?_ _ | with_reducible refine Below.drew ?_ | with_reducible refine Below.alloc ?_ (by first | (simp; done) | omega | (simp; omega)) _ | with_reducible refine Below.setCell ?_ (by first | (simp; done) | omega | (simp; omega)) _ | with_reducible refine Below.trans ?_ (Below.mono (by assumption) (by first | (simp; done) | omega | (simp; omega)))))⟩

end Go.Proofs.Ytejpamlaacffaaa
