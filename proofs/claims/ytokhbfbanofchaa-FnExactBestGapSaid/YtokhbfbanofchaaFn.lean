/-
  What is finite came of what is finite. Conditions: none.
-/
import Derived.Test.YtokhbfbanofchaaFv
namespace Go.Proofs.Ytokhbfbanofchaa
open Go Go.RowKit

def numD : Ieee.Datum → Bool
  | .number .. => true
  | _ => false
theorem read_inf32 (s : Bool) : FloatKind.f32.format.read (FloatKind.f32.format.word s FloatKind.f32.format.infRung) = .infinity s := by cases s <;> decide +kernel
theorem num_nan : numD (FloatKind.f32.format.read (nanOf .f32)) = false := by decide +kernel
theorem order_nan32 (Y : Nat) : FloatKind.f32.format.order (nanOf .f32) Y = none := order_nan_left (isNan_nanOf .f32)
theorem finB_num (X : Nat) : finB X = numD (FloatKind.f32.format.read X) := by
  have hnan : cmpB .eql .f32 (nanOf .f32) 0 = false := by
    show (FloatKind.f32.format.order (nanOf .f32) 0 == some .eq) = false
    rw [order_nan32]
    rfl
  unfold finB
  cases h : FloatKind.f32.format.read X with
  | number s m i =>
    have e : FloatKind.f32.format.sub X X = some 0 := by
      unfold Ieee.Format.sub
      rw [h]
      have e0 : min i i = i := Int.min_self i
      have e1 : Ieee.signed s m (i - i).toNat + Ieee.signed (!s) m (i - i).toNat = 0 := by
        unfold Ieee.signed
        cases s <;> simp <;> omega
      simp only [Ieee.Datum.opposite, Ieee.Datum.sum, e0, e1, Option.map_some]
      cases s <;> rfl
    have e2 : fop .sub .f32 X X = 0 := by
      show (FloatKind.f32.format.sub X X).getD _ = 0
      rw [e]; rfl
    rw [e2]
    show cmpB .eql .f32 0 0 = true
    decide +kernel
  | infinity s =>
    have e2 : fop .sub .f32 X X = nanOf .f32 := by
      show (FloatKind.f32.format.sub X X).getD _ = _
      unfold Ieee.Format.sub
      rw [h]
      cases s <;> rfl
    rw [e2, hnan]
    rfl
  | nan s t =>
    have e2 : fop .sub .f32 X X = nanOf .f32 := by
      show (FloatKind.f32.format.sub X X).getD _ = _
      unfold Ieee.Format.sub
      rw [h]
      rfl
    rw [e2, hnan]
    rfl
theorem num_write_inf (s : Bool) : numD (FloatKind.f32.format.read (((some (Ieee.Datum.infinity s)).map FloatKind.f32.format.write).getD (nanOf .f32))) = false := by
  show numD (FloatKind.f32.format.read (FloatKind.f32.format.word s FloatKind.f32.format.infRung)) = false
  rw [read_inf32]; rfl
theorem num_write_none : numD (FloatKind.f32.format.read (((none : Option Ieee.Datum).map FloatKind.f32.format.write).getD (nanOf .f32))) = false := num_nan
theorem sum_fin {a b : Ieee.Datum} (h : numD (FloatKind.f32.format.read (((a.sum b).map FloatKind.f32.format.write).getD (nanOf .f32))) = true) : numD a = true ∧ numD b = true := by
  cases a <;> cases b
  case number.number => exact ⟨rfl, rfl⟩
  all_goals
    exfalso
    simp only [Ieee.Datum.sum] at h
    first
    | (rw [num_write_none] at h; cases h; done)
    | (rw [num_write_inf] at h; cases h; done)
    | (split at h
       · rw [num_write_inf] at h; cases h
       · rw [num_write_none] at h; cases h)
theorem num_opposite (d : Ieee.Datum) : numD d.opposite = numD d := by cases d <;> rfl
theorem fin_add {X Y : Nat} (h : finB (fop .add .f32 X Y) = true) : finB X = true ∧ finB Y = true := by
  rw [finB_num] at h ⊢
  rw [finB_num]
  exact sum_fin h
theorem fin_sub {X Y : Nat} (h : finB (fop .sub .f32 X Y) = true) : finB X = true ∧ finB Y = true := by
  rw [finB_num] at h ⊢
  rw [finB_num Y, ← num_opposite (FloatKind.f32.format.read Y)]
  exact sum_fin h
/- Vectors. -/
theorem finV_and {A : V3} : finV A = true ↔ finB A.x = true ∧ finB A.y = true ∧ finB A.z = true := by
  unfold finV
  rw [Bool.and_eq_true, Bool.and_eq_true]
  exact ⟨fun h => ⟨h.1.1, h.1.2, h.2⟩, fun h => ⟨⟨h.1, h.2.1⟩, h.2.2⟩⟩
theorem finV_add {A B : V3} (h : finV (addV A B) = true) : finV A = true ∧ finV B = true := by
  obtain ⟨h1, h2, h3⟩ := finV_and.1 h
  exact ⟨finV_and.2 ⟨(fin_add h1).1, (fin_add h2).1, (fin_add h3).1⟩, finV_and.2 ⟨(fin_add h1).2, (fin_add h2).2, (fin_add h3).2⟩⟩
theorem finV_less {A B : V3} (h : finV (lessV A B) = true) : finV A = true ∧ finV B = true := by
  obtain ⟨h1, h2, h3⟩ := finV_and.1 h
  exact ⟨finV_and.2 ⟨(fin_sub h1).1, (fin_sub h2).1, (fin_sub h3).1⟩, finV_and.2 ⟨(fin_sub h1).2, (fin_sub h2).2, (fin_sub h3).2⟩⟩
end Go.Proofs.Ytokhbfbanofchaa
