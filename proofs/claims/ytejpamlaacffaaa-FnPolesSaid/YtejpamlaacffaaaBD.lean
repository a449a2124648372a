/-
  The base texts, joined. Conditions: none.
-/
import Derived.Test.YtejpamlaacffaaaVi
/-
  The energy of two poles, part 0. Conditions: none.
-/
namespace Go.Proofs.Ytejpamlaacffaaa
open Go Go.RowKit
set_option maxRecDepth 100000 in
set_option maxHeartbeats 40000000 in
theorem eqE_0 : (alln 48 fun i => eqE (Nat.add i 1)) = true := by decide +kernel
set_option maxRecDepth 100000 in
set_option maxHeartbeats 40000000 in
theorem mvC_all : mvC = true := by decide +kernel
end Go.Proofs.Ytejpamlaacffaaa

/-
  The energy of two poles, part 1. Conditions: none.
-/
namespace Go.Proofs.Ytejpamlaacffaaa
open Go Go.RowKit
set_option maxRecDepth 100000 in
set_option maxHeartbeats 40000000 in
theorem eqE_1 : (alln 48 fun i => eqE (Nat.add i 49)) = true := by decide +kernel
end Go.Proofs.Ytejpamlaacffaaa

/-
  The energy of two poles, part 2. Conditions: none.
-/
namespace Go.Proofs.Ytejpamlaacffaaa
open Go Go.RowKit
set_option maxRecDepth 100000 in
set_option maxHeartbeats 40000000 in
theorem eqE_2 : (alln 48 fun i => eqE (Nat.add i 97)) = true := by decide +kernel
end Go.Proofs.Ytejpamlaacffaaa

/-
  The energy of two poles, part 3. Conditions: none.
-/
namespace Go.Proofs.Ytejpamlaacffaaa
open Go Go.RowKit
set_option maxRecDepth 100000 in
set_option maxHeartbeats 40000000 in
theorem eqE_3 : (alln 48 fun i => eqE (Nat.add i 145)) = true := by decide +kernel
end Go.Proofs.Ytejpamlaacffaaa
