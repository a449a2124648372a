/-
  The base texts, joined. Conditions: none.
-/
import Derived.Test.YtejpamlaacffaaaVe
/-
  The program over distances, part 0. Conditions: none.
-/
namespace Go.Proofs.Ytejpamlaacffaaa
open Go Go.RowKit
set_option maxRecDepth 100000 in
set_option maxHeartbeats 40000000 in
theorem prC_0 : (alln 24 fun i => prC (Nat.add i 1)) = true := by decide +kernel
end Go.Proofs.Ytejpamlaacffaaa

/-
  The program over distances, part 1. Conditions: none.
-/
namespace Go.Proofs.Ytejpamlaacffaaa
open Go Go.RowKit
set_option maxRecDepth 100000 in
set_option maxHeartbeats 40000000 in
theorem prC_1 : (alln 24 fun i => prC (Nat.add i 25)) = true := by decide +kernel
end Go.Proofs.Ytejpamlaacffaaa

/-
  The program over distances, part 2. Conditions: none.
-/
namespace Go.Proofs.Ytejpamlaacffaaa
open Go Go.RowKit
set_option maxRecDepth 100000 in
set_option maxHeartbeats 40000000 in
theorem prC_2 : (alln 24 fun i => prC (Nat.add i 49)) = true := by decide +kernel
end Go.Proofs.Ytejpamlaacffaaa

/-
  The program over distances, part 3. Conditions: none.
-/
namespace Go.Proofs.Ytejpamlaacffaaa
open Go Go.RowKit
set_option maxRecDepth 100000 in
set_option maxHeartbeats 40000000 in
theorem prC_3 : (alln 24 fun i => prC (Nat.add i 73)) = true := by decide +kernel
end Go.Proofs.Ytejpamlaacffaaa

/-
  The program over distances, part 4. Conditions: none.
-/
namespace Go.Proofs.Ytejpamlaacffaaa
open Go Go.RowKit
set_option maxRecDepth 100000 in
set_option maxHeartbeats 40000000 in
theorem prC_4 : (alln 24 fun i => prC (Nat.add i 97)) = true := by decide +kernel
end Go.Proofs.Ytejpamlaacffaaa

/-
  The program over distances, part 5. Conditions: none.
-/
namespace Go.Proofs.Ytejpamlaacffaaa
open Go Go.RowKit
set_option maxRecDepth 100000 in
set_option maxHeartbeats 40000000 in
theorem prC_5 : (alln 24 fun i => prC (Nat.add i 121)) = true := by decide +kernel
end Go.Proofs.Ytejpamlaacffaaa

/-
  The program over distances, part 6. Conditions: none.
-/
namespace Go.Proofs.Ytejpamlaacffaaa
open Go Go.RowKit
set_option maxRecDepth 100000 in
set_option maxHeartbeats 40000000 in
theorem prC_6 : (alln 24 fun i => prC (Nat.add i 145)) = true := by decide +kernel
end Go.Proofs.Ytejpamlaacffaaa

/-
  The program over distances, part 7. Conditions: none.
-/
namespace Go.Proofs.Ytejpamlaacffaaa
open Go Go.RowKit
set_option maxRecDepth 100000 in
set_option maxHeartbeats 40000000 in
theorem prC_7 : (alln 24 fun i => prC (Nat.add i 169)) = true := by decide +kernel
end Go.Proofs.Ytejpamlaacffaaa
