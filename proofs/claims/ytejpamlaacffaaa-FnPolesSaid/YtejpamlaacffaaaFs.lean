/-
  The helpers of the laws over slices of floats, in the abstract form. Conditions: none.
-/
import Derived.Test.YtejpamlaacffaaaCon
import Derived.Test.YtejpamlaacffaaaBr
import Derived.Test.YtejpamlaacffaaaLw
import Derived.Test.YtejpamlaacffaaaSu
import Derived.Test.YtejpamlaacffaaaBB
namespace Go.Proofs.Ytejpamlaacffaaa
open Go Go.RowKit

def floC (F : Nat → Nat) (k : Nat) : List AV := [fl .f32 (F k)]
def fillC (F : Nat → Nat) (k j : Nat) : List AV := if j < k then [fl .f32 (F j)] else [fl .f32 0]
end Go.Proofs.Ytejpamlaacffaaa
