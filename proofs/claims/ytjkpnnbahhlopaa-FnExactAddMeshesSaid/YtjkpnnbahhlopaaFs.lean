/-
  The helpers of the laws over slices of floats, in the abstract form. Conditions: none.
-/
import Derived.Test.YtjkpnnbahhlopaaCon
import Derived.Test.YtjkpnnbahhlopaaBr
import Derived.Test.YtjkpnnbahhlopaaLw
import Derived.Test.YtjkpnnbahhlopaaSu
import Derived.Test.YtjkpnnbahhlopaaBB
namespace Go.Proofs.Ytjkpnnbahhlopaa
open Go Go.RowKit

def floC (F : Nat → Nat) (k : Nat) : List AV := [fl .f32 (F k)]
def fillC (F : Nat → Nat) (k j : Nat) : List AV := if j < k then [fl .f32 (F j)] else [fl .f32 0]
end Go.Proofs.Ytjkpnnbahhlopaa
