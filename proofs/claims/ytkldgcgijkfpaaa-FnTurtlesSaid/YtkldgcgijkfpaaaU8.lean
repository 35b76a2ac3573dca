/- Plain words for bytes and results (no program). Conditions: none. -/
import Derived.Test.YtkldgcgijkfpaaaRows
import Derived.Test.YtkldgcgijkfpaaaBlk
import Derived.Deep.QuietTactic
import Derived.BigQuiet
import Derived.WalkSpells
import Derived.Laws.Bits64b
import Derived.Handy
namespace Go.Proofs.Ytkldgcgijkfpaaa
open Go.RowKit
def u8v (x : Nat) : Value := .int .u8 (x : Int)
theorem ret_i {k : IntKind} {a b : Int} (h : a = b) : Ending.returned (.int k a) = .returned (.int k b) := by rw [h]
end Go.Proofs.Ytkldgcgijkfpaaa
