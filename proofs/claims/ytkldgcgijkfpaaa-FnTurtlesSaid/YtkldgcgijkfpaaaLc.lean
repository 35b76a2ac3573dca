/- Walks: the bytes' lengths and numbers. Conditions: at most 2^20 bytes. -/
import Derived.Test.YtkldgcgijkfpaaaU8
namespace Go.Proofs.Ytkldgcgijkfpaaa
open Go.RowKit

private theorem ret_bool {a b : Bool} (h : a = b) : Ending.returned (.bool a) = .returned (.bool b) := by rw [h]
end Go.Proofs.Ytkldgcgijkfpaaa
