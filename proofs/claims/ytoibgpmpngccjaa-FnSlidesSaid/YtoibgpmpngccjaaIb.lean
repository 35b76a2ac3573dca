/- A word for bounds (no program). Conditions: none. -/
import Derived.Test.YtoibgpmpngccjaaRows
namespace Go.Proofs.Ytoibgpmpngccjaa
def inB (n l h : Int) : Bool := decide (l ≤ n ∧ n ≤ h)
end Go.Proofs.Ytoibgpmpngccjaa
