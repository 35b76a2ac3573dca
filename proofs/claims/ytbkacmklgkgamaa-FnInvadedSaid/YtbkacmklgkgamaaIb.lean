/- A word for bounds (no program). Conditions: none. -/
import Derived.Test.YtbkacmklgkgamaaRows
namespace Go.Proofs.Ytbkacmklgkgamaa
def inB (n l h : Int) : Bool := decide (l ≤ n ∧ n ≤ h)
end Go.Proofs.Ytbkacmklgkgamaa
