/- A word for bounds (no program). Conditions: none. -/
import Derived.Test.YtejmpijihmmajaaRows
namespace Go.Proofs.Ytejmpijihmmajaa
def inB (n l h : Int) : Bool := decide (l ≤ n ∧ n ≤ h)
end Go.Proofs.Ytejmpijihmmajaa
