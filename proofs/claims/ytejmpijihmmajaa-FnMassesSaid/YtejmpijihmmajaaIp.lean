/- Walks: slices.IndexFunc at integers, for the program's closures. Condition: the closure answers p for each element, and only draws. -/
import Derived.Test.YtejmpijihmmajaaSl
import Derived.Deep.Draws
namespace Go.Proofs.Ytejmpijihmmajaa
open Go.RowKit



end Go.Proofs.Ytejmpijihmmajaa
