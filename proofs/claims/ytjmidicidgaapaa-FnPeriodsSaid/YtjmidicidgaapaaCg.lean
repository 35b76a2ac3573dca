/- Walk: whether two complex numbers are near. Conditions: the plain function says so. -/
import Derived.Test.YtjmidicidgaapaaCf
namespace Go.Proofs.Ytjmidicidgaapaa
open Go.RowKit
open Circ

section
variable (w : World)
end
end Go.Proofs.Ytjmidicidgaapaa
