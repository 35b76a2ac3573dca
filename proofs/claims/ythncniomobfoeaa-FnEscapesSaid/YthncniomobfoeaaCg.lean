/- Walk: whether two complex numbers are near. Conditions: the plain function says so. -/
import Derived.Test.YthncniomobfoeaaCf
namespace Go.Proofs.Ythncniomobfoeaa
open Go.RowKit
open Circ

section
variable (w : World)
end
end Go.Proofs.Ythncniomobfoeaa
