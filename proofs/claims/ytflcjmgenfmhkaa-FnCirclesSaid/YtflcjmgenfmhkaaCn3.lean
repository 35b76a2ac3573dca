/- Plain law: tenths of decibels of products, those of 6604 to 11221 64ths. -/
import Derived.Test.YtflcjmgenfmhkaaCn
namespace Go.Proofs.Ytflcjmgenfmhkaa.Circ
open Go
set_option maxRecDepth 100000 in
theorem prod_3 : loopB (fun k => prodOk (Nat.add k 6604)) 4618 = true := by decide +kernel
end Go.Proofs.Ytflcjmgenfmhkaa.Circ
