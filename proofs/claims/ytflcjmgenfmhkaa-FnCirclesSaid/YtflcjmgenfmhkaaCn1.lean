/- Plain law: tenths of decibels of products, those of 0 to 2771 64ths. -/
import Derived.Test.YtflcjmgenfmhkaaCn
namespace Go.Proofs.Ytflcjmgenfmhkaa.Circ
open Go
set_option maxRecDepth 100000 in
theorem prod_1 : loopB (fun k => prodOk (Nat.add k 0)) 2772 = true := by decide +kernel
end Go.Proofs.Ytflcjmgenfmhkaa.Circ
