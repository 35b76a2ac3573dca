/- Plain law: tenths of decibels of products, those of 11222 to 16697 64ths. -/
import Derived.Test.YtflcjmgenfmhkaaCn
namespace Go.Proofs.Ytflcjmgenfmhkaa.Circ
open Go
set_option maxRecDepth 100000 in
theorem prod_4 : loopB (fun k => prodOk (Nat.add k 11222)) 5476 = true := by decide +kernel
end Go.Proofs.Ytflcjmgenfmhkaa.Circ
