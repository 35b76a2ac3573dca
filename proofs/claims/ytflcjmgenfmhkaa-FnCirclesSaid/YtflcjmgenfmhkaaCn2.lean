/- Plain law: tenths of decibels of products, those of 2772 to 6603 64ths. -/
import Derived.Test.YtflcjmgenfmhkaaCn
namespace Go.Proofs.Ytflcjmgenfmhkaa.Circ
open Go
set_option maxRecDepth 100000 in
theorem prod_2 : loopB (fun k => prodOk (Nat.add k 2772)) 3832 = true := by decide +kernel
end Go.Proofs.Ytflcjmgenfmhkaa.Circ
