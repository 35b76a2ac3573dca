/- Plain law: tenths of decibels of products, those of 16698 to 23615 64ths. -/
import Derived.Test.YtflcjmgenfmhkaaCn
namespace Go.Proofs.Ytflcjmgenfmhkaa.Circ
open Go
set_option maxRecDepth 100000 in
theorem prod_5 : loopB (fun k => prodOk (Nat.add k 16698)) 6918 = true := by decide +kernel
end Go.Proofs.Ytflcjmgenfmhkaa.Circ
