/- Plain law: tenths of decibels of products, those of 23616 to 40000 64ths. -/
import Derived.Test.YtflcjmgenfmhkaaCn
namespace Go.Proofs.Ytflcjmgenfmhkaa.Circ
open Go
set_option maxRecDepth 100000 in
theorem prod_6 : loopB (fun k => prodOk (Nat.add k 23616)) 16385 = true := by decide +kernel
end Go.Proofs.Ytflcjmgenfmhkaa.Circ
