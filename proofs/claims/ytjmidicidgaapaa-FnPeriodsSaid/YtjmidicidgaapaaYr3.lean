/- Plain law: runs of steps to roots from numbers of eighths, looked at one by one. -/
import Derived.Test.YtjmidicidgaapaaYa
namespace Go.Proofs.Ytjmidicidgaapaa
open Circ
set_option maxRecDepth 100000 in
theorem run4_4 : ∀ x : Nat, x < 4 → ∀ y : Nat, y < 33 → runC 4 60 (ew ((x : Int) - 0)) (ew ((y : Int) - 16)) = true := by decide +kernel
set_option maxRecDepth 100000 in
theorem run4_5 : ∀ x : Nat, x < 4 → ∀ y : Nat, y < 33 → runC 4 60 (ew ((x : Int) + 4)) (ew ((y : Int) - 16)) = true := by decide +kernel
set_option maxRecDepth 100000 in
theorem run4_6 : ∀ x : Nat, x < 4 → ∀ y : Nat, y < 33 → runC 4 60 (ew ((x : Int) + 8)) (ew ((y : Int) - 16)) = true := by decide +kernel
set_option maxRecDepth 100000 in
theorem run4_7 : ∀ x : Nat, x < 5 → ∀ y : Nat, y < 33 → runC 4 60 (ew ((x : Int) + 12)) (ew ((y : Int) - 16)) = true := by decide +kernel
end Go.Proofs.Ytjmidicidgaapaa
