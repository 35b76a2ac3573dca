/- Plain law: runs of steps to roots from numbers of eighths, looked at one by one. -/
import Derived.Test.YtjmidicidgaapaaYa
namespace Go.Proofs.Ytjmidicidgaapaa
open Circ
set_option maxRecDepth 100000 in
theorem run6_12 : ∀ x : Nat, x < 2 → ∀ y : Nat, y < 33 → runC 6 60 (ew ((x : Int) + 8)) (ew ((y : Int) - 16)) = true := by decide +kernel
set_option maxRecDepth 100000 in
theorem run6_13 : ∀ x : Nat, x < 2 → ∀ y : Nat, y < 33 → runC 6 60 (ew ((x : Int) + 10)) (ew ((y : Int) - 16)) = true := by decide +kernel
set_option maxRecDepth 100000 in
theorem run6_14 : ∀ x : Nat, x < 3 → ∀ y : Nat, y < 33 → runC 6 60 (ew ((x : Int) + 12)) (ew ((y : Int) - 16)) = true := by decide +kernel
set_option maxRecDepth 100000 in
theorem run6_15 : ∀ x : Nat, x < 2 → ∀ y : Nat, y < 33 → runC 6 60 (ew ((x : Int) + 15)) (ew ((y : Int) - 16)) = true := by decide +kernel
end Go.Proofs.Ytjmidicidgaapaa
