/- Plain law: runs of steps to roots from numbers of eighths, looked at one by one. -/
import Derived.Test.YtjmidicidgaapaaYa
namespace Go.Proofs.Ytjmidicidgaapaa
open Circ
set_option maxRecDepth 100000 in
theorem run5_0 : ∀ x : Nat, x < 3 → ∀ y : Nat, y < 33 → runC 5 60 (ew ((x : Int) - 16)) (ew ((y : Int) - 16)) = true := by decide +kernel
set_option maxRecDepth 100000 in
theorem run5_1 : ∀ x : Nat, x < 3 → ∀ y : Nat, y < 33 → runC 5 60 (ew ((x : Int) - 13)) (ew ((y : Int) - 16)) = true := by decide +kernel
set_option maxRecDepth 100000 in
theorem run5_2 : ∀ x : Nat, x < 3 → ∀ y : Nat, y < 33 → runC 5 60 (ew ((x : Int) - 10)) (ew ((y : Int) - 16)) = true := by decide +kernel
set_option maxRecDepth 100000 in
theorem run5_3 : ∀ x : Nat, x < 3 → ∀ y : Nat, y < 33 → runC 5 60 (ew ((x : Int) - 7)) (ew ((y : Int) - 16)) = true := by decide +kernel
set_option maxRecDepth 100000 in
theorem run5_4 : ∀ x : Nat, x < 3 → ∀ y : Nat, y < 33 → runC 5 60 (ew ((x : Int) - 4)) (ew ((y : Int) - 16)) = true := by decide +kernel
set_option maxRecDepth 100000 in
theorem run5_5 : ∀ x : Nat, x < 3 → ∀ y : Nat, y < 33 → runC 5 60 (ew ((x : Int) - 1)) (ew ((y : Int) - 16)) = true := by decide +kernel
end Go.Proofs.Ytjmidicidgaapaa
