/- Plain law: runs of steps to roots from numbers of eighths, looked at one by one. -/
import Derived.Test.YtjmidicidgaapaaYa
namespace Go.Proofs.Ytjmidicidgaapaa
open Circ
set_option maxRecDepth 100000 in
theorem run5_6 : ∀ x : Nat, x < 3 → ∀ y : Nat, y < 33 → runC 5 60 (ew ((x : Int) + 2)) (ew ((y : Int) - 16)) = true := by decide +kernel
set_option maxRecDepth 100000 in
theorem run5_7 : ∀ x : Nat, x < 3 → ∀ y : Nat, y < 33 → runC 5 60 (ew ((x : Int) + 5)) (ew ((y : Int) - 16)) = true := by decide +kernel
set_option maxRecDepth 100000 in
theorem run5_8 : ∀ x : Nat, x < 3 → ∀ y : Nat, y < 33 → runC 5 60 (ew ((x : Int) + 8)) (ew ((y : Int) - 16)) = true := by decide +kernel
set_option maxRecDepth 100000 in
theorem run5_9 : ∀ x : Nat, x < 3 → ∀ y : Nat, y < 33 → runC 5 60 (ew ((x : Int) + 11)) (ew ((y : Int) - 16)) = true := by decide +kernel
set_option maxRecDepth 100000 in
theorem run5_10 : ∀ x : Nat, x < 3 → ∀ y : Nat, y < 33 → runC 5 60 (ew ((x : Int) + 14)) (ew ((y : Int) - 16)) = true := by decide +kernel
end Go.Proofs.Ytjmidicidgaapaa
