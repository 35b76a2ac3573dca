/- Plain law: runs of steps to roots from numbers of eighths, looked at one by one. -/
import Derived.Test.YtjmidicidgaapaaYa
namespace Go.Proofs.Ytjmidicidgaapaa
open Circ
set_option maxRecDepth 100000 in
theorem run2_0 : ∀ x : Nat, x < 11 → ∀ y : Nat, y < 33 → runC 2 60 (ew ((x : Int) - 16)) (ew ((y : Int) - 16)) = true := by decide +kernel
set_option maxRecDepth 100000 in
theorem run2_1 : ∀ x : Nat, x < 11 → ∀ y : Nat, y < 33 → runC 2 60 (ew ((x : Int) - 5)) (ew ((y : Int) - 16)) = true := by decide +kernel
set_option maxRecDepth 100000 in
theorem run2_2 : ∀ x : Nat, x < 11 → ∀ y : Nat, y < 33 → runC 2 60 (ew ((x : Int) + 6)) (ew ((y : Int) - 16)) = true := by decide +kernel
set_option maxRecDepth 100000 in
theorem run3_0 : ∀ x : Nat, x < 8 → ∀ y : Nat, y < 33 → runC 3 60 (ew ((x : Int) - 16)) (ew ((y : Int) - 16)) = true := by decide +kernel
set_option maxRecDepth 100000 in
theorem run3_1 : ∀ x : Nat, x < 8 → ∀ y : Nat, y < 33 → runC 3 60 (ew ((x : Int) - 8)) (ew ((y : Int) - 16)) = true := by decide +kernel
set_option maxRecDepth 100000 in
theorem run3_2 : ∀ x : Nat, x < 8 → ∀ y : Nat, y < 33 → runC 3 60 (ew ((x : Int) - 0)) (ew ((y : Int) - 16)) = true := by decide +kernel
set_option maxRecDepth 100000 in
theorem run3_3 : ∀ x : Nat, x < 9 → ∀ y : Nat, y < 33 → runC 3 60 (ew ((x : Int) + 8)) (ew ((y : Int) - 16)) = true := by decide +kernel
end Go.Proofs.Ytjmidicidgaapaa
