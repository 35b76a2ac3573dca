/- Plain law: runs of steps to roots from numbers of eighths, looked at one by one. -/
import Derived.Test.YtjmidicidgaapaaYa
namespace Go.Proofs.Ytjmidicidgaapaa
open Circ
set_option maxRecDepth 100000 in
theorem run6_6 : ∀ x : Nat, x < 2 → ∀ y : Nat, y < 33 → runC 6 60 (ew ((x : Int) - 4)) (ew ((y : Int) - 16)) = true := by decide +kernel
set_option maxRecDepth 100000 in
theorem run6_7 : ∀ x : Nat, x < 2 → ∀ y : Nat, y < 33 → runC 6 60 (ew ((x : Int) - 2)) (ew ((y : Int) - 16)) = true := by decide +kernel
set_option maxRecDepth 100000 in
theorem run6_8 : ∀ x : Nat, x < 2 → ∀ y : Nat, y < 33 → runC 6 60 (ew ((x : Int) - 0)) (ew ((y : Int) - 16)) = true := by decide +kernel
set_option maxRecDepth 100000 in
theorem run6_9 : ∀ x : Nat, x < 2 → ∀ y : Nat, y < 33 → runC 6 60 (ew ((x : Int) + 2)) (ew ((y : Int) - 16)) = true := by decide +kernel
set_option maxRecDepth 100000 in
theorem run6_10 : ∀ x : Nat, x < 2 → ∀ y : Nat, y < 33 → runC 6 60 (ew ((x : Int) + 4)) (ew ((y : Int) - 16)) = true := by decide +kernel
set_option maxRecDepth 100000 in
theorem run6_11 : ∀ x : Nat, x < 2 → ∀ y : Nat, y < 33 → runC 6 60 (ew ((x : Int) + 6)) (ew ((y : Int) - 16)) = true := by decide +kernel
end Go.Proofs.Ytjmidicidgaapaa
