/- Plain law: runs of steps to roots from numbers of eighths, looked at one by one. -/
import Derived.Test.YtjmidicidgaapaaYa
namespace Go.Proofs.Ytjmidicidgaapaa
open Circ
set_option maxRecDepth 100000 in
theorem run6_0 : ∀ x : Nat, x < 2 → ∀ y : Nat, y < 33 → runC 6 60 (ew ((x : Int) - 16)) (ew ((y : Int) - 16)) = true := by decide +kernel
set_option maxRecDepth 100000 in
theorem run6_1 : ∀ x : Nat, x < 2 → ∀ y : Nat, y < 33 → runC 6 60 (ew ((x : Int) - 14)) (ew ((y : Int) - 16)) = true := by decide +kernel
set_option maxRecDepth 100000 in
theorem run6_2 : ∀ x : Nat, x < 2 → ∀ y : Nat, y < 33 → runC 6 60 (ew ((x : Int) - 12)) (ew ((y : Int) - 16)) = true := by decide +kernel
set_option maxRecDepth 100000 in
theorem run6_3 : ∀ x : Nat, x < 2 → ∀ y : Nat, y < 33 → runC 6 60 (ew ((x : Int) - 10)) (ew ((y : Int) - 16)) = true := by decide +kernel
set_option maxRecDepth 100000 in
theorem run6_4 : ∀ x : Nat, x < 2 → ∀ y : Nat, y < 33 → runC 6 60 (ew ((x : Int) - 8)) (ew ((y : Int) - 16)) = true := by decide +kernel
set_option maxRecDepth 100000 in
theorem run6_5 : ∀ x : Nat, x < 2 → ∀ y : Nat, y < 33 → runC 6 60 (ew ((x : Int) - 6)) (ew ((y : Int) - 16)) = true := by decide +kernel
end Go.Proofs.Ytjmidicidgaapaa
