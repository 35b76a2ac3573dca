/- Plain law: distances from the set, looked at number by number. -/
import Derived.Test.YtjmidicidgaapaaYj
namespace Go.Proofs.Ytjmidicidgaapaa
open Circ
set_option maxRecDepth 100000 in
theorem bord_0 : ∀ x : Nat, x < 8 → ∀ y : Nat, y < 33 → bordOk (ew ((x : Int) - 16)) (ew ((y : Int) - 16)) = true := by decide +kernel
set_option maxRecDepth 100000 in
theorem bord_1 : ∀ x : Nat, x < 7 → ∀ y : Nat, y < 33 → bordOk (ew ((x : Int) - 8)) (ew ((y : Int) - 16)) = true := by decide +kernel
set_option maxRecDepth 100000 in
theorem bord_2 : ∀ x : Nat, x < 6 → ∀ y : Nat, y < 33 → bordOk (ew ((x : Int) - 1)) (ew ((y : Int) - 16)) = true := by decide +kernel
set_option maxRecDepth 100000 in
theorem bord_3 : ∀ x : Nat, x < 6 → ∀ y : Nat, y < 33 → bordOk (ew ((x : Int) + 5)) (ew ((y : Int) - 16)) = true := by decide +kernel
set_option maxRecDepth 100000 in
theorem bord_4 : ∀ x : Nat, x < 6 → ∀ y : Nat, y < 33 → bordOk (ew ((x : Int) + 11)) (ew ((y : Int) - 16)) = true := by decide +kernel
theorem bord_row {c : Nat} {o : Int} (h : ∀ x : Nat, x < c → ∀ y : Nat, y < 33 → bordOk (ew ((x : Int) - o)) (ew ((y : Int) - 16)) = true) {x y : Int} (h1 : 0 ≤ x + o) (h2 : x + o < c) (hy : y.natAbs ≤ 16) : bordOk (ew x) (ew y) = true := by
  have := h (x + o).toNat (by omega) (y + 16).toNat (by omega)
  rwa [show (((x + o).toNat : Nat) : Int) - o = x by omega, show (((y + 16).toNat : Nat) : Int) - 16 = y by omega] at this
theorem bord_all {x y : Int} (hx : x.natAbs ≤ 16) (hy : y.natAbs ≤ 16) : bordOk (ew x) (ew y) = true := by
  by_cases h0 : x < -8
  · exact bord_row (o := 16) bord_0 (by omega) (by omega) hy
  by_cases h1 : x < -1
  · exact bord_row (o := 8) bord_1 (by omega) (by omega) hy
  by_cases h2 : x < 5
  · exact bord_row (o := 1) bord_2 (by omega) (by omega) hy
  by_cases h3 : x < 11
  · exact bord_row (o := -5) (fun x hx y hy => by rw [show (x : Int) - (-5) = x + 5 by omega]; exact bord_3 x hx y hy) (by omega) (by omega) hy
  exact bord_row (o := -11) (fun x hx y hy => by rw [show (x : Int) - (-11) = x + 11 by omega]; exact bord_4 x hx y hy) (by omega) (by omega) hy
end Go.Proofs.Ytjmidicidgaapaa
