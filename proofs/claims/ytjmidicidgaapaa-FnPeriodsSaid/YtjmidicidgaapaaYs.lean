/- Plain law: all runs of steps to roots. -/
import Derived.Test.YtjmidicidgaapaaYr1
import Derived.Test.YtjmidicidgaapaaYr2
import Derived.Test.YtjmidicidgaapaaYr3
import Derived.Test.YtjmidicidgaapaaYr4
import Derived.Test.YtjmidicidgaapaaYr5
import Derived.Test.YtjmidicidgaapaaYr6
import Derived.Test.YtjmidicidgaapaaYr7
import Derived.Test.YtjmidicidgaapaaYr8
namespace Go.Proofs.Ytjmidicidgaapaa
open Circ
theorem run_row {n c : Nat} {o : Int} (h : ∀ x : Nat, x < c → ∀ y : Nat, y < 33 → runC n 60 (ew ((x : Int) - o)) (ew ((y : Int) - 16)) = true) {x y : Int} (h1 : 0 ≤ x + o) (h2 : x + o < c) (hy : y.natAbs ≤ 16) : runC n 60 (ew x) (ew y) = true := by
  have := h (x + o).toNat (by omega) (y + 16).toNat (by omega)
  rwa [show (((x + o).toNat : Nat) : Int) - o = x by omega, show (((y + 16).toNat : Nat) : Int) - 16 = y by omega] at this
theorem run_all {n : Nat} {x y : Int} (hn : 2 ≤ n) (hn6 : n ≤ 6) (hx : x.natAbs ≤ 16) (hy : y.natAbs ≤ 16) : runC n 60 (ew x) (ew y) = true := by
  rcases (by omega : n = 2 ∨ n = 3 ∨ n = 4 ∨ n = 5 ∨ n = 6) with rfl | rfl | rfl | rfl | rfl
  · by_cases h0 : x < -5
    · exact run_row (o := 16) run2_0 (by omega) (by omega) hy
    by_cases h1 : x < 6
    · exact run_row (o := 5) run2_1 (by omega) (by omega) hy
    exact run_row (o := -6) (fun x hx y hy => by rw [show (x : Int) - (-6) = x + 6 by omega]; exact run2_2 x hx y hy) (by omega) (by omega) hy
  · by_cases h0 : x < -8
    · exact run_row (o := 16) run3_0 (by omega) (by omega) hy
    by_cases h1 : x < 0
    · exact run_row (o := 8) run3_1 (by omega) (by omega) hy
    by_cases h2 : x < 8
    · exact run_row (o := 0) run3_2 (by omega) (by omega) hy
    exact run_row (o := -8) (fun x hx y hy => by rw [show (x : Int) - (-8) = x + 8 by omega]; exact run3_3 x hx y hy) (by omega) (by omega) hy
  · by_cases h0 : x < -12
    · exact run_row (o := 16) run4_0 (by omega) (by omega) hy
    by_cases h1 : x < -8
    · exact run_row (o := 12) run4_1 (by omega) (by omega) hy
    by_cases h2 : x < -4
    · exact run_row (o := 8) run4_2 (by omega) (by omega) hy
    by_cases h3 : x < 0
    · exact run_row (o := 4) run4_3 (by omega) (by omega) hy
    by_cases h4 : x < 4
    · exact run_row (o := 0) run4_4 (by omega) (by omega) hy
    by_cases h5 : x < 8
    · exact run_row (o := -4) (fun x hx y hy => by rw [show (x : Int) - (-4) = x + 4 by omega]; exact run4_5 x hx y hy) (by omega) (by omega) hy
    by_cases h6 : x < 12
    · exact run_row (o := -8) (fun x hx y hy => by rw [show (x : Int) - (-8) = x + 8 by omega]; exact run4_6 x hx y hy) (by omega) (by omega) hy
    exact run_row (o := -12) (fun x hx y hy => by rw [show (x : Int) - (-12) = x + 12 by omega]; exact run4_7 x hx y hy) (by omega) (by omega) hy
  · by_cases h0 : x < -13
    · exact run_row (o := 16) run5_0 (by omega) (by omega) hy
    by_cases h1 : x < -10
    · exact run_row (o := 13) run5_1 (by omega) (by omega) hy
    by_cases h2 : x < -7
    · exact run_row (o := 10) run5_2 (by omega) (by omega) hy
    by_cases h3 : x < -4
    · exact run_row (o := 7) run5_3 (by omega) (by omega) hy
    by_cases h4 : x < -1
    · exact run_row (o := 4) run5_4 (by omega) (by omega) hy
    by_cases h5 : x < 2
    · exact run_row (o := 1) run5_5 (by omega) (by omega) hy
    by_cases h6 : x < 5
    · exact run_row (o := -2) (fun x hx y hy => by rw [show (x : Int) - (-2) = x + 2 by omega]; exact run5_6 x hx y hy) (by omega) (by omega) hy
    by_cases h7 : x < 8
    · exact run_row (o := -5) (fun x hx y hy => by rw [show (x : Int) - (-5) = x + 5 by omega]; exact run5_7 x hx y hy) (by omega) (by omega) hy
    by_cases h8 : x < 11
    · exact run_row (o := -8) (fun x hx y hy => by rw [show (x : Int) - (-8) = x + 8 by omega]; exact run5_8 x hx y hy) (by omega) (by omega) hy
    by_cases h9 : x < 14
    · exact run_row (o := -11) (fun x hx y hy => by rw [show (x : Int) - (-11) = x + 11 by omega]; exact run5_9 x hx y hy) (by omega) (by omega) hy
    exact run_row (o := -14) (fun x hx y hy => by rw [show (x : Int) - (-14) = x + 14 by omega]; exact run5_10 x hx y hy) (by omega) (by omega) hy
  · by_cases h0 : x < -14
    · exact run_row (o := 16) run6_0 (by omega) (by omega) hy
    by_cases h1 : x < -12
    · exact run_row (o := 14) run6_1 (by omega) (by omega) hy
    by_cases h2 : x < -10
    · exact run_row (o := 12) run6_2 (by omega) (by omega) hy
    by_cases h3 : x < -8
    · exact run_row (o := 10) run6_3 (by omega) (by omega) hy
    by_cases h4 : x < -6
    · exact run_row (o := 8) run6_4 (by omega) (by omega) hy
    by_cases h5 : x < -4
    · exact run_row (o := 6) run6_5 (by omega) (by omega) hy
    by_cases h6 : x < -2
    · exact run_row (o := 4) run6_6 (by omega) (by omega) hy
    by_cases h7 : x < 0
    · exact run_row (o := 2) run6_7 (by omega) (by omega) hy
    by_cases h8 : x < 2
    · exact run_row (o := 0) run6_8 (by omega) (by omega) hy
    by_cases h9 : x < 4
    · exact run_row (o := -2) (fun x hx y hy => by rw [show (x : Int) - (-2) = x + 2 by omega]; exact run6_9 x hx y hy) (by omega) (by omega) hy
    by_cases h10 : x < 6
    · exact run_row (o := -4) (fun x hx y hy => by rw [show (x : Int) - (-4) = x + 4 by omega]; exact run6_10 x hx y hy) (by omega) (by omega) hy
    by_cases h11 : x < 8
    · exact run_row (o := -6) (fun x hx y hy => by rw [show (x : Int) - (-6) = x + 6 by omega]; exact run6_11 x hx y hy) (by omega) (by omega) hy
    by_cases h12 : x < 10
    · exact run_row (o := -8) (fun x hx y hy => by rw [show (x : Int) - (-8) = x + 8 by omega]; exact run6_12 x hx y hy) (by omega) (by omega) hy
    by_cases h13 : x < 12
    · exact run_row (o := -10) (fun x hx y hy => by rw [show (x : Int) - (-10) = x + 10 by omega]; exact run6_13 x hx y hy) (by omega) (by omega) hy
    by_cases h14 : x < 15
    · exact run_row (o := -12) (fun x hx y hy => by rw [show (x : Int) - (-12) = x + 12 by omega]; exact run6_14 x hx y hy) (by omega) (by omega) hy
    exact run_row (o := -15) (fun x hx y hy => by rw [show (x : Int) - (-15) = x + 15 by omega]; exact run6_15 x hx y hy) (by omega) (by omega) hy
end Go.Proofs.Ytjmidicidgaapaa
