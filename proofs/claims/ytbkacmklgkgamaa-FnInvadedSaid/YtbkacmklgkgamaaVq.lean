/- Walks: whether weights are such, by the reference and by the program. Conditions: fewer than 2^63. -/
import Derived.Test.YtbkacmklgkgamaaVd
import Derived.Test.YtbkacmklgkgamaaFv
namespace Go.Proofs.Ytbkacmklgkgamaa
open Go.RowKit

def areW (wd hi : Int) (n : Nat) (xs : List Nat) : Bool := validB wd hi n && xs.all finW
set_option maxRecDepth 100000 in
set_option maxHeartbeats 1000000 in
theorem l07Weights_any (wd hi : Int) (A : Option Addr) (n c B : Nat) (xs : List Nat) (w : World) (hn : n ≤ maxLen) (hA : Rd w B 1 A n (xs.map fv)) :
    Calls Try.prog 45 #[.slice A n c, .int .i64 wd, .int .i64 hi] w fun e w' => e = .returned (.bool (areW wd hi n xs)) ∧ ∃ m, w' = w.drewN m := by
  have FC := Lib.hid (l02Finite_any A n c B xs w hn hA)
  have H1 := Lib.hid (fun w => l07Sides_any wd hi w)
  unfold areW
  unfold maxLen at hn
  clear hA
  by_cases x : inB wd 1 16 = true
  · by_cases y : inB hi 1 16 = true
    · have x' : 1 ≤ wd ∧ wd ≤ 16 := by simpa [inB] using x
      have y' : 1 ≤ hi ∧ hi ≤ 16 := by simpa [inB] using y
      obtain ⟨p, hp, hp1, hp2⟩ : ∃ p : Nat, wd * hi = (p : Int) ∧ 0 ≤ p ∧ p ≤ 256 := ⟨(wd * hi).toNat, by
        have := Int.mul_nonneg (show 0 ≤ wd by omega) (show 0 ≤ hi by omega); omega, by omega, by
        have := Int.mul_le_mul x'.2 y'.2 (by omega) (by omega); omega⟩
      rw [x, y] at H1
      obtain ⟨q, hq⟩ : ∃ q, xs.all finW = q := ⟨_, rfl⟩
      rw [hq] at FC ⊢
      by_cases z : n = p
      · have hv : validB wd hi n = true := valid_of x y (by omega)
        have HV := Lib.hid hv
        obtain rfl := z
        clear x y hq hv
        go_enter Try.func45, Try.ntmps45
        go_wp2_with fail
        refine (H1.out _).mono ?_
        rintro e w' ⟨rfl, hw'⟩
        obtain rfl := hw'.symm
        go_wp2_with fail
        refine FC.out.mono ?_
        rintro e w5 ⟨rfl, m, h5⟩
        have H5 := Lib.hid h5
        clear h5
        go_wp2
        go_ret
        exact ⟨ret_bool (by rw [HV.out]; simp), m, H5.out⟩
      · have hv : validB wd hi n = false := valid_not (fun h => z (by omega))
        have HV := Lib.hid hv
        have hnd : ((n : Int) == (p : Int)) = false := by simp; omega
        clear x y hq hv FC z
        go_enter Try.func45, Try.ntmps45
        go_wp2_with fail
        refine (H1.out _).mono ?_
        rintro e w' ⟨rfl, hw'⟩
        obtain rfl := hw'.symm
        go_wp2
        go_ret
        exact ⟨ret_bool (by rw [HV.out]; simp), 0, rfl⟩
    · have hv : validB wd hi n = false := valid_not (fun h => y h.2.1)
      have HV := Lib.hid hv
      rw [Bool.not_eq_true] at y
      rw [x, y] at H1
      clear x y hv FC
      go_enter Try.func45, Try.ntmps45
      go_wp2_with fail
      refine (H1.out _).mono ?_
      rintro e w' ⟨rfl, hw'⟩
      obtain rfl := hw'.symm
      go_wp2
      go_ret
      exact ⟨ret_bool (by rw [HV.out]; simp), 0, rfl⟩
  · have hv : validB wd hi n = false := valid_not (fun h => x h.1)
    have HV := Lib.hid hv
    rw [Bool.not_eq_true] at x
    rw [x] at H1
    simp only [Bool.false_and] at H1
    clear x hv FC
    go_enter Try.func45, Try.ntmps45
    go_wp2_with fail
    refine (H1.out _).mono ?_
    rintro e w' ⟨rfl, hw'⟩
    obtain rfl := hw'.symm
    go_wp2
    go_ret
    exact ⟨ret_bool (by rw [HV.out]; simp), 0, rfl⟩
set_option maxRecDepth 100000 in
set_option maxHeartbeats 1000000 in
theorem areWeights_any (wd hi : Int) (A : Option Addr) (n c B : Nat) (xs : List Nat) (w : World) (hn : n ≤ maxLen) (hA : Rd w B 1 A n (xs.map fv)) :
    Calls Try.prog 38 #[.slice A n c, .int .i64 wd, .int .i64 hi] w fun e w' => e = .returned (.bool (areW wd hi n xs)) ∧ ∃ m, w' = w.drewN m := by
  have FC := Lib.hid (areFinite_any A n c B xs w hn hA)
  have H1 := Lib.hid (fun w => isFieldSide_any wd w)
  have H2 := Lib.hid (fun w => isFieldSide_any hi w)
  unfold areW
  unfold maxLen at hn
  clear hA
  by_cases x : inB wd 1 16 = true
  · by_cases y : inB hi 1 16 = true
    · have x' : 1 ≤ wd ∧ wd ≤ 16 := by simpa [inB] using x
      have y' : 1 ≤ hi ∧ hi ≤ 16 := by simpa [inB] using y
      obtain ⟨p, hp, hp1, hp2⟩ : ∃ p : Nat, wd * hi = (p : Int) ∧ 0 ≤ p ∧ p ≤ 256 := ⟨(wd * hi).toNat, by
        have := Int.mul_nonneg (show 0 ≤ wd by omega) (show 0 ≤ hi by omega); omega, by omega, by
        have := Int.mul_le_mul x'.2 y'.2 (by omega) (by omega); omega⟩
      rw [x] at H1
      rw [y] at H2
      obtain ⟨q, hq⟩ : ∃ q, xs.all finW = q := ⟨_, rfl⟩
      rw [hq] at FC ⊢
      by_cases z : n = p
      · have hv : validB wd hi n = true := valid_of x y (by omega)
        have HV := Lib.hid hv
        obtain rfl := z
        clear x y hq hv
        go_enter Try.func38, Try.ntmps38
        go_wp2_with fail
        refine (H1.out _).mono ?_
        rintro e w' ⟨rfl, hw'⟩
        obtain rfl := hw'.symm
        go_wp2_with fail
        refine (H2.out _).mono ?_
        rintro e w' ⟨rfl, hw'⟩
        obtain rfl := hw'.symm
        go_wp2_with fail
        refine FC.out.mono ?_
        rintro e w5 ⟨rfl, m, h5⟩
        have H5 := Lib.hid h5
        clear h5
        go_wp2
        go_ret
        exact ⟨ret_bool (by rw [HV.out]; simp), m, H5.out⟩
      · have hv : validB wd hi n = false := valid_not (fun h => z (by omega))
        have HV := Lib.hid hv
        have hnd : ((n : Int) == (p : Int)) = false := by simp; omega
        clear x y hq hv FC z
        go_enter Try.func38, Try.ntmps38
        go_wp2_with fail
        refine (H1.out _).mono ?_
        rintro e w' ⟨rfl, hw'⟩
        obtain rfl := hw'.symm
        go_wp2_with fail
        refine (H2.out _).mono ?_
        rintro e w' ⟨rfl, hw'⟩
        obtain rfl := hw'.symm
        go_wp2
        go_ret
        exact ⟨ret_bool (by rw [HV.out]; simp), 0, rfl⟩
    · have hv : validB wd hi n = false := valid_not (fun h => y h.2.1)
      have HV := Lib.hid hv
      rw [Bool.not_eq_true] at y
      rw [x] at H1
      rw [y] at H2
      clear x y hv FC
      go_enter Try.func38, Try.ntmps38
      go_wp2_with fail
      refine (H1.out _).mono ?_
      rintro e w' ⟨rfl, hw'⟩
      obtain rfl := hw'.symm
      go_wp2_with fail
      refine (H2.out _).mono ?_
      rintro e w' ⟨rfl, hw'⟩
      obtain rfl := hw'.symm
      go_wp2
      go_ret
      exact ⟨ret_bool (by rw [HV.out]; simp), 0, rfl⟩
  · have hv : validB wd hi n = false := valid_not (fun h => x h.1)
    have HV := Lib.hid hv
    rw [Bool.not_eq_true] at x
    rw [x] at H1
    clear x hv FC
    go_enter Try.func38, Try.ntmps38
    go_wp2_with fail
    refine (H1.out _).mono ?_
    rintro e w' ⟨rfl, hw'⟩
    obtain rfl := hw'.symm
    go_wp2
    go_ret
    exact ⟨ret_bool (by rw [HV.out]; simp), 0, rfl⟩
end Go.Proofs.Ytbkacmklgkgamaa
