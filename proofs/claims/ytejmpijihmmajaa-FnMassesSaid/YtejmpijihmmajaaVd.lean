/- Walks: whether a field is valid, by the program and by the reference. -/
import Derived.Test.YtejmpijihmmajaaIb
import Derived.Test.YtejmpijihmmajaaFd
namespace Go.Proofs.Ytejmpijihmmajaa
open Go.RowKit

def validB (wd hi : Int) (n : Nat) : Bool := decide (1 ≤ wd ∧ wd ≤ 16 ∧ 1 ≤ hi ∧ hi ≤ 16 ∧ (n : Int) = wd * hi)

theorem ret_bool {a b : Bool} (h : a = b) : Ending.returned (.bool a) = .returned (.bool b) := by rw [h]

set_option maxHeartbeats 400000 in
theorem within_any (n l h : Int) (w : World) : Calls Try.prog 41 #[.int .i64 n, .int .i64 l, .int .i64 h] w fun e w' => e = .returned (.bool (inB n l h)) ∧ w' = w := by
  by_cases h1 : l ≤ n
  · by_cases h2 : n ≤ h
    · go_enter Try.func41, Try.ntmps41
      go_wp2
      go_ret
      exact ⟨ret_bool (by unfold inB; symm; simp; omega), rfl⟩
    · go_enter Try.func41, Try.ntmps41
      go_wp2
      go_ret
      exact ⟨ret_bool (by unfold inB; symm; simp; omega), rfl⟩
  · go_enter Try.func41, Try.ntmps41
    go_wp2
    go_ret
    exact ⟨ret_bool (by unfold inB; symm; simp; omega), rfl⟩


set_option maxHeartbeats 400000 in
theorem isFieldSide_any (n : Int) (w : World) : Calls Try.prog 24 #[.int .i64 n] w fun e w' => e = .returned (.bool (inB n 1 16)) ∧ w' = w := by
  go_enter Try.func24, Try.ntmps24
  go_wp2_with (go_at_call 41; refine (within_any _ _ _ _).mono ?_; rintro e w' ⟨rfl, rfl⟩)
  go_ret
  exact ⟨rfl, rfl⟩


theorem valid_of {wd hi : Int} {n : Nat} (h1 : inB wd 1 16 = true) (h2 : inB hi 1 16 = true) (h3 : (n : Int) = wd * hi) : validB wd hi n = true := by
  unfold inB at h1 h2
  unfold validB
  simp at h1 h2 ⊢
  omega
theorem valid_not {wd hi : Int} {n : Nat} (h : ¬ (inB wd 1 16 = true ∧ inB hi 1 16 = true ∧ (n : Int) = wd * hi)) : validB wd hi n = false := by
  unfold inB at h
  unfold validB
  simp at h ⊢
  omega

set_option maxRecDepth 100000 in
set_option maxHeartbeats 400000 in
theorem ValidField_any (wd hi : Int) (A : Option Addr) (n c : Nat) (w : World) : Calls Try.prog 17 #[fieldV wd hi A n c] w fun e w' => e = .returned (.bool (validB wd hi n)) ∧ Below w.heap.size w w' := by
  have h1 := fun w => isFieldSide_any wd w
  have h2 := fun w => isFieldSide_any hi w
  have H1 := Lib.hid h1
  have H2 := Lib.hid h2
  clear h1 h2
  unfold fieldV
  by_cases x : inB wd 1 16 = true
  · by_cases y : inB hi 1 16 = true
    · have x' : 1 ≤ wd ∧ wd ≤ 16 := by simpa [inB] using x
      have y' : 1 ≤ hi ∧ hi ≤ 16 := by simpa [inB] using y
      obtain ⟨p, hp, hp1, hp2⟩ : ∃ p : Int, wd * hi = p ∧ 0 ≤ p ∧ p ≤ 256 := ⟨_, rfl, Int.mul_nonneg (by omega) (by omega), by
        have := Int.mul_le_mul x'.2 y'.2 (by omega) (by omega); omega⟩
      have hv : validB wd hi n = ((n : Int) == p) := by
        by_cases z : (n : Int) = wd * hi
        · rw [valid_of x y z]; symm; simpa [← hp] using z
        · rw [valid_not (fun h => z h.2.2)]; symm; simpa [← hp] using z
      rw [hv]
      rw [x] at H1
      rw [y] at H2
      clear x y hv
      go_enter Try.func17, Try.ntmps17
      go_wp2_with fail
      refine (H1.out _).mono ?_
      rintro e w' ⟨rfl, rfl⟩
      go_wp2_with fail
      refine (H2.out _).mono ?_
      rintro e w' ⟨rfl, rfl⟩
      go_wp2
      go_ret
      exact ⟨rfl, by go_grown⟩
    · rw [valid_not (fun h => y h.2.1)]
      rw [x] at H1
      rw [Bool.not_eq_true] at y
      rw [y] at H2
      clear x y
      go_enter Try.func17, Try.ntmps17
      go_wp2_with fail
      refine (H1.out _).mono ?_
      rintro e w' ⟨rfl, rfl⟩
      go_wp2_with fail
      refine (H2.out _).mono ?_
      rintro e w' ⟨rfl, rfl⟩
      go_wp2
      go_ret
      exact ⟨rfl, by go_grown⟩
  · rw [valid_not (fun h => x h.1)]
    rw [Bool.not_eq_true] at x
    rw [x] at H1
    clear x
    go_enter Try.func17, Try.ntmps17
    go_wp2_with fail
    refine (H1.out _).mono ?_
    rintro e w' ⟨rfl, rfl⟩
    go_wp2
    go_ret
    exact ⟨rfl, by go_grown⟩

theorem below_drewN {B : Nat} {a w : World} (h : Below B a w) (n : Nat) : Below B a (w.drewN n) := ⟨h.os, h.tape, h.output, h.size, h.block⟩

end Go.Proofs.Ytejmpijihmmajaa
