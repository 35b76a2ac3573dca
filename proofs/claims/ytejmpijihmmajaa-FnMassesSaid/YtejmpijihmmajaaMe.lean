/- Walks: quotients of complex numbers, finiteness, shares. Conditions: finite parts, of middling size; a divisor that is not too small. -/
import Derived.Test.YtejmpijihmmajaaMd
namespace Go.Proofs.Ytejmpijihmmajaa
open Go.RowKit
open Num Quick

abbrev lowM : Rat := 1048576
abbrev tiny : Rat := 1 / 1099511627776
theorem low_mid {x : Rat} (h : InR x lowM) : InR x mid := by
  have : (lowM : Rat) ≤ mid := by decide
  unfold InR at *
  grind
theorem div_in {x n B : Rat} (hx : InR x B) (hn : tiny ≤ n) (hB : 0 ≤ B) : InR (x / n) (B * 1099511627776) := by
  have ht : (0 : Rat) < tiny := by decide +kernel
  have hn0 : 0 < n := by grind
  have e : x / n * n = x := by grind
  obtain ⟨h1, h2⟩ := hx
  have hBn : B ≤ B * 1099511627776 * n := by
    have := Rat.mul_le_mul_of_nonneg_left hn (show 0 ≤ B * 1099511627776 from Rat.mul_nonneg hB (by decide))
    have e2 : (1099511627776 : Rat) * tiny = 1 := by decide +kernel
    grind
  constructor
  · apply rat_cancel hn0
    grind
  · apply rat_cancel hn0
    grind
theorem c0 : Fl .f32 0 ∧ fv .f32 0 = 0 := by
  refine ⟨?_, ?_⟩
  · show (0 : Nat) % FloatKind.f32.format.signWeight < FloatKind.f32.format.infRung
    decide +kernel
  · unfold fv val rv p2
    decide +kernel
theorem c1 : Fl .f32 1065353216 ∧ fv .f32 1065353216 = 1 := by
  refine ⟨?_, ?_⟩
  · show (1065353216 : Nat) % FloatKind.f32.format.signWeight < FloatKind.f32.format.infRung
    decide +kernel
  · unfold fv val rv p2
    decide +kernel
theorem isFinite_num {a : Nat} (ha : Fl .f32 a) (w : World) : Calls Try.prog 40 #[.float .f32 a] w fun e w' => e = .returned (.bool true) ∧ w' = w := by
  have h0 : (0 : Rat) ≤ top := by decide
  have h1 : (-top : Rat) ≤ 0 := by decide +kernel
  obtain ⟨d, d1, d2⟩ := fsub ha ha (by grind) (by grind)
  have hd : fv .f32 d = 0 := by
    have e : fv .f32 a - fv .f32 a = 0 := by grind
    rw [e] at d2
    exact d2.exact _ (by rw [← c0.2]; exact rep_val _ c0.1)
  have hc : (FloatKind.f32.format.order d 0 == some .eq) = true := by
    rw [cmp_eq' d2.fin c0.1 (by rw [hd, c0.2])]; decide
  have k1 := r32 d1
  clear d1 d2 hd h0 h1 ha
  go_enter Try.func40, Try.ntmps40
  go_wp2
  go_ret
  exact ⟨rfl, rfl⟩
theorem finiteC_num {a b : Nat} (ha : Fl .f32 a) (hb : Fl .f32 b) (w : World) : Calls Try.prog 23 #[.complex .f32 a b] w fun e w' => e = .returned (.bool true) ∧ w' = w := by
  have C1 := Lib.hid (fun w => isFinite_num ha w)
  have C2 := Lib.hid (fun w => isFinite_num hb w)
  clear ha hb
  go_enter Try.func23, Try.ntmps23
  go_wp2_with fail
  refine (C1.out _).mono ?_
  rintro e w1 ⟨rfl, rfl⟩
  go_wp2_with fail
  refine (C2.out _).mono ?_
  rintro e w1 ⟨rfl, rfl⟩
  go_wp2
  go_ret
  exact ⟨rfl, rfl⟩
theorem isShare_num {a : Nat} (ha : Fl .f32 a) (h0 : 0 ≤ fv .f32 a) (h1 : fv .f32 a ≤ 1) (w : World) : Calls Try.prog 32 #[.float .f32 a] w fun e w' => e = .returned (.bool true) ∧ w' = w := by
  have l1 := (le_cmp ha c1.1 (by rw [c1.2]; exact h1)).1
  have l2 : (FloatKind.f32.format.order a 0 == some .gt || FloatKind.f32.format.order a 0 == some .eq) = true := by
    by_cases c : 0 < fv .f32 a
    · rw [cmp_gt' ha c0.1 (by rw [c0.2]; exact c)]; decide
    · rw [cmp_eq' ha c0.1 (by rw [c0.2]; grind)]; decide
  clear ha h0 h1
  rw [Bool.or_eq_true] at l1 l2
  rcases l1 with l1 | l1 <;> rcases l2 with l2 | l2
  all_goals
    go_enter Try.func32, Try.ntmps32
    go_wp2
    go_ret
    exact ⟨ret_b (by first | rfl | simp_all), rfl⟩
end Go.Proofs.Ytejmpijihmmajaa
