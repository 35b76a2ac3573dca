/- Walks: powers, lengths, quotients and sizes, told as rational numbers. Conditions: finite parts, of middling size. -/
import Derived.Test.YtoibgpmpngccjaaMb
namespace Go.Proofs.Ytoibgpmpngccjaa
open Go.RowKit
open Num Quick

theorem sq_in {x : Rat} (h : InR x mid) : 0 ≤ x * x ∧ x * x ≤ mid * mid := by
  refine ⟨?_, (prod_in h h (by decide)).1⟩
  rcases (Rat.le_total : 0 ≤ x ∨ x ≤ 0) with c | c
  · exact Rat.mul_nonneg c c
  · have := Rat.mul_nonneg (show 0 ≤ -x by grind) (show 0 ≤ -x by grind)
    grind
theorem mid_top : mid * mid + mid * mid ≤ top := by decide +kernel
/-- The power of two singles, as a double. -/
theorem fpower {a b : Nat} (ha : Fl .f32 a) (hb : Fl .f32 b) (ia : InR (fv .f32 a) mid) (ib : InR (fv .f32 b) mid) :
    ∃ x y p q u, qwide a = some x ∧ qwide b = some y ∧ floatBits .mul .f64 x x = some p ∧ floatBits .mul .f64 y y = some q ∧ floatBits .add .f64 p q = some u ∧ FR .f64 (fv .f32 a * fv .f32 a + fv .f32 b * fv .f32 b) u ∧ 0 ≤ fv .f64 u ∧ fv .f64 u ≤ top := by
  obtain ⟨a', a1, a2, a3, a4⟩ := fwide ha
  obtain ⟨b', b1, b2, b3, b4⟩ := fwide hb
  have sa := sq_in ia
  have sb := sq_in ib
  have mt := mid_top
  have mm : (0 : Rat) ≤ mid * mid := by decide +kernel
  obtain ⟨p, p1, p2, p3⟩ := fmul_wide ha ha a2 a2 a4 a4 (by unfold InR; grind)
  obtain ⟨q, q1, q2, q3⟩ := fmul_wide hb hb b2 b2 b4 b4 (by unfold InR; grind)
  obtain ⟨u, u1, u2⟩ := fadd p2 q2 (by grind) (by grind)
  rw [p3, q3] at u2
  have h0 := u2.ge_int 0 (by decide) (by rw [Rat.intCast_zero]; grind)
  have h1 := u2.within 100 (by decide) (by decide) (by rw [p2_100]; grind) (by rw [p2_100]; grind)
  rw [p2_100] at h1
  rw [Rat.intCast_zero] at h0
  exact ⟨a', b', p, q, u, a1, b1, p1, q1, u1, u2, h0, h1.1⟩
/-- The length of two singles. -/
theorem flong {a b : Nat} (ha : Fl .f32 a) (hb : Fl .f32 b) (ia : InR (fv .f32 a) mid) (ib : InR (fv .f32 b) mid) :
    ∃ x y p q u s r, qwide a = some x ∧ qwide b = some y ∧ floatBits .mul .f64 x x = some p ∧ floatBits .mul .f64 y y = some q ∧ floatBits .add .f64 p q = some u ∧ FloatKind.f64.format.sqrt u = some s ∧ qnarrow s = some r ∧
      IsRoot FloatKind.f32.format (fv .f32 a * fv .f32 a + fv .f32 b * fv .f32 b) r := by
  obtain ⟨x, y, p, q, u, h1, h2, h3, h4, h5, h6, h7, h8⟩ := fpower ha hb ia ib
  obtain ⟨s, s1, s2⟩ := fsqrt h6.fin h7 h8
  have hs : fv .f64 s ≤ top := by
    have := rep_at .f64 1 100 (by decide) (by decide) (by decide)
    rw [p2_100] at this
    have e : ((1 : Int) : Rat) * top = top := by rw [Rat.intCast_one]; exact Rat.one_mul _
    rw [e] at this
    have tt : (top : Rat) ≤ top * top := by decide +kernel
    exact s2.le _ this (by decide) (by grind)
  have hn : (-top : Rat) ≤ 0 := by decide +kernel
  obtain ⟨r, r1, r2⟩ := fnarrow s2.fin hs (by have := s2.nonneg; grind)
  exact ⟨x, y, p, q, u, s, r, h1, h2, h3, h4, h5, s1, r1, IsRoot.twice h6 s2 r2⟩
theorem c1000 : Fl .f32 1148846080 ∧ fv .f32 1148846080 = 1000 := by
  refine ⟨?_, ?_⟩
  · show (1148846080 : Nat) % FloatKind.f32.format.signWeight < FloatKind.f32.format.infRung
    decide +kernel
  · unfold fv val rv p2
    decide +kernel
end Go.Proofs.Ytoibgpmpngccjaa

namespace Go.Proofs.Ytoibgpmpngccjaa
open Go.RowKit
open Num Quick

abbrev lowM : Rat := 1048576
abbrev tiny : Rat := 1 / 1099511627776
theorem low_mid {x : Rat} (h : InR x lowM) : InR x mid := by
  have : (lowM : Rat) ≤ mid := by decide
  unfold InR at *
  grind
theorem div_in {x n B : Rat} (hx : InR x B) (hn : tiny ≤ n) (hB : 0 ≤ B) : InR (x / n) (B * 1099511627776) := by
  have ht : (0 : Rat) < tiny := by decide +kernel
  have hn0 : 0 < n := by grind
  have e : x / n * n = x := by grind
  obtain ⟨h1, h2⟩ := hx
  have hBn : B ≤ B * 1099511627776 * n := by
    have := Rat.mul_le_mul_of_nonneg_left hn (show 0 ≤ B * 1099511627776 from Rat.mul_nonneg hB (by decide))
    have e2 : (1099511627776 : Rat) * tiny = 1 := by decide +kernel
    grind
  constructor
  · apply rat_cancel hn0
    grind
  · apply rat_cancel hn0
    grind
theorem c0 : Fl .f32 0 ∧ fv .f32 0 = 0 := by
  refine ⟨?_, ?_⟩
  · show (0 : Nat) % FloatKind.f32.format.signWeight < FloatKind.f32.format.infRung
    decide +kernel
  · unfold fv val rv p2
    decide +kernel
theorem c1 : Fl .f32 1065353216 ∧ fv .f32 1065353216 = 1 := by
  refine ⟨?_, ?_⟩
  · show (1065353216 : Nat) % FloatKind.f32.format.signWeight < FloatKind.f32.format.infRung
    decide +kernel
  · unfold fv val rv p2
    decide +kernel
theorem isFinite_num {a : Nat} (ha : Fl .f32 a) (w : World) : Calls Try.prog 25 #[.float .f32 a] w fun e w' => e = .returned (.bool true) ∧ w' = w := by
  have h0 : (0 : Rat) ≤ top := by decide
  have h1 : (-top : Rat) ≤ 0 := by decide +kernel
  obtain ⟨d, d1, d2⟩ := fsub ha ha (by grind) (by grind)
  have hd : fv .f32 d = 0 := by
    have e : fv .f32 a - fv .f32 a = 0 := by grind
    rw [e] at d2
    exact d2.exact _ (by rw [← c0.2]; exact rep_val _ c0.1)
  have hc : (FloatKind.f32.format.order d 0 == some .eq) = true := by
    rw [cmp_eq' d2.fin c0.1 (by rw [hd, c0.2])]; decide
  have k1 := r32 d1
  clear d1 d2 hd h0 h1 ha
  go_enter Try.func25, Try.ntmps25
  go_wp2
  go_ret
  exact ⟨rfl, rfl⟩
theorem ifNumber_num {a : Nat} (ha : Fl .f32 a) (w : World) : Calls Try.prog 40 #[.float .f32 a] w fun e w' => e = .returned (.tuple #[.float .f32 a, .bool true]) ∧ w' = w := by
  have C1 := Lib.hid (fun w => isFinite_num ha w)
  clear ha
  go_enter Try.func40, Try.ntmps40
  go_wp2_with fail
  refine (C1.out _).mono ?_
  rintro e w1 ⟨rfl, rfl⟩
  go_wp2
  go_ret2
  exact ⟨rfl, rfl⟩
theorem isShare_num {a : Nat} (ha : Fl .f32 a) (h0 : 0 ≤ fv .f32 a) (h1 : fv .f32 a ≤ 1) (w : World) : Calls Try.prog 53 #[.float .f32 a] w fun e w' => e = .returned (.bool true) ∧ w' = w := by
  have l1 := (le_cmp ha c1.1 (by rw [c1.2]; exact h1)).1
  have l2 : (FloatKind.f32.format.order a 0 == some .gt || FloatKind.f32.format.order a 0 == some .eq) = true := by
    by_cases c : 0 < fv .f32 a
    · rw [cmp_gt' ha c0.1 (by rw [c0.2]; exact c)]; decide
    · rw [cmp_eq' ha c0.1 (by rw [c0.2]; grind)]; decide
  clear ha h0 h1
  rw [Bool.or_eq_true] at l1 l2
  rcases l1 with l1 | l1 <;> rcases l2 with l2 | l2
  all_goals
    go_enter Try.func53, Try.ntmps53
    go_wp2
    go_ret
    exact ⟨ret_b (by first | rfl | simp_all), rfl⟩
end Go.Proofs.Ytoibgpmpngccjaa
