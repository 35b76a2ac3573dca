/- Walks: powers, lengths, quotients and sizes, told as rational numbers. Conditions: finite parts, of middling size. -/
import Derived.Test.YtkldgcgijkfpaaaMb
namespace Go.Proofs.Ytkldgcgijkfpaaa
open Go.RowKit
open Num Quick

theorem sq_in {x : Rat} (h : InR x mid) : 0 ≤ x * x ∧ x * x ≤ mid * mid := by
  refine ⟨?_, (prod_in h h (by decide)).1⟩
  rcases (Rat.le_total : 0 ≤ x ∨ x ≤ 0) with c | c
  · exact Rat.mul_nonneg c c
  · have := Rat.mul_nonneg (show 0 ≤ -x by grind) (show 0 ≤ -x by grind)
    grind
theorem mid_top : mid * mid + mid * mid ≤ top := by decide +kernel
/-- The power of two singles, as a double. -/
theorem fpower {a b : Nat} (ha : Fl .f32 a) (hb : Fl .f32 b) (ia : InR (fv .f32 a) mid) (ib : InR (fv .f32 b) mid) :
    ∃ x y p q u, qwide a = some x ∧ qwide b = some y ∧ floatBits .mul .f64 x x = some p ∧ floatBits .mul .f64 y y = some q ∧ floatBits .add .f64 p q = some u ∧ FR .f64 (fv .f32 a * fv .f32 a + fv .f32 b * fv .f32 b) u ∧ 0 ≤ fv .f64 u ∧ fv .f64 u ≤ top := by
  obtain ⟨a', a1, a2, a3, a4⟩ := fwide ha
  obtain ⟨b', b1, b2, b3, b4⟩ := fwide hb
  have sa := sq_in ia
  have sb := sq_in ib
  have mt := mid_top
  have mm : (0 : Rat) ≤ mid * mid := by decide +kernel
  obtain ⟨p, p1, p2, p3⟩ := fmul_wide ha ha a2 a2 a4 a4 (by unfold InR; grind)
  obtain ⟨q, q1, q2, q3⟩ := fmul_wide hb hb b2 b2 b4 b4 (by unfold InR; grind)
  obtain ⟨u, u1, u2⟩ := fadd p2 q2 (by grind) (by grind)
  rw [p3, q3] at u2
  have h0 := u2.ge_int 0 (by decide) (by rw [Rat.intCast_zero]; grind)
  have h1 := u2.within 100 (by decide) (by decide) (by rw [p2_100]; grind) (by rw [p2_100]; grind)
  rw [p2_100] at h1
  rw [Rat.intCast_zero] at h0
  exact ⟨a', b', p, q, u, a1, b1, p1, q1, u1, u2, h0, h1.1⟩
/-- The length of two singles. -/
theorem flong {a b : Nat} (ha : Fl .f32 a) (hb : Fl .f32 b) (ia : InR (fv .f32 a) mid) (ib : InR (fv .f32 b) mid) :
    ∃ x y p q u s r, qwide a = some x ∧ qwide b = some y ∧ floatBits .mul .f64 x x = some p ∧ floatBits .mul .f64 y y = some q ∧ floatBits .add .f64 p q = some u ∧ FloatKind.f64.format.sqrt u = some s ∧ qnarrow s = some r ∧
      IsRoot FloatKind.f32.format (fv .f32 a * fv .f32 a + fv .f32 b * fv .f32 b) r := by
  obtain ⟨x, y, p, q, u, h1, h2, h3, h4, h5, h6, h7, h8⟩ := fpower ha hb ia ib
  obtain ⟨s, s1, s2⟩ := fsqrt h6.fin h7 h8
  have hs : fv .f64 s ≤ top := by
    have := rep_at .f64 1 100 (by decide) (by decide) (by decide)
    rw [p2_100] at this
    have e : ((1 : Int) : Rat) * top = top := by rw [Rat.intCast_one]; exact Rat.one_mul _
    rw [e] at this
    have tt : (top : Rat) ≤ top * top := by decide +kernel
    exact s2.le _ this (by decide) (by grind)
  have hn : (-top : Rat) ≤ 0 := by decide +kernel
  obtain ⟨r, r1, r2⟩ := fnarrow s2.fin hs (by have := s2.nonneg; grind)
  exact ⟨x, y, p, q, u, s, r, h1, h2, h3, h4, h5, s1, r1, IsRoot.twice h6 s2 r2⟩
theorem long_num {a b : Nat} (ha : Fl .f32 a) (hb : Fl .f32 b) (ia : InR (fv .f32 a) mid) (ib : InR (fv .f32 b) mid) :
    ∃ r, (∀ w : World, Calls Try.prog 18 #[.complex .f32 a b] w fun e w' => e = .returned (.float .f32 r) ∧ w' = w) ∧
      IsRoot FloatKind.f32.format (fv .f32 a * fv .f32 a + fv .f32 b * fv .f32 b) r := by
  obtain ⟨x, y, p, q, u, s, r, h1, h2, h3, h4, h5, h6, h7, h8⟩ := flong ha hb ia ib
  have S1 := Lib.hid (fun w => sqrt_w w h6)
  have k1 := rNarrow h7
  have H8 := Lib.hid h8
  have C1 := Lib.hid (fun w => power_w w h1 h2 h3 h4 h5)
  have g1 := rWide h1
  have g2 := rWide h2
  have g3 := r64 h3
  have g4 := r64 h4
  have g5 := r64 h5
  clear h1 h2 h3 h4 h5 h6 h7 h8 ha hb ia ib
  refine ⟨r, fun w => ?_,
    H8.out⟩
  · clear g1 g2 g3 g4 g5 H8
    go_enter Try.func18, Try.ntmps18
    go_wp2_with fail
    refine (C1.out _).mono ?_
    rintro e w1 ⟨rfl, rfl⟩
    go_wp2_with fail
    refine (S1.out _).mono ?_
    rintro e w1 ⟨rfl, rfl⟩
    go_wp2
    go_ret
    exact ⟨rfl, rfl⟩
/-- The absolute value of a single. -/
theorem size_num {a : Nat} (ha : Fl .f32 a) : ∃ r, (∀ w : World, Calls Try.prog 76 #[.float .f32 a] w fun e w' => e = .returned (.float .f32 r) ∧ w' = w) ∧ Fl .f32 r ∧ fv .f32 r = (if 0 ≤ fv .f32 a then fv .f32 a else -fv .f32 a) := by
  obtain ⟨x, x1, x2, x3, x4⟩ := fwide ha
  obtain ⟨b1, b2, b3⟩ := absP_num x2
  rw [x4] at b2
  have hrep : Rep FloatKind.f32.format (if 0 ≤ fv .f32 a then fv .f32 a else -fv .f32 a) := by
    split
    · exact rep_val _ ha
    · exact (rep_val _ ha).neg
  obtain ⟨r, r1, r2⟩ : ∃ r, qnarrow (absP x) = some r ∧ FR .f32 (fv .f64 (absP x)) r := by
    rw [qnarrow_eq]
    refine fconv .f64 .f32 (by decide) b1 ?_
    rw [b2]
    exact ⟨_, hrep, Rat.le_refl, by split <;> grind⟩
  refine ⟨r, fun w => ?_, r2.fin, by rw [← b2]; exact r2.exact _ (by rw [b2]; exact hrep)⟩
  have A1 := abs_w w x x3
  have k1 := rWide x1
  have k2 := rNarrow r1
  clear x1 x2 x3 x4 b1 b2 b3 hrep r1 r2 ha
  go_enter Try.func76, Try.ntmps76
  go_wp2_with fail
  refine A1.mono ?_
  rintro e w1 ⟨rfl, rfl⟩
  go_wp2
  go_ret
  exact ⟨rfl, rfl⟩
theorem c1000 : Fl .f32 1148846080 ∧ fv .f32 1148846080 = 1000 := by
  refine ⟨?_, ?_⟩
  · show (1148846080 : Nat) % FloatKind.f32.format.signWeight < FloatKind.f32.format.infRung
    decide +kernel
  · unfold fv val rv p2
    decide +kernel
end Go.Proofs.Ytkldgcgijkfpaaa
