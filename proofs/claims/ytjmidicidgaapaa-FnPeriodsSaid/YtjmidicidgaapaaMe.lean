/- Walks: powers, lengths, quotients and sizes, told as rational numbers. Conditions: finite parts, of middling size. -/
import Derived.Test.YtjmidicidgaapaaMb
namespace Go.Proofs.Ytjmidicidgaapaa
open Go.RowKit
open Num Quick

theorem sq_in {x : Rat} (h : InR x mid) : 0 ≤ x * x ∧ x * x ≤ mid * mid := by
  refine ⟨?_, (prod_in h h (by decide)).1⟩
  rcases (Rat.le_total : 0 ≤ x ∨ x ≤ 0) with c | c
  · exact Rat.mul_nonneg c c
  · have := Rat.mul_nonneg (show 0 ≤ -x by grind) (show 0 ≤ -x by grind)
    grind
theorem mid_top : mid * mid + mid * mid ≤ top := by decide +kernel
/-- The power of two singles, as a double. -/
theorem fpower {a b : Nat} (ha : Fl .f32 a) (hb : Fl .f32 b) (ia : InR (fv .f32 a) mid) (ib : InR (fv .f32 b) mid) :
    ∃ x y p q u, qwide a = some x ∧ qwide b = some y ∧ floatBits .mul .f64 x x = some p ∧ floatBits .mul .f64 y y = some q ∧ floatBits .add .f64 p q = some u ∧ FR .f64 (fv .f32 a * fv .f32 a + fv .f32 b * fv .f32 b) u ∧ 0 ≤ fv .f64 u ∧ fv .f64 u ≤ top := by
  obtain ⟨a', a1, a2, a3, a4⟩ := fwide ha
  obtain ⟨b', b1, b2, b3, b4⟩ := fwide hb
  have sa := sq_in ia
  have sb := sq_in ib
  have mt := mid_top
  have mm : (0 : Rat) ≤ mid * mid := by decide +kernel
  obtain ⟨p, p1, p2, p3⟩ := fmul_wide ha ha a2 a2 a4 a4 (by unfold InR; grind)
  obtain ⟨q, q1, q2, q3⟩ := fmul_wide hb hb b2 b2 b4 b4 (by unfold InR; grind)
  obtain ⟨u, u1, u2⟩ := fadd p2 q2 (by grind) (by grind)
  rw [p3, q3] at u2
  have h0 := u2.ge_int 0 (by decide) (by rw [Rat.intCast_zero]; grind)
  have h1 := u2.within 100 (by decide) (by decide) (by rw [p2_100]; grind) (by rw [p2_100]; grind)
  rw [p2_100] at h1
  rw [Rat.intCast_zero] at h0
  exact ⟨a', b', p, q, u, a1, b1, p1, q1, u1, u2, h0, h1.1⟩
theorem powerOf_num {a b : Nat} (ha : Fl .f32 a) (hb : Fl .f32 b) (ia : InR (fv .f32 a) mid) (ib : InR (fv .f32 b) mid) :
    ∃ r, (∀ w : World, Calls Try.prog 47 #[.complex .f32 a b] w fun e w' => e = .returned (.float .f32 r) ∧ w' = w) ∧ FR .f32 (fv .f32 a * fv .f32 a + fv .f32 b * fv .f32 b) r := by
  obtain ⟨x, y, p, q, u, h1, h2, h3, h4, h5, h6, h7, h8⟩ := fpower ha hb ia ib
  obtain ⟨r, r1, r2⟩ := fnarrow h6.fin h8 (by have : (-top : Rat) ≤ 0 := by decide +kernel
                                              grind)
  refine ⟨r, fun w => ?_, h6.twice r2⟩
  have C1 := power_w w h1 h2 h3 h4 h5
  have k1 := rNarrow r1
  clear h1 h2 h3 h4 h5 h6 h7 h8 r1 r2 ha hb ia ib
  go_enter Try.func47, Try.ntmps47
  go_wp2_with fail
  refine C1.mono ?_
  rintro e w1 ⟨rfl, rfl⟩
  go_wp2
  go_ret
  exact ⟨rfl, rfl⟩
/-- The length of two singles. -/
theorem flong {a b : Nat} (ha : Fl .f32 a) (hb : Fl .f32 b) (ia : InR (fv .f32 a) mid) (ib : InR (fv .f32 b) mid) :
    ∃ x y p q u s r, qwide a = some x ∧ qwide b = some y ∧ floatBits .mul .f64 x x = some p ∧ floatBits .mul .f64 y y = some q ∧ floatBits .add .f64 p q = some u ∧ FloatKind.f64.format.sqrt u = some s ∧ qnarrow s = some r ∧
      IsRoot FloatKind.f32.format (fv .f32 a * fv .f32 a + fv .f32 b * fv .f32 b) r := by
  obtain ⟨x, y, p, q, u, h1, h2, h3, h4, h5, h6, h7, h8⟩ := fpower ha hb ia ib
  obtain ⟨s, s1, s2⟩ := fsqrt h6.fin h7 h8
  have hs : fv .f64 s ≤ top := by
    have := rep_at .f64 1 100 (by decide) (by decide) (by decide)
    rw [p2_100] at this
    have e : ((1 : Int) : Rat) * top = top := by rw [Rat.intCast_one]; exact Rat.one_mul _
    rw [e] at this
    have tt : (top : Rat) ≤ top * top := by decide +kernel
    exact s2.le _ this (by decide) (by grind)
  have hn : (-top : Rat) ≤ 0 := by decide +kernel
  obtain ⟨r, r1, r2⟩ := fnarrow s2.fin hs (by have := s2.nonneg; grind)
  exact ⟨x, y, p, q, u, s, r, h1, h2, h3, h4, h5, s1, r1, IsRoot.twice h6 s2 r2⟩
theorem long_num {a b : Nat} (ha : Fl .f32 a) (hb : Fl .f32 b) (ia : InR (fv .f32 a) mid) (ib : InR (fv .f32 b) mid) :
    ∃ r, (∀ w : World, Calls Try.prog 9 #[.complex .f32 a b] w fun e w' => e = .returned (.float .f32 r) ∧ w' = w) ∧
      IsRoot FloatKind.f32.format (fv .f32 a * fv .f32 a + fv .f32 b * fv .f32 b) r := by
  obtain ⟨x, y, p, q, u, s, r, h1, h2, h3, h4, h5, h6, h7, h8⟩ := flong ha hb ia ib
  have S1 := Lib.hid (fun w => sqrt_w w h6)
  have k1 := rNarrow h7
  have H8 := Lib.hid h8
  have C1 := Lib.hid (fun w => power_w w h1 h2 h3 h4 h5)
  have g1 := rWide h1
  have g2 := rWide h2
  have g3 := r64 h3
  have g4 := r64 h4
  have g5 := r64 h5
  clear h1 h2 h3 h4 h5 h6 h7 h8 ha hb ia ib
  refine ⟨r, fun w => ?_,
    H8.out⟩
  · clear g1 g2 g3 g4 g5 H8
    go_enter Try.func9, Try.ntmps9
    go_wp2_with fail
    refine (C1.out _).mono ?_
    rintro e w1 ⟨rfl, rfl⟩
    go_wp2_with fail
    refine (S1.out _).mono ?_
    rintro e w1 ⟨rfl, rfl⟩
    go_wp2
    go_ret
    exact ⟨rfl, rfl⟩
/-- The absolute value of a single. -/
theorem size_num {a : Nat} (ha : Fl .f32 a) : ∃ r, (∀ w : World, Calls Try.prog 50 #[.float .f32 a] w fun e w' => e = .returned (.float .f32 r) ∧ w' = w) ∧ Fl .f32 r ∧ fv .f32 r = (if 0 ≤ fv .f32 a then fv .f32 a else -fv .f32 a) := by
  obtain ⟨x, x1, x2, x3, x4⟩ := fwide ha
  obtain ⟨b1, b2, b3⟩ := absP_num x2
  rw [x4] at b2
  have hrep : Rep FloatKind.f32.format (if 0 ≤ fv .f32 a then fv .f32 a else -fv .f32 a) := by
    split
    · exact rep_val _ ha
    · exact (rep_val _ ha).neg
  obtain ⟨r, r1, r2⟩ : ∃ r, qnarrow (absP x) = some r ∧ FR .f32 (fv .f64 (absP x)) r := by
    rw [qnarrow_eq]
    refine fconv .f64 .f32 (by decide) b1 ?_
    rw [b2]
    exact ⟨_, hrep, Rat.le_refl, by split <;> grind⟩
  refine ⟨r, fun w => ?_, r2.fin, by rw [← b2]; exact r2.exact _ (by rw [b2]; exact hrep)⟩
  have A1 := abs_w w x x3
  have k1 := rWide x1
  have k2 := rNarrow r1
  clear x1 x2 x3 x4 b1 b2 b3 hrep r1 r2 ha
  go_enter Try.func50, Try.ntmps50
  go_wp2_with fail
  refine A1.mono ?_
  rintro e w1 ⟨rfl, rfl⟩
  go_wp2
  go_ret
  exact ⟨rfl, rfl⟩
theorem c1000 : Fl .f32 1148846080 ∧ fv .f32 1148846080 = 1000 := by
  refine ⟨?_, ?_⟩
  · show (1148846080 : Nat) % FloatKind.f32.format.signWeight < FloatKind.f32.format.infRung
    decide +kernel
  · unfold fv val rv p2
    decide +kernel
/-- Both parts at most 1000. -/
theorem isSmall_num {a b : Nat} (ha : Fl .f32 a) (hb : Fl .f32 b) (ia : InR (fv .f32 a) 1000) (ib : InR (fv .f32 b) 1000) (w : World) : Calls Try.prog 21 #[.complex .f32 a b] w fun e w' => e = .returned (.bool true) ∧ w' = w := by
  obtain ⟨x, x1, x2, x3⟩ := size_num ha
  obtain ⟨y, y1, y2, y3⟩ := size_num hb
  unfold InR at ia ib
  obtain ⟨c1, c2⟩ := c1000
  have l1 := le_cmp x2 c1 (by rw [x3, c2]; split <;> grind)
  have l2 := le_cmp y2 c1 (by rw [y3, c2]; split <;> grind)
  have h1 := l1.1
  have h2 := l2.1
  have X1 := Lib.hid x1
  have Y1 := Lib.hid y1
  clear l1 l2 x1 x2 x3 y1 y2 y3 c1 c2 ia ib ha hb
  go_enter Try.func21, Try.ntmps21
  go_wp2_with fail
  refine (X1.out _).mono ?_
  rintro e w1 ⟨rfl, rfl⟩
  rw [Bool.or_eq_true] at h1 h2
  rcases h1 with h1 | h1 <;> rcases h2 with h2 | h2
  all_goals
    go_wp2_with fail
    refine (Y1.out _).mono ?_
    rintro e w1 ⟨rfl, rfl⟩
    go_wp2
    go_ret
    exact ⟨ret_b (by first | rfl | simp_all), rfl⟩
end Go.Proofs.Ytjmidicidgaapaa

namespace Go.Proofs.Ytjmidicidgaapaa
open Go.RowKit
open Num Quick

abbrev lowM : Rat := 1048576
abbrev tiny : Rat := 1 / 1099511627776
theorem low_mid {x : Rat} (h : InR x lowM) : InR x mid := by
  have : (lowM : Rat) ≤ mid := by decide
  unfold InR at *
  grind
theorem div_in {x n B : Rat} (hx : InR x B) (hn : tiny ≤ n) (hB : 0 ≤ B) : InR (x / n) (B * 1099511627776) := by
  have ht : (0 : Rat) < tiny := by decide +kernel
  have hn0 : 0 < n := by grind
  have e : x / n * n = x := by grind
  obtain ⟨h1, h2⟩ := hx
  have hBn : B ≤ B * 1099511627776 * n := by
    have := Rat.mul_le_mul_of_nonneg_left hn (show 0 ≤ B * 1099511627776 from Rat.mul_nonneg hB (by decide))
    have e2 : (1099511627776 : Rat) * tiny = 1 := by decide +kernel
    grind
  constructor
  · apply rat_cancel hn0
    grind
  · apply rat_cancel hn0
    grind
theorem quot_num {a b c d : Nat} (ha : Fl .f32 a) (hb : Fl .f32 b) (hc : Fl .f32 c) (hd : Fl .f32 d) (hdl : d < 4294967296) (ia : InR (fv .f32 a) lowM) (ib : InR (fv .f32 b) lowM) (ic : InR (fv .f32 c) lowM) (id : InR (fv .f32 d) lowM)
    (hn : tiny ≤ fv .f32 c * fv .f32 c + fv .f32 d * fv .f32 d) :
    ∃ x y u v n, (∀ w : World, Calls Try.prog 54 #[.complex .f32 a b, .complex .f32 c d] w fun e w' => e = .returned (.complex .f32 x y) ∧ w' = w) ∧
      FR .f64 (fv .f32 a * fv .f32 c + fv .f32 b * fv .f32 d) u ∧ FR .f64 (fv .f32 b * fv .f32 c - fv .f32 a * fv .f32 d) v ∧ FR .f64 (fv .f32 c * fv .f32 c + fv .f32 d * fv .f32 d) n ∧ tiny ≤ fv .f64 n ∧
      FR .f32 (fv .f64 u / fv .f64 n) x ∧ FR .f32 (fv .f64 v / fv .f64 n) y := by
  obtain ⟨a', a1, a2, a3, a4⟩ := fwide ha
  obtain ⟨b', b1, b2, b3, b4⟩ := fwide hb
  obtain ⟨c', d', p2_, q2_, n, c1, d1, n1, n2, n3, n4, n5, n6⟩ := fpower hc hd (low_mid ic) (low_mid id)
  obtain ⟨cc, cc1, c2, c3, c4⟩ := fwide hc
  obtain ⟨dd, dd1, d2, d3, d4⟩ := fwide hd
  obtain rfl : c' = cc := Option.some.inj (c1.symm.trans cc1)
  obtain rfl : d' = dd := Option.some.inj (d1.symm.trans dd1)
  obtain ⟨g1, g2, g3⟩ := ng64_num d2 d3
  have hnd : Fl .f32 (ng32 d) ∧ fv .f32 (ng32 d) = -fv .f32 d := ⟨(ng32_num hd hdl).1, (ng32_num hd hdl).2.1⟩
  have m0 : (0 : Rat) ≤ lowM := by decide
  have mm : lowM * lowM + lowM * lowM ≤ 4398046511104 := by decide +kernel
  have mt : (4398046511104 : Rat) * 1099511627776 ≤ top := by decide +kernel
  have mt2 : (4398046511104 : Rat) ≤ top := by decide +kernel
  have iac := prod_in ia ic m0
  have ibd := prod_in ib id m0
  have iad := prod_in ia id m0
  have ibc := prod_in ib ic m0
  unfold InR at iac ibd iad ibc
  have mm0 : (0 : Rat) ≤ lowM * lowM := by decide +kernel
  obtain ⟨p, pa, pb, pc⟩ := fmul_wide ha hc a2 c2 a4 c4 (by unfold InR; grind)
  obtain ⟨q, q1, q2, q3⟩ := fmul_wide hb hnd.1 b2 g1 b4 (by rw [g2, hnd.2, d4]) (by rw [hnd.2]; unfold InR; grind)
  obtain ⟨r, r1, r2, r3⟩ := fmul_wide ha hnd.1 a2 g1 a4 (by rw [g2, hnd.2, d4]) (by rw [hnd.2]; unfold InR; grind)
  obtain ⟨s, s1, s2, s3⟩ := fmul_wide hb hc b2 c2 b4 c4 (by unfold InR; grind)
  rw [hnd.2] at q3 r3
  obtain ⟨u, u1, u2⟩ := fsub pb q2 (by grind) (by grind)
  obtain ⟨v, v1, v2⟩ := fadd r2 s2 (by grind) (by grind)
  have eu : fv .f64 p - fv .f64 q = fv .f32 a * fv .f32 c + fv .f32 b * fv .f32 d := by grind
  have ev : fv .f64 r + fv .f64 s = fv .f32 b * fv .f32 c - fv .f32 a * fv .f32 d := by grind
  rw [eu] at u2
  rw [ev] at v2
  have B42 : p2 42 = 4398046511104 := by decide +kernel
  have hu := u2.within 42 (by decide) (by decide) (by rw [B42]; grind) (by rw [B42]; grind)
  have hv := v2.within 42 (by decide) (by decide) (by rw [B42]; grind) (by rw [B42]; grind)
  rw [B42] at hu hv
  have ht : p2 (-40) = tiny := by decide +kernel
  have hnn : tiny ≤ fv .f64 n := by
    have hr := rep_at .f64 1 (-40) (by decide) (by decide) (by decide)
    rw [ht, Rat.intCast_one, Rat.one_mul] at hr
    exact n4.ge _ hr hn
  have ht0 : (0 : Rat) < tiny := by decide +kernel
  have hn0 : fv .f64 n ≠ 0 := by grind
  have iq1 := div_in (B := 4398046511104) ⟨hu.1, hu.2⟩ hnn (by decide)
  have iq2 := div_in (B := 4398046511104) ⟨hv.1, hv.2⟩ hnn (by decide)
  unfold InR at iq1 iq2
  obtain ⟨x', x1, x2⟩ := fdiv u2.fin n4.fin hn0 (by grind) (by grind)
  obtain ⟨y', y1, y2⟩ := fdiv v2.fin n4.fin hn0 (by grind) (by grind)
  have hx := x2.within 100 (by decide) (by decide) (by rw [p2_100]; grind) (by rw [p2_100]; grind)
  have hy := y2.within 100 (by decide) (by decide) (by rw [p2_100]; grind) (by rw [p2_100]; grind)
  rw [p2_100] at hx hy
  obtain ⟨x, x3, x4⟩ := fnarrow x2.fin hx.1 hx.2
  obtain ⟨y, y3, y4⟩ := fnarrow y2.fin hy.1 hy.2
  refine ⟨x, y, u, v, n, fun w => ?_, u2, v2, n4, hnn, x2.twice x4, y2.twice y4⟩
  have C1 := Lib.hid (fun w => parts_w w a1 b1)
  have C2 := Lib.hid (fun w => parts_w w c1 d1)
  have C3 := Lib.hid (fun w => times_w w pa q1 u1 r1 s1 v1)
  have C4 := Lib.hid (fun w => power_w w c1 d1 n1 n2 n3)
  have k1 := r64 x1
  have k2 := r64 y1
  have k3 := rNarrow x3
  have k4 := rNarrow y3
  have k5 := unary_ng64 d'
  clear a1 b1 c1 d1 cc1 dd1 pa q1 u1 r1 s1 v1 n1 n2 n3 n4 n5 n6 x1 y1 x2 y2 x3 x4 y3 y4 u2 v2 hu hv hx hy iq1 iq2 a2 a3 a4 b2 b3 b4 c2 c3 c4 d2 d3 d4 g1 g2 g3 pb pc q2 q3 r2 r3 s2 s3 iac ibd iad ibc ia ib ic id ha hb hc hd hnd m0 mm mm0 mt mt2 eu ev B42 ht hnn ht0 hn0 hn hdl
  go_enter Try.func54, Try.ntmps54
  go_wp2_with fail
  refine (C1.out _).mono ?_
  rintro e w1 ⟨rfl, rfl⟩
  go_wp2_with fail
  refine (C2.out _).mono ?_
  rintro e w1 ⟨rfl, rfl⟩
  go_wp2_with fail
  refine (C3.out _).mono ?_
  rintro e w1 ⟨rfl, rfl⟩
  go_wp2_with fail
  refine (C4.out _).mono ?_
  rintro e w1 ⟨rfl, rfl⟩
  go_wp2
  go_ret
  exact ⟨rfl, rfl⟩
theorem c0 : Fl .f32 0 ∧ fv .f32 0 = 0 := by
  refine ⟨?_, ?_⟩
  · show (0 : Nat) % FloatKind.f32.format.signWeight < FloatKind.f32.format.infRung
    decide +kernel
  · unfold fv val rv p2
    decide +kernel
theorem c1 : Fl .f32 1065353216 ∧ fv .f32 1065353216 = 1 := by
  refine ⟨?_, ?_⟩
  · show (1065353216 : Nat) % FloatKind.f32.format.signWeight < FloatKind.f32.format.infRung
    decide +kernel
  · unfold fv val rv p2
    decide +kernel
theorem isFinite_num {a : Nat} (ha : Fl .f32 a) (w : World) : Calls Try.prog 24 #[.float .f32 a] w fun e w' => e = .returned (.bool true) ∧ w' = w := by
  have h0 : (0 : Rat) ≤ top := by decide
  have h1 : (-top : Rat) ≤ 0 := by decide +kernel
  obtain ⟨d, d1, d2⟩ := fsub ha ha (by grind) (by grind)
  have hd : fv .f32 d = 0 := by
    have e : fv .f32 a - fv .f32 a = 0 := by grind
    rw [e] at d2
    exact d2.exact _ (by rw [← c0.2]; exact rep_val _ c0.1)
  have hc : (FloatKind.f32.format.order d 0 == some .eq) = true := by
    rw [cmp_eq' d2.fin c0.1 (by rw [hd, c0.2])]; decide
  have k1 := r32 d1
  clear d1 d2 hd h0 h1 ha
  go_enter Try.func24, Try.ntmps24
  go_wp2
  go_ret
  exact ⟨rfl, rfl⟩
theorem finiteC_num {a b : Nat} (ha : Fl .f32 a) (hb : Fl .f32 b) (w : World) : Calls Try.prog 27 #[.complex .f32 a b] w fun e w' => e = .returned (.bool true) ∧ w' = w := by
  have C1 := Lib.hid (fun w => isFinite_num ha w)
  have C2 := Lib.hid (fun w => isFinite_num hb w)
  clear ha hb
  go_enter Try.func27, Try.ntmps27
  go_wp2_with fail
  refine (C1.out _).mono ?_
  rintro e w1 ⟨rfl, rfl⟩
  go_wp2_with fail
  refine (C2.out _).mono ?_
  rintro e w1 ⟨rfl, rfl⟩
  go_wp2
  go_ret
  exact ⟨rfl, rfl⟩
theorem ifComplex_num {a b : Nat} (ha : Fl .f32 a) (hb : Fl .f32 b) (w : World) : Calls Try.prog 32 #[.complex .f32 a b] w fun e w' => e = .returned (.tuple #[.complex .f32 a b, .bool true]) ∧ w' = w := by
  have C1 := Lib.hid (fun w => finiteC_num ha hb w)
  clear ha hb
  go_enter Try.func32, Try.ntmps32
  go_wp2_with fail
  refine (C1.out _).mono ?_
  rintro e w1 ⟨rfl, rfl⟩
  go_wp2
  go_ret2
  exact ⟨rfl, rfl⟩
theorem ifNumber_num {a : Nat} (ha : Fl .f32 a) (w : World) : Calls Try.prog 46 #[.float .f32 a] w fun e w' => e = .returned (.tuple #[.float .f32 a, .bool true]) ∧ w' = w := by
  have C1 := Lib.hid (fun w => isFinite_num ha w)
  clear ha
  go_enter Try.func46, Try.ntmps46
  go_wp2_with fail
  refine (C1.out _).mono ?_
  rintro e w1 ⟨rfl, rfl⟩
  go_wp2
  go_ret2
  exact ⟨rfl, rfl⟩
end Go.Proofs.Ytjmidicidgaapaa
