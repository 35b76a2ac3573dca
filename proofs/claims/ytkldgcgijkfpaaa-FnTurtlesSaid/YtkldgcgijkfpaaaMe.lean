/- Walks: quotients of complex numbers, finiteness, shares. Conditions: finite parts, of middling size; a divisor that is not too small. -/
import Derived.Test.YtkldgcgijkfpaaaMd
namespace Go.Proofs.Ytkldgcgijkfpaaa
open Go.RowKit
open Num Quick

abbrev lowM : Rat := 1048576
abbrev tiny : Rat := 1 / 1099511627776
theorem low_mid {x : Rat} (h : InR x lowM) : InR x mid := by
  have : (lowM : Rat) ≤ mid := by decide
  unfold InR at *
  grind
theorem div_in {x n B : Rat} (hx : InR x B) (hn : tiny ≤ n) (hB : 0 ≤ B) : InR (x / n) (B * 1099511627776) := by
  have ht : (0 : Rat) < tiny := by decide +kernel
  have hn0 : 0 < n := by grind
  have e : x / n * n = x := by grind
  obtain ⟨h1, h2⟩ := hx
  have hBn : B ≤ B * 1099511627776 * n := by
    have := Rat.mul_le_mul_of_nonneg_left hn (show 0 ≤ B * 1099511627776 from Rat.mul_nonneg hB (by decide))
    have e2 : (1099511627776 : Rat) * tiny = 1 := by decide +kernel
    grind
  constructor
  · apply rat_cancel hn0
    grind
  · apply rat_cancel hn0
    grind
theorem quot_num {a b c d : Nat} (ha : Fl .f32 a) (hb : Fl .f32 b) (hc : Fl .f32 c) (hd : Fl .f32 d) (hdl : d < 4294967296) (ia : InR (fv .f32 a) lowM) (ib : InR (fv .f32 b) lowM) (ic : InR (fv .f32 c) lowM) (id : InR (fv .f32 d) lowM)
    (hn : tiny ≤ fv .f32 c * fv .f32 c + fv .f32 d * fv .f32 d) :
    ∃ x y u v n, (∀ w : World, Calls Try.prog 50 #[.complex .f32 a b, .complex .f32 c d] w fun e w' => e = .returned (.complex .f32 x y) ∧ w' = w) ∧
      FR .f64 (fv .f32 a * fv .f32 c + fv .f32 b * fv .f32 d) u ∧ FR .f64 (fv .f32 b * fv .f32 c - fv .f32 a * fv .f32 d) v ∧ FR .f64 (fv .f32 c * fv .f32 c + fv .f32 d * fv .f32 d) n ∧ tiny ≤ fv .f64 n ∧
      FR .f32 (fv .f64 u / fv .f64 n) x ∧ FR .f32 (fv .f64 v / fv .f64 n) y := by
  obtain ⟨a', a1, a2, a3, a4⟩ := fwide ha
  obtain ⟨b', b1, b2, b3, b4⟩ := fwide hb
  obtain ⟨c', d', p2_, q2_, n, c1, d1, n1, n2, n3, n4, n5, n6⟩ := fpower hc hd (low_mid ic) (low_mid id)
  obtain ⟨cc, cc1, c2, c3, c4⟩ := fwide hc
  obtain ⟨dd, dd1, d2, d3, d4⟩ := fwide hd
  obtain rfl : c' = cc := Option.some.inj (c1.symm.trans cc1)
  obtain rfl : d' = dd := Option.some.inj (d1.symm.trans dd1)
  obtain ⟨g1, g2, g3⟩ := ng64_num d2 d3
  have hnd : Fl .f32 (ng32 d) ∧ fv .f32 (ng32 d) = -fv .f32 d := ⟨(ng32_num hd hdl).1, (ng32_num hd hdl).2.1⟩
  have m0 : (0 : Rat) ≤ lowM := by decide
  have mm : lowM * lowM + lowM * lowM ≤ 4398046511104 := by decide +kernel
  have mt : (4398046511104 : Rat) * 1099511627776 ≤ top := by decide +kernel
  have mt2 : (4398046511104 : Rat) ≤ top := by decide +kernel
  have iac := prod_in ia ic m0
  have ibd := prod_in ib id m0
  have iad := prod_in ia id m0
  have ibc := prod_in ib ic m0
  unfold InR at iac ibd iad ibc
  have mm0 : (0 : Rat) ≤ lowM * lowM := by decide +kernel
  obtain ⟨p, pa, pb, pc⟩ := fmul_wide ha hc a2 c2 a4 c4 (by unfold InR; grind)
  obtain ⟨q, q1, q2, q3⟩ := fmul_wide hb hnd.1 b2 g1 b4 (by rw [g2, hnd.2, d4]) (by rw [hnd.2]; unfold InR; grind)
  obtain ⟨r, r1, r2, r3⟩ := fmul_wide ha hnd.1 a2 g1 a4 (by rw [g2, hnd.2, d4]) (by rw [hnd.2]; unfold InR; grind)
  obtain ⟨s, s1, s2, s3⟩ := fmul_wide hb hc b2 c2 b4 c4 (by unfold InR; grind)
  rw [hnd.2] at q3 r3
  obtain ⟨u, u1, u2⟩ := fsub pb q2 (by grind) (by grind)
  obtain ⟨v, v1, v2⟩ := fadd r2 s2 (by grind) (by grind)
  have eu : fv .f64 p - fv .f64 q = fv .f32 a * fv .f32 c + fv .f32 b * fv .f32 d := by grind
  have ev : fv .f64 r + fv .f64 s = fv .f32 b * fv .f32 c - fv .f32 a * fv .f32 d := by grind
  rw [eu] at u2
  rw [ev] at v2
  have B42 : p2 42 = 4398046511104 := by decide +kernel
  have hu := u2.within 42 (by decide) (by decide) (by rw [B42]; grind) (by rw [B42]; grind)
  have hv := v2.within 42 (by decide) (by decide) (by rw [B42]; grind) (by rw [B42]; grind)
  rw [B42] at hu hv
  have ht : p2 (-40) = tiny := by decide +kernel
  have hnn : tiny ≤ fv .f64 n := by
    have hr := rep_at .f64 1 (-40) (by decide) (by decide) (by decide)
    rw [ht, Rat.intCast_one, Rat.one_mul] at hr
    exact n4.ge _ hr hn
  have ht0 : (0 : Rat) < tiny := by decide +kernel
  have hn0 : fv .f64 n ≠ 0 := by grind
  have iq1 := div_in (B := 4398046511104) ⟨hu.1, hu.2⟩ hnn (by decide)
  have iq2 := div_in (B := 4398046511104) ⟨hv.1, hv.2⟩ hnn (by decide)
  unfold InR at iq1 iq2
  obtain ⟨x', x1, x2⟩ := fdiv u2.fin n4.fin hn0 (by grind) (by grind)
  obtain ⟨y', y1, y2⟩ := fdiv v2.fin n4.fin hn0 (by grind) (by grind)
  have hx := x2.within 100 (by decide) (by decide) (by rw [p2_100]; grind) (by rw [p2_100]; grind)
  have hy := y2.within 100 (by decide) (by decide) (by rw [p2_100]; grind) (by rw [p2_100]; grind)
  rw [p2_100] at hx hy
  obtain ⟨x, x3, x4⟩ := fnarrow x2.fin hx.1 hx.2
  obtain ⟨y, y3, y4⟩ := fnarrow y2.fin hy.1 hy.2
  refine ⟨x, y, u, v, n, fun w => ?_, u2, v2, n4, hnn, x2.twice x4, y2.twice y4⟩
  have C1 := Lib.hid (fun w => parts_w w a1 b1)
  have C2 := Lib.hid (fun w => parts_w w c1 d1)
  have C3 := Lib.hid (fun w => times_w w pa q1 u1 r1 s1 v1)
  have C4 := Lib.hid (fun w => power_w w c1 d1 n1 n2 n3)
  have k1 := r64 x1
  have k2 := r64 y1
  have k3 := rNarrow x3
  have k4 := rNarrow y3
  have k5 := unary_ng64 d'
  clear a1 b1 c1 d1 cc1 dd1 pa q1 u1 r1 s1 v1 n1 n2 n3 n4 n5 n6 x1 y1 x2 y2 x3 x4 y3 y4 u2 v2 hu hv hx hy iq1 iq2 a2 a3 a4 b2 b3 b4 c2 c3 c4 d2 d3 d4 g1 g2 g3 pb pc q2 q3 r2 r3 s2 s3 iac ibd iad ibc ia ib ic id ha hb hc hd hnd m0 mm mm0 mt mt2 eu ev B42 ht hnn ht0 hn0 hn hdl
  go_enter Try.func50, Try.ntmps50
  go_wp2_with fail
  refine (C1.out _).mono ?_
  rintro e w1 ⟨rfl, rfl⟩
  go_wp2_with fail
  refine (C2.out _).mono ?_
  rintro e w1 ⟨rfl, rfl⟩
  go_wp2_with fail
  refine (C3.out _).mono ?_
  rintro e w1 ⟨rfl, rfl⟩
  go_wp2_with fail
  refine (C4.out _).mono ?_
  rintro e w1 ⟨rfl, rfl⟩
  go_wp2
  go_ret
  exact ⟨rfl, rfl⟩
theorem c0 : Fl .f32 0 ∧ fv .f32 0 = 0 := by
  refine ⟨?_, ?_⟩
  · show (0 : Nat) % FloatKind.f32.format.signWeight < FloatKind.f32.format.infRung
    decide +kernel
  · unfold fv val rv p2
    decide +kernel
theorem c1 : Fl .f32 1065353216 ∧ fv .f32 1065353216 = 1 := by
  refine ⟨?_, ?_⟩
  · show (1065353216 : Nat) % FloatKind.f32.format.signWeight < FloatKind.f32.format.infRung
    decide +kernel
  · unfold fv val rv p2
    decide +kernel
theorem isFinite_num {a : Nat} (ha : Fl .f32 a) (w : World) : Calls Try.prog 42 #[.float .f32 a] w fun e w' => e = .returned (.bool true) ∧ w' = w := by
  have h0 : (0 : Rat) ≤ top := by decide
  have h1 : (-top : Rat) ≤ 0 := by decide +kernel
  obtain ⟨d, d1, d2⟩ := fsub ha ha (by grind) (by grind)
  have hd : fv .f32 d = 0 := by
    have e : fv .f32 a - fv .f32 a = 0 := by grind
    rw [e] at d2
    exact d2.exact _ (by rw [← c0.2]; exact rep_val _ c0.1)
  have hc : (FloatKind.f32.format.order d 0 == some .eq) = true := by
    rw [cmp_eq' d2.fin c0.1 (by rw [hd, c0.2])]; decide
  have k1 := r32 d1
  clear d1 d2 hd h0 h1 ha
  go_enter Try.func42, Try.ntmps42
  go_wp2
  go_ret
  exact ⟨rfl, rfl⟩
theorem finiteC_num {a b : Nat} (ha : Fl .f32 a) (hb : Fl .f32 b) (w : World) : Calls Try.prog 38 #[.complex .f32 a b] w fun e w' => e = .returned (.bool true) ∧ w' = w := by
  have C1 := Lib.hid (fun w => isFinite_num ha w)
  have C2 := Lib.hid (fun w => isFinite_num hb w)
  clear ha hb
  go_enter Try.func38, Try.ntmps38
  go_wp2_with fail
  refine (C1.out _).mono ?_
  rintro e w1 ⟨rfl, rfl⟩
  go_wp2_with fail
  refine (C2.out _).mono ?_
  rintro e w1 ⟨rfl, rfl⟩
  go_wp2
  go_ret
  exact ⟨rfl, rfl⟩
theorem ifNumber_num {a : Nat} (ha : Fl .f32 a) (w : World) : Calls Try.prog 34 #[.float .f32 a] w fun e w' => e = .returned (.tuple #[.float .f32 a, .bool true]) ∧ w' = w := by
  have C1 := Lib.hid (fun w => isFinite_num ha w)
  clear ha
  go_enter Try.func34, Try.ntmps34
  go_wp2_with fail
  refine (C1.out _).mono ?_
  rintro e w1 ⟨rfl, rfl⟩
  go_wp2
  go_ret2
  exact ⟨rfl, rfl⟩
end Go.Proofs.Ytkldgcgijkfpaaa
