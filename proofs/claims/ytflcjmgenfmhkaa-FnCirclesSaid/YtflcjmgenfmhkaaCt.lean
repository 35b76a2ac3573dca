/- Walk: the law FnCircles: it returns true. Conditions: at most 2^20 bytes each (the longer ones apart). -/
import Derived.Test.YtflcjmgenfmhkaaCq
import Derived.Test.YtflcjmgenfmhkaaCs
import Derived.Test.YtflcjmgenfmhkaaLc
namespace Go.Proofs.Ytflcjmgenfmhkaa
open Go.RowKit
open Circ

set_option maxRecDepth 100000 in
set_option maxHeartbeats 400000 in
theorem lawCi_long (A1 A2 : Option Addr) (n1 c1 n2 c2 : Nat) (w : World) (hn1 : n1 ≤ maxLen) (hn2 : n2 ≤ maxLen) (hbig : ¬ (n1 ≤ 1048576 ∧ n2 ≤ 1048576)) :
    Calls Try.prog 3 #[.slice A1 n1 c1, .slice A2 n2 c2] w fun e w' => e = .returned (.bool true) ∧ w' = w := by
  have e : (decide (1048576 < n1) || decide (1048576 < n2)) = true := by
    by_cases h : n1 ≤ 1048576
    · have : 1048576 < n2 := by omega
      simp [this]
    · have : 1048576 < n1 := by omega
      simp [this]
  have LC := b10Long_any A1 A2 n1 c1 n2 c2 w hn1 hn2
  rw [e] at LC
  have LCH := Lib.hid LC
  clear LC e
  go_enter Try.func3, Try.ntmps3
  go_wp2_with fail
  refine LCH.out.mono ?_
  rintro e w1 ⟨rfl, rfl⟩
  go_wp2
  go_ret
  exact ⟨rfl, rfl⟩
theorem one_facts : (∃ d, floatBits .sub .f32 1065353216 1065353216 = some d ∧ (FloatKind.f32.format.order d 0 == some .eq) = true) ∧ (FloatKind.f32.format.order 1065353216 0 == some .lt) = false ∧ (FloatKind.f32.format.order 1065353216 0 == some .eq) = false ∧ tenP 1065353216 = some 0 ∧ angC 0 1065353216 = some 1048576000 ∧
    (FloatKind.f32.format.order 1048576000 1048576000 != some .eq) = false ∧ (FloatKind.f32.format.order 0 0 != some .eq) = false := by
  refine ⟨⟨0, by decide +kernel, by decide +kernel⟩, by decide +kernel, by decide +kernel, by decide +kernel, by decide +kernel, by decide +kernel, by decide +kernel⟩
theorem run_single (n : Int) (w : World) : (convert 2 28 (.int .i64 n)).run Try.prog w = .ok (.float .f32 (floatOfInt .f32 n)) w := run_convert_int_float w _ _ _ _ _ (by rw [Try.underlying2]; rfl) Try.underlying28
set_option maxRecDepth 100000 in
set_option maxHeartbeats 16000000 in
theorem lawCi_any (A1 A2 : Option Addr) (n1 c1 n2 c2 : Nat) (bs bs2 : List Nat) (w : World) (hn1 : n1 ≤ 1048576) (hn2 : n2 ≤ 1048576) (hl1 : bs.length = n1) (hl2 : bs2.length = n2) (hbs : ∀ x ∈ bs, x < 256) (hbs2 : ∀ x ∈ bs2, x < 256) (hA : Rd w w.heap.size 1 A1 n1 (bs.map u8v)) (hA2 : Rd w w.heap.size 1 A2 n2 (bs2.map u8v)) :
    Calls Try.prog 3 #[.slice A1 n1 c1, .slice A2 n2 c2] w fun e w' => e = .returned (.bool true) ∧ w' = w := by
  have LC := b10Long_any A1 A2 n1 c1 n2 c2 w (by unfold maxLen; omega) (by unfold maxLen; omega)
  rw [show (decide (1048576 < n1) || decide (1048576 < n2)) = false by simp; omega] at LC
  have LCH := Lib.hid LC
  obtain ⟨a, ha, AT0⟩ := b10At_val A1 n1 c1 0 256 bs hl1 hn1 (by omega) (by omega) (by omega) hbs
  obtain ⟨b, hb, AT1⟩ := b10At_val A1 n1 c1 1 256 bs hl1 hn1 (by omega) (by omega) (by omega) hbs
  obtain ⟨s, hs, AT2⟩ := b10At_val A2 n2 c2 0 200 bs2 hl2 hn2 (by omega) (by omega) (by omega) hbs2
  obtain ⟨t, ht, AT3⟩ := b10At_val A2 n2 c2 1 200 bs2 hl2 hn2 (by omega) (by omega) (by omega) hbs2
  have B0 := Lib.hid (AT0 _ w hA)
  have B1 := Lib.hid (AT1 _ w hA)
  have B2 := Lib.hid (AT2 _ w hA2)
  have B3 := Lib.hid (AT3 _ w hA2)
  clear LC AT0 AT1 AT2 AT3 hA hA2 hbs hbs2 hl1 hl2
  obtain ⟨pa, eA⟩ : ∃ n : Int, (a : Int) - 128 = n := ⟨_, rfl⟩
  obtain ⟨pb, eB⟩ : ∃ n : Int, (b : Int) - 128 = n := ⟨_, rfl⟩
  obtain ⟨pc, eC⟩ : ∃ n : Int, pa + pb = n := ⟨_, rfl⟩
  obtain ⟨i, t0, f0, hi, ei, q0, r0, k0, g0, p0⟩ := ph_fact pa (by omega) (by omega)
  obtain ⟨j, t1, f1, hj, ej, q1, r1, k1, g1, p1⟩ := ph_fact pb (by omega) (by omega)
  obtain ⟨k, t2, f2, hk, ek, q2, r2, k2, g2, p2⟩ := ph_fact pc (by omega) (by omega)
  have P0 := Lib.hid (phasor_calls w r0 k0 g0 p0)
  have P1 := Lib.hid (phasor_calls w r1 k1 g1 p1)
  have P2 := Lib.hid (phasor_calls w r2 k2 g2 p2)
  obtain ⟨ag, ax, ang, turn, sm, d1, wh, a1, a2, a3, a4, a5, a6, a7, a8, a9, a10, a11⟩ := ang_fact pa (by omega) (by omega) i ei
  obtain ⟨pw, px, d2, b1, b2, b3, b4⟩ := pow_fact i hi
  obtain ⟨u, v, c1', c2'⟩ := prods_fact i j k hi hj (by omega)
  obtain ⟨x, y, z, m, n, o, t1', t2', t3', t4', t5', t6', t7', t8', t9', t10', t11', t12', t13', t14', t15'⟩ := ten_fact s t hs ht
  obtain ⟨dx, x1, x2, x3, x4⟩ := calm32_fact t4'
  obtain ⟨dy, y1, y2, y3, y4⟩ := calm32_fact t5'
  obtain ⟨dz, z1, z2, z3, z4⟩ := calm32_fact t6'
  obtain ⟨⟨dw, w1, w2⟩, w3, w4, w5, w6, w7, w8⟩ := one_facts
  have T0 := Lib.hid (tenths_calls w t7' x1 x2 x3 x4)
  have T1 := Lib.hid (tenths_calls w t8' y1 y2 y3 y4)
  have T2 := Lib.hid (tenths_calls w t9' z1 z2 z3 z4)
  have T3 := Lib.hid (tenths_calls w w5 w1 w2 w3 w4)
  have AG := Lib.hid (angleOf_calls w a1)
  have AI := Lib.hid (angleOf_calls w w6)
  have SN := Lib.hid (same_calls w w7 (by omega) w8 (by omega))
  have PW := Lib.hid (powerOf_calls w b1)
  have G1 := Lib.hid (gap_calls w b3)
  have MU := Lib.hid (mul_calls w c1')
  have NE := Lib.hid (near_calls w c2')
  have G2 := Lib.hid (gap_calls w a7)
  have h0 := run64 q0
  have h1 := run64 q1
  have h2 := run64 q2
  have h3 := run_widen a2
  have h4 := run64 a3
  have h5 := run64 a4
  have h6 := run64 a5
  have h7 := run_int a6
  have h8 := run_widen b2
  have h9 := run32 t1'
  have h10 := run32 t2'
  have h11 := run32 t3'
  have h12 := run_wide pa
  have h13 := run_wide pb
  have h14 := run_wide pc
  have h15 := run_wide (wh - 10000)
  have h16 := run_single (1 + (s : Int))
  have h17 := run_single (1 + (t : Int))
  have hr : -9223372036854775808 ≤ pa ∧ pa ≤ 9223372036854775807 ∧ -9223372036854775808 ≤ pb ∧ pb ≤ 9223372036854775807 := by omega
  have i1 : decide (m + n - o ≤ 1) = true := decide_eq_true t10'
  have i2 : decide (o - m - n ≤ 1) = true := decide_eq_true t11'
  have v1 : wrap64 (m + n) = m + n := IntWalk.wrap64_in _ (by omega)
  have v2 : wrap64 (m + n - o) = m + n - o := IntWalk.wrap64_in _ (by omega)
  have v3 : wrap64 (o - m) = o - m := IntWalk.wrap64_in _ (by omega)
  have v4 : wrap64 (o - m - n) = o - m - n := IntWalk.wrap64_in _ (by omega)
  by_cases hq : pa.tmod 16 = 0
  · obtain ⟨rx, d3, e1, e2, e3⟩ := re_fact pa i ei hq
    have h18 := run_widen e1
    have G3 := Lib.hid (gap_calls w e2)
    clear q0 q1 q2 r0 r1 r2 k0 k1 k2 g0 g1 g2 p0 p1 p2 a1 a2 a3 a4 a5 a6 a7 b1 b2 b3 c1' c2' t1' t2' t3' t4' t5' t6' t7' t8' t9' t10' t11' t12' t13' t14' t15' x1 x2 x3 x4 y1 y2 y3 y4 z1 z2 z3 z4 w1 w2 w3 w4 w5 w6 w7 w8 e1 e2 ei ej ek
    rcases e3 with rfl | rfl
    · go_enter Try.func3, Try.ntmps3
      go_wp2_with fail
      refine LCH.out.mono ?_
      rintro e w1 ⟨rfl, rfl⟩
      go_wp2_with fail
      refine B0.out.mono ?_
      rintro e w1 ⟨rfl, rfl⟩
      go_wp2_with fail
      refine B1.out.mono ?_
      rintro e w1 ⟨rfl, rfl⟩
      go_wp2_with fail
      refine P0.out.mono ?_
      rintro e w1 ⟨rfl, rfl⟩
      go_wp2_with fail
      refine P1.out.mono ?_
      rintro e w1 ⟨rfl, rfl⟩
      go_wp2_with fail
      refine P2.out.mono ?_
      rintro e w1 ⟨rfl, rfl⟩
      go_wp2_with fail
      refine AG.out.mono ?_
      rintro e w1 ⟨rfl, rfl⟩
      go_wp2_with fail
      refine PW.out.mono ?_
      rintro e w1 ⟨rfl, rfl⟩
      go_wp2_with fail
      refine G1.out.mono ?_
      rintro e w1 ⟨rfl, rfl⟩
      go_wp2_with fail
      refine MU.out.mono ?_
      rintro e w1 ⟨rfl, rfl⟩
      go_wp2_with fail
      refine NE.out.mono ?_
      rintro e w1 ⟨rfl, rfl⟩
      go_wp2_with fail
      refine G2.out.mono ?_
      rintro e w1 ⟨rfl, rfl⟩
      go_wp2_with fail
      refine G3.out.mono ?_
      rintro e w1 ⟨rfl, rfl⟩
      go_wp2_with fail
      refine B2.out.mono ?_
      rintro e w1 ⟨rfl, rfl⟩
      go_wp2_with fail
      refine B3.out.mono ?_
      rintro e w1 ⟨rfl, rfl⟩
      go_wp2_with fail
      refine T0.out.mono ?_
      rintro e w1 ⟨rfl, rfl⟩
      go_wp2_with fail
      refine T1.out.mono ?_
      rintro e w1 ⟨rfl, rfl⟩
      go_wp2_with fail
      refine T2.out.mono ?_
      rintro e w1 ⟨rfl, rfl⟩
      go_wp2_with fail
      refine T3.out.mono ?_
      rintro e w1 ⟨rfl, rfl⟩
      go_wp2_with fail
      refine AI.out.mono ?_
      rintro e w1 ⟨rfl, rfl⟩
      go_wp2_with fail
      refine SN.out.mono ?_
      rintro e w1 ⟨rfl, rfl⟩
      go_wp2
      go_ret
      exact ⟨rfl, rfl⟩
    · go_enter Try.func3, Try.ntmps3
      go_wp2_with fail
      refine LCH.out.mono ?_
      rintro e w1 ⟨rfl, rfl⟩
      go_wp2_with fail
      refine B0.out.mono ?_
      rintro e w1 ⟨rfl, rfl⟩
      go_wp2_with fail
      refine B1.out.mono ?_
      rintro e w1 ⟨rfl, rfl⟩
      go_wp2_with fail
      refine P0.out.mono ?_
      rintro e w1 ⟨rfl, rfl⟩
      go_wp2_with fail
      refine P1.out.mono ?_
      rintro e w1 ⟨rfl, rfl⟩
      go_wp2_with fail
      refine P2.out.mono ?_
      rintro e w1 ⟨rfl, rfl⟩
      go_wp2_with fail
      refine AG.out.mono ?_
      rintro e w1 ⟨rfl, rfl⟩
      go_wp2_with fail
      refine PW.out.mono ?_
      rintro e w1 ⟨rfl, rfl⟩
      go_wp2_with fail
      refine G1.out.mono ?_
      rintro e w1 ⟨rfl, rfl⟩
      go_wp2_with fail
      refine MU.out.mono ?_
      rintro e w1 ⟨rfl, rfl⟩
      go_wp2_with fail
      refine NE.out.mono ?_
      rintro e w1 ⟨rfl, rfl⟩
      go_wp2_with fail
      refine G2.out.mono ?_
      rintro e w1 ⟨rfl, rfl⟩
      go_wp2_with fail
      refine G3.out.mono ?_
      rintro e w1 ⟨rfl, rfl⟩
      go_wp2_with fail
      refine G3.out.mono ?_
      rintro e w1 ⟨rfl, rfl⟩
      go_wp2_with fail
      refine B2.out.mono ?_
      rintro e w1 ⟨rfl, rfl⟩
      go_wp2_with fail
      refine B3.out.mono ?_
      rintro e w1 ⟨rfl, rfl⟩
      go_wp2_with fail
      refine T0.out.mono ?_
      rintro e w1 ⟨rfl, rfl⟩
      go_wp2_with fail
      refine T1.out.mono ?_
      rintro e w1 ⟨rfl, rfl⟩
      go_wp2_with fail
      refine T2.out.mono ?_
      rintro e w1 ⟨rfl, rfl⟩
      go_wp2_with fail
      refine T3.out.mono ?_
      rintro e w1 ⟨rfl, rfl⟩
      go_wp2_with fail
      refine AI.out.mono ?_
      rintro e w1 ⟨rfl, rfl⟩
      go_wp2_with fail
      refine SN.out.mono ?_
      rintro e w1 ⟨rfl, rfl⟩
      go_wp2
      go_ret
      exact ⟨rfl, rfl⟩
  · clear q0 q1 q2 r0 r1 r2 k0 k1 k2 g0 g1 g2 p0 p1 p2 a1 a2 a3 a4 a5 a6 a7 b1 b2 b3 c1' c2' t1' t2' t3' t4' t5' t6' t7' t8' t9' t10' t11' t12' t13' t14' t15' x1 x2 x3 x4 y1 y2 y3 y4 z1 z2 z3 z4 w1 w2 w3 w4 w5 w6 w7 w8 ei ej ek
    go_enter Try.func3, Try.ntmps3
    go_wp2_with fail
    refine LCH.out.mono ?_
    rintro e w1 ⟨rfl, rfl⟩
    go_wp2_with fail
    refine B0.out.mono ?_
    rintro e w1 ⟨rfl, rfl⟩
    go_wp2_with fail
    refine B1.out.mono ?_
    rintro e w1 ⟨rfl, rfl⟩
    go_wp2_with fail
    refine P0.out.mono ?_
    rintro e w1 ⟨rfl, rfl⟩
    go_wp2_with fail
    refine P1.out.mono ?_
    rintro e w1 ⟨rfl, rfl⟩
    go_wp2_with fail
    refine P2.out.mono ?_
    rintro e w1 ⟨rfl, rfl⟩
    go_wp2_with fail
    refine AG.out.mono ?_
    rintro e w1 ⟨rfl, rfl⟩
    go_wp2_with fail
    refine PW.out.mono ?_
    rintro e w1 ⟨rfl, rfl⟩
    go_wp2_with fail
    refine G1.out.mono ?_
    rintro e w1 ⟨rfl, rfl⟩
    go_wp2_with fail
    refine MU.out.mono ?_
    rintro e w1 ⟨rfl, rfl⟩
    go_wp2_with fail
    refine NE.out.mono ?_
    rintro e w1 ⟨rfl, rfl⟩
    go_wp2_with fail
    refine G2.out.mono ?_
    rintro e w1 ⟨rfl, rfl⟩
    go_wp2_with fail
    refine B2.out.mono ?_
    rintro e w1 ⟨rfl, rfl⟩
    go_wp2_with fail
    refine B3.out.mono ?_
    rintro e w1 ⟨rfl, rfl⟩
    go_wp2_with fail
    refine T0.out.mono ?_
    rintro e w1 ⟨rfl, rfl⟩
    go_wp2_with fail
    refine T1.out.mono ?_
    rintro e w1 ⟨rfl, rfl⟩
    go_wp2_with fail
    refine T2.out.mono ?_
    rintro e w1 ⟨rfl, rfl⟩
    go_wp2_with fail
    refine T3.out.mono ?_
    rintro e w1 ⟨rfl, rfl⟩
    go_wp2_with fail
    refine AI.out.mono ?_
    rintro e w1 ⟨rfl, rfl⟩
    go_wp2_with fail
    refine SN.out.mono ?_
    rintro e w1 ⟨rfl, rfl⟩
    go_wp2
    go_ret
    exact ⟨rfl, rfl⟩
end Go.Proofs.Ytflcjmgenfmhkaa
