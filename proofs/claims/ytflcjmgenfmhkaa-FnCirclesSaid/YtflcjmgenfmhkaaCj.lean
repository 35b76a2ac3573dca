/- Walk: the angle of a point. Conditions: the plain function gives a number. -/
import Derived.Test.YtflcjmgenfmhkaaCi
namespace Go.Proofs.Ytflcjmgenfmhkaa
open Go.RowKit
open Circ

attribute [local go_sem] unary_ng
section
variable (w : World)
set_option maxHeartbeats 4000000 in
theorem angle_calls {y x dy dx Y X r : Nat} {nx ny zx zy : Bool} (hX : X < 18446744073709551616) (hY : Y < 18446744073709551616) (h1 : floatBits .sub .f32 y y = some dy) (h2 : (FloatKind.f32.format.order dy 0 == some .eq) = true) (h3 : floatBits .sub .f32 x x = some dx) (h4 : (FloatKind.f32.format.order dx 0 == some .eq) = true)
    (h5 : Quick.qwide y = some Y) (h6 : Quick.qwide x = some X) (h7 : (FloatKind.f32.format.order x 0 == some .lt) = nx) (h8 : (FloatKind.f32.format.order y 0 == some .lt) = ny)
    (h9 : (FloatKind.f32.format.order x 0 == some .eq) = zx) (h10 : (FloatKind.f32.format.order y 0 == some .eq) = zy) (hz : (zx && zy) = false) (h : angleP (absP Y) (absP X) nx ny = some r) :
    Calls Try.prog 19 #[.float .f32 y, .float .f32 x] w fun e w' => e = .returned (.float .f32 r) ∧ w' = w := by
  have CF : ∀ z, z = x ∨ z = y → Calls Try.prog 23 #[.float .f32 z] w fun e w' => e = .returned (.bool true) ∧ w' = w := by
    rintro z (rfl | rfl)
    · exact isFinite_calls w h3 h4
    · exact isFinite_calls w h1 h2
  have CA : ∀ z, z = X ∨ z = Y → Calls Try.prog 16 #[.float .f64 z] w fun e w' => e = .returned (.float .f64 (absP z)) ∧ w' = w := by
    rintro z (rfl | rfl)
    · exact abs_calls w z hX
    · exact abs_calls w z hY
  have CF := Lib.hid CF
  have CA := Lib.hid CA
  have q1 := run_widen h5
  have q2 := run_widen h6
  unfold angleP at h
  obtain ⟨t0, ht0, i1⟩ := opf_some h
  obtain ⟨t1, ht1, i2⟩ := af_some i1
  obtain ⟨t, htt, i3⟩ := af_some i2
  obtain ⟨u, hu, i4⟩ := opf_some i3
  obtain ⟨p, hp, i5⟩ := af_some i4
  obtain ⟨a, ha, i6⟩ := opf_some i5
  obtain ⟨b, hb, i7⟩ := opf_some i6
  obtain ⟨c, hc, i8⟩ := opf_some i7
  obtain ⟨c2, hc2, i9⟩ := af_some i8
  obtain ⟨c3, hc3, i10⟩ := af_some i9
  unfold narrow at i10
  obtain ⟨v, hv, i11⟩ := af_some i10
  cases i11
  have r0 := run64 ht0
  have r1 := run64 hu
  have r2 := run64 ha
  have r3 := run64 hb
  have r4 := run64 hc
  have r5 := run_narrow hv
  have HT := Lib.hid htt
  have HP := Lib.hid hp
  have hgt : ∃ G : Bool, (FloatKind.f64.format.order (absP Y) (absP X) == some .gt) = G ∧ gt (absP Y) (absP X) = G := ⟨_, rfl, gt_eq _ _⟩
  obtain ⟨G, hG, hG2⟩ := hgt
  rw [hG2] at ht1 hc2
  have P1 := cond_some ht1
  have P2 := cond_some hc2
  have P3 := cond_some hc3
  clear h1 h2 h3 h4 h5 h6 h hX hY i1 i2 i3 i4 i5 i6 i7 i8 i9 i10 hG2 ht0 ht1 htt hu hp ha hb hc hc2 hc3 hv
  have P1 := Lib.hid P1
  have P2 := Lib.hid P2
  have P3 := Lib.hid P3
  cases zx <;> cases zy <;> first | (cases hz; done) | skip
  all_goals
    clear hz
    cases G
    · obtain ⟨h, -⟩ | ⟨-, rfl⟩ := P1.out
      · cases h
      obtain ⟨h, -⟩ | ⟨-, rfl⟩ := P2.out
      · cases h
      clear P1 P2
      go_enter Try.func19, Try.ntmps19
      go_wp2_with (first
        | (go_at_call 23; refine (CF.out _ (by first | exact .inl rfl | exact .inr rfl)).mono ?_; rintro e w1 ⟨rfl, rfl⟩)
        | (go_at_call 16; refine (CA.out _ (by first | exact .inl rfl | exact .inr rfl)).mono ?_; rintro e w1 ⟨rfl, rfl⟩)
        | fail)
      clear r0 h9 h10 P1 P2
      have HT' := Lib.hid HT.out
      clear HT
      go_loopg [7, 43] 3 (fun gk st si wr => ∃ (t' i : Nat), st = .float .f64 t' ∧ si = .int .i64 (i : Int) ∧ i + gk = 3 ∧ Hid (tanHalf gk t' = some t) ∧ wr = w1)
      case atStart => exact ⟨t0, 0, rfl, rfl, rfl, HT', rfl⟩
      case round =>
        obtain ⟨t', i, rfl, rfl, hi, HX, rfl⟩ := hrel
        clear HT'
        rcases Nat.eq_zero_or_pos gk with hk | hk
        · have hx := HX.out
          rw [hk] at hx
          obtain rfl : t' = t := by simpa [tanHalf] using hx
          have hi3 : i = 3 := by omega
          clear hx HX hk hi
          subst hi3
          go_wp2
          go_loopg [9, 10] 8 (fun gk sq sk wr' => ∃ (q' kk : Nat), sq = .float .f64 q' ∧ sk = .float .f64 kk ∧ Hid (kk = fi (2 * (gk : Int) - 1)) ∧ gk ≤ 8 ∧ Hid (oddsA u gk q' = some p) ∧ wr' = wr)
          case atStart => exact ⟨0, _, rfl, rfl, Lib.hid (by decide +kernel), by omega, HP, rfl⟩
          case round =>
            obtain ⟨q', kk, rfl, rfl, HK, hj, HT, rfl⟩ := hrel
            obtain ⟨s1, s2⟩ := odd_stepsA gk (by omega)
            rw [← HK.out] at s1 s2
            rcases Nat.eq_zero_or_pos gk with hj0 | hj0
            · rw [hj0] at HT s1
              obtain ⟨t1, t2⟩ := Bool.or_eq_false_iff.1 (s1.trans (by decide))
              obtain rfl : q' = p := by simpa [oddsA] using HT.out
              clear s1 s2 hj0 HT HP
              cases nx <;> cases ny
              all_goals
                obtain ⟨hh, hs⟩ | ⟨hh, hs⟩ := P3.out
                all_goals first | (cases hh; done) | skip
                clear hh
                first | have s7 := run64 hs | subst hs
                clear P3
                simp only [if_true, Bool.false_eq_true, if_false] at r5
                go_wp2
                go_ret
                exact ⟨rfl, rfl⟩
            · obtain ⟨n, hn⟩ : ∃ n, gk = n + 1 := ⟨gk - 1, by omega⟩
              have ht := HT.out
              rw [hn] at ht
              unfold oddsA at ht
              rw [show 2 * (n : Int) + 1 = 2 * (gk : Int) - 1 by omega, ← HK.out] at ht
              obtain ⟨c1, hc1, ht1⟩ := opf_some ht
              obtain ⟨c2, hc2, ht2⟩ := opf_some ht1
              obtain ⟨c4, hc3, ht3⟩ := opf_some ht2
              have h9 := s2 hj0
              rw [show gk - 1 = n by omega] at h9
              obtain ⟨k4, hk4⟩ : ∃ k4, fi (2 * (n : Int) - 1) = k4 := ⟨_, rfl⟩
              rw [hk4] at h9
              have p1 := run64 hc1
              have p2 := run64 hc2
              have p3 := run64 hc3
              have p4 := run64 h9
              have HN := Lib.hid (And.intro ht3 hk4)
              have hlt : n < gk := by omega
              rw [decide_eq_true (show 1 ≤ gk from hj0)] at s1
              clear ht ht1 ht2 ht3 hc1 hc2 hc3 h9 hk4 s2 hn HT HP r1 r2 r3 r4 r5 q1 q2 CF CA P3
              rcases ge_true ((ge_eq _ _).trans s1) with ⟨t1, t2⟩ | ⟨t1, t2⟩
              all_goals
                clear s1
                go_wp2
                go_roundg n
                case measure => exact hlt
                case rel => exact ⟨c4, k4, rfl, rfl, Lib.hid HN.out.2.symm, by omega, Lib.hid HN.out.1, rfl⟩
        · obtain ⟨n, hn⟩ : ∃ n, gk = n + 1 := ⟨gk - 1, by omega⟩
          have hx := HX.out
          rw [hn] at hx
          unfold tanHalf at hx
          obtain ⟨z1, hz1, hx1⟩ := opf_some hx
          obtain ⟨z2, hz2, hx2⟩ := opf_some hx1
          obtain ⟨z3, hz3, hx3⟩ := af_some hx2
          obtain ⟨z4, hz4, hx4⟩ := opf_some hx3
          obtain ⟨z5, hz5, hx5⟩ := opf_some hx4
          have CS := sqrt_calls wr hz3
          have s1 := run64 hz1
          have s2 := run64 hz2
          have s3 := run64 hz4
          have s4 := run64 hz5
          have HN := Lib.hid hx5
          have hlt : n < gk := by omega
          have hi2 : i < 3 := by omega
          have HI := Lib.hid (show i + 1 + n = 3 by omega)
          clear hx hx1 hx2 hx3 hx4 hx5 hz1 hz2 hz3 hz4 hz5 HX hn hi hk r1 r2 r3 r4 r5 q1 q2 CF CA
          go_wp2_with (first | (go_at_call 29; refine CS.mono ?_; rintro e w2 ⟨rfl, rfl⟩) | fail)
          go_roundg n
          case measure => exact hlt
          case rel => exact ⟨z5, i + 1, rfl, by first | rfl | (simp; done) | (simp; omega), HI.out, HN, rfl⟩
    · obtain ⟨-, g1⟩ | ⟨h, -⟩ := P1.out
      rotate_left
      · cases h
      obtain ⟨-, g2⟩ | ⟨h, -⟩ := P2.out
      rotate_left
      · cases h
      have s8 := run64 g1
      have s9 := run64 g2
      clear g1 g2
      clear P1 P2
      go_enter Try.func19, Try.ntmps19
      go_wp2_with (first
        | (go_at_call 23; refine (CF.out _ (by first | exact .inl rfl | exact .inr rfl)).mono ?_; rintro e w1 ⟨rfl, rfl⟩)
        | (go_at_call 16; refine (CA.out _ (by first | exact .inl rfl | exact .inr rfl)).mono ?_; rintro e w1 ⟨rfl, rfl⟩)
        | fail)
      clear r0 s8 h9 h10 P1 P2
      have HT' := Lib.hid HT.out
      clear HT
      go_loopg [7, 43] 3 (fun gk st si wr => ∃ (t' i : Nat), st = .float .f64 t' ∧ si = .int .i64 (i : Int) ∧ i + gk = 3 ∧ Hid (tanHalf gk t' = some t) ∧ wr = w1)
      case atStart => exact ⟨t1, 0, rfl, rfl, rfl, HT', rfl⟩
      case round =>
        obtain ⟨t', i, rfl, rfl, hi, HX, rfl⟩ := hrel
        clear HT'
        rcases Nat.eq_zero_or_pos gk with hk | hk
        · have hx := HX.out
          rw [hk] at hx
          obtain rfl : t' = t := by simpa [tanHalf] using hx
          have hi3 : i = 3 := by omega
          clear hx HX hk hi
          subst hi3
          go_wp2
          go_loopg [9, 10] 8 (fun gk sq sk wr' => ∃ (q' kk : Nat), sq = .float .f64 q' ∧ sk = .float .f64 kk ∧ Hid (kk = fi (2 * (gk : Int) - 1)) ∧ gk ≤ 8 ∧ Hid (oddsA u gk q' = some p) ∧ wr' = wr)
          case atStart => exact ⟨0, _, rfl, rfl, Lib.hid (by decide +kernel), by omega, HP, rfl⟩
          case round =>
            obtain ⟨q', kk, rfl, rfl, HK, hj, HT, rfl⟩ := hrel
            obtain ⟨s1, s2⟩ := odd_stepsA gk (by omega)
            rw [← HK.out] at s1 s2
            rcases Nat.eq_zero_or_pos gk with hj0 | hj0
            · rw [hj0] at HT s1
              obtain ⟨t1, t2⟩ := Bool.or_eq_false_iff.1 (s1.trans (by decide))
              obtain rfl : q' = p := by simpa [oddsA] using HT.out
              clear s1 s2 hj0 HT HP
              cases nx <;> cases ny
              all_goals
                obtain ⟨hh, hs⟩ | ⟨hh, hs⟩ := P3.out
                all_goals first | (cases hh; done) | skip
                clear hh
                first | have s7 := run64 hs | subst hs
                clear P3
                simp only [if_true, Bool.false_eq_true, if_false] at r5
                go_wp2
                go_ret
                exact ⟨rfl, rfl⟩
            · obtain ⟨n, hn⟩ : ∃ n, gk = n + 1 := ⟨gk - 1, by omega⟩
              have ht := HT.out
              rw [hn] at ht
              unfold oddsA at ht
              rw [show 2 * (n : Int) + 1 = 2 * (gk : Int) - 1 by omega, ← HK.out] at ht
              obtain ⟨c1, hc1, ht1⟩ := opf_some ht
              obtain ⟨c2, hc2, ht2⟩ := opf_some ht1
              obtain ⟨c4, hc3, ht3⟩ := opf_some ht2
              have h9 := s2 hj0
              rw [show gk - 1 = n by omega] at h9
              obtain ⟨k4, hk4⟩ : ∃ k4, fi (2 * (n : Int) - 1) = k4 := ⟨_, rfl⟩
              rw [hk4] at h9
              have p1 := run64 hc1
              have p2 := run64 hc2
              have p3 := run64 hc3
              have p4 := run64 h9
              have HN := Lib.hid (And.intro ht3 hk4)
              have hlt : n < gk := by omega
              rw [decide_eq_true (show 1 ≤ gk from hj0)] at s1
              clear ht ht1 ht2 ht3 hc1 hc2 hc3 h9 hk4 s2 hn HT HP r1 r2 r3 r4 r5 s9 q1 q2 CF CA P3
              rcases ge_true ((ge_eq _ _).trans s1) with ⟨t1, t2⟩ | ⟨t1, t2⟩
              all_goals
                clear s1
                go_wp2
                go_roundg n
                case measure => exact hlt
                case rel => exact ⟨c4, k4, rfl, rfl, Lib.hid HN.out.2.symm, by omega, Lib.hid HN.out.1, rfl⟩
        · obtain ⟨n, hn⟩ : ∃ n, gk = n + 1 := ⟨gk - 1, by omega⟩
          have hx := HX.out
          rw [hn] at hx
          unfold tanHalf at hx
          obtain ⟨z1, hz1, hx1⟩ := opf_some hx
          obtain ⟨z2, hz2, hx2⟩ := opf_some hx1
          obtain ⟨z3, hz3, hx3⟩ := af_some hx2
          obtain ⟨z4, hz4, hx4⟩ := opf_some hx3
          obtain ⟨z5, hz5, hx5⟩ := opf_some hx4
          have CS := sqrt_calls wr hz3
          have s1 := run64 hz1
          have s2 := run64 hz2
          have s3 := run64 hz4
          have s4 := run64 hz5
          have HN := Lib.hid hx5
          have hlt : n < gk := by omega
          have hi2 : i < 3 := by omega
          have HI := Lib.hid (show i + 1 + n = 3 by omega)
          clear hx hx1 hx2 hx3 hx4 hx5 hz1 hz2 hz3 hz4 hz5 HX hn hi hk r1 r2 r3 r4 r5 s9 q1 q2 CF CA
          go_wp2_with (first | (go_at_call 29; refine CS.mono ?_; rintro e w2 ⟨rfl, rfl⟩) | fail)
          go_roundg n
          case measure => exact hlt
          case rel => exact ⟨z5, i + 1, rfl, by first | rfl | (simp; done) | (simp; omega), HI.out, HN, rfl⟩
end
end Go.Proofs.Ytflcjmgenfmhkaa
