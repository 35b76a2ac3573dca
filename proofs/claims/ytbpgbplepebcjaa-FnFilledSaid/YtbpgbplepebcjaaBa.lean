/- Walks: the middle of a box and the box of a part. Conditions: sides of 1 to 8, parts of at most 10. -/
import Derived.Test.YtbpgbplepebcjaaMm
import Derived.Test.YtbpgbplepebcjaaFh
namespace Go.Proofs.Ytbpgbplepebcjaa
open Go.RowKit
open Num Quick

theorem half_num : Fl .f32 1056964608 ∧ Num.fv .f32 1056964608 = 1 / 2 := by
  refine ⟨?_, ?_⟩
  · show (1056964608 : Nat) % FloatKind.f32.format.signWeight < FloatKind.f32.format.infRung
    decide +kernel
  · unfold Num.fv val rv p2
    decide +kernel
theorem zero64_num : Fl .f64 0 ∧ Num.fv .f64 0 = 0 := by
  refine ⟨?_, ?_⟩
  · show (0 : Nat) % FloatKind.f64.format.signWeight < FloatKind.f64.format.infRung
    decide +kernel
  · unfold Num.fv val rv p2
    decide +kernel
theorem rInt64 (n : Int) : ∀ w : World, (convert 2 40 (.int .i64 n)).run Try.prog w = .ok (.float .f64 (floatOfInt .f64 n)) w := fun w => run_convert_int_float w _ _ _ _ _ (by rw [Try.underlying2]; rfl) Try.underlying40
theorem rToInt {x : Nat} {n : Int} (h : floatToIntVal .f64 x .i64 = some n) : ∀ w : World, (convert 40 2 (.float .f64 x)).run Try.prog w = .ok (.int .i64 n) w := fun w => run_convert_float_int w _ _ _ _ _ _ (by rw [Try.underlying40]; rfl) Try.underlying2 h
theorem rFloor {x r : Nat} (h : floorP x = some r) : ∀ w : World, (callFunc 124 #[.float .f64 x]).run Try.prog w = .ok (.value (.float .f64 r)) w := fun w => by
  rw [run_callFunc_extern (P := Try.prog) (f := 124) (fn := Try.f124) (e := Extern.MathFloor.toIntegral "math.archFloor" .down) (by kernel_rfl) (by kernel_rfl) (by kernel_rfl) (by kernel_rfl) (by kernel_rfl)]
  unfold floorP at h
  change ((match FloatKind.f64.decode x with
    | .nan s t =>
      if FloatKind.f64.format.quiet t = t then (pure (.float .f64 x) : Sem Value) else do
      let kept ← choose (.extern "math.Floor,Ceil,Trunc,RoundToEven.signallingNaN kept" 2)
      pure (.float .f64 (if kept == 1 then x else FloatKind.f64.encode (.nan s (FloatKind.f64.format.quiet t))))
    | d => pure (.float .f64 (FloatKind.f64.encode (d.integral .down)))).run Try.prog w).andThen _ = _
  cases e : FloatKind.f64.decode x with
  | nan s t => rw [e] at h; cases h
  | infinity s => rw [e] at h; cases h; rfl
  | number s m i => rw [e] at h; cases h; rfl
theorem floor_w {x r : Nat} (h : floorP x = some r) (w : World) : Calls Try.prog 114 #[.float .f64 x] w fun e w' => e = .returned (.float .f64 r) ∧ w' = w := by
  have h1 := rFloor h
  clear h
  go_enter Try.func114, Try.ntmps114
  go_wp2
  go_ret
  exact ⟨rfl, rfl⟩
theorem top_big : (100 : Rat) ≤ top := by decide +kernel
theorem boxMiddle_num (x side : Nat) (h : x < side) (h8 : side ≤ 8) : ∃ m, (∀ w : World, Calls Try.prog 96 #[.int .i64 (x : Int), .int .i64 (side : Int)] w fun e w' => e = .returned (.float .f32 m) ∧ w' = w) ∧ Fl .f32 m ∧ m < 4294967296 ∧ InR (Num.fv .f32 m) 1 := by
  obtain ⟨p, hp⟩ : ∃ p : Int, 2 * (x : Int) + 1 = p := ⟨_, rfl⟩
  obtain ⟨q, hq⟩ : ∃ q : Int, 2 * (x : Int) = q := ⟨_, rfl⟩
  obtain ⟨i1, i2, i3⟩ := fint .f32 p (by omega)
  obtain ⟨j1, j2, j3⟩ := fint .f32 (side : Int) (by omega)
  rw [Rat.intCast_natCast] at j2
  have hs : (1 : Rat) ≤ (side : Rat) := Rat.natCast_le_natCast.2 (show 1 ≤ side by omega)
  have hp0 : (0 : Rat) ≤ (p : Rat) := Rat.intCast_le_intCast.2 (show 0 ≤ p by omega)
  have hp2 : (p : Rat) ≤ 2 * (side : Rat) := by
    have h1 : (p : Rat) ≤ ((2 * (side : Int) : Int) : Rat) := Rat.intCast_le_intCast.2 (by omega)
    rw [Rat.intCast_mul, Rat.intCast_natCast] at h1
    exact h1
  have hsp : (0 : Rat) < (side : Rat) := by grind
  obtain ⟨v, hv⟩ : ∃ v, (p : Rat) / (side : Rat) = v := ⟨_, rfl⟩
  have hvs : v * (side : Rat) = (p : Rat) := by rw [← hv]; grind
  have iv : 0 ≤ v ∧ v ≤ 2 := by
    constructor
    · apply rat_cancel hsp; grind
    · apply rat_cancel hsp; grind
  have tb := top_big
  obtain ⟨r, r1, r2⟩ := fdiv i1 j1 (by rw [j2]; grind) (by rw [i2, j2, hv]; grind) (by rw [i2, j2, hv]; grind)
  rw [i2, j2, hv] at r2
  have k1 := r2.ge_int 0 (by decide) iv.1
  have k2 := r2.le_int 2 (by decide) iv.2
  have e0 : ((0 : Int) : Rat) = 0 := rfl
  have e2 : ((2 : Int) : Rat) = 2 := rfl
  rw [e0] at k1
  rw [e2] at k2
  obtain ⟨m, m1, m2⟩ := fsub r2.fin c1.1 (by rw [c1.2]; grind) (by rw [c1.2]; grind)
  rw [c1.2] at m2
  have n1 := m2.le_int 1 (by decide) (by have e1 : ((1 : Int) : Rat) = 1 := rfl
                                         rw [e1]; grind)
  have n2 := m2.ge_int (-1) (by decide) (by have e1 : ((-1 : Int) : Rat) = -1 := rfl
                                            rw [e1]; grind)
  refine ⟨m, fun w => ?_, m2.fin, m2.lt, ⟨n1, n2⟩⟩
  have q1 := r32 r1
  have q2 := r32 m1
  have q3 := rInt32 p
  have q4 := rInt32 (side : Int)
  have wq : wrap64 q = q := IntWalk.wrap64_in _ (by omega)
  have hpq : q + 1 = p := by omega
  have wp' : wrap64 p = p := IntWalk.wrap64_in _ (by omega)
  clear i1 i2 i3 j1 j2 j3 hs hp0 hp2 hsp hv hvs iv tb r1 r2 k1 k2 m1 m2 n1 n2 e0 e2 hp
  go_enter Try.func96, Try.ntmps96
  go_wp2
  go_ret
  exact ⟨rfl, rfl⟩
theorem boxOf_num {a : Nat} (side : Nat) (h1 : 1 ≤ side) (h8 : side ≤ 8) (ha : Fl .f32 a) (ia : InR (Num.fv .f32 a) 10) : ∃ (X : Nat) (ok : Bool), (∀ w : World, Calls Try.prog 97 #[.float .f32 a, .int .i64 (side : Int)] w fun e w' => e = .returned (.tuple #[.int .i64 (X : Int), .bool ok]) ∧ w' = w) ∧ X < side := by
  have tb := top_big
  unfold InR at ia
  obtain ⟨b, b1, b2⟩ := fadd ha c1.1 (by rw [c1.2]; grind) (by rw [c1.2]; grind)
  rw [c1.2] at b2
  have e16 : p2 4 = 16 := by decide +kernel
  have e8 : p2 3 = 8 := by decide +kernel
  have e64 : p2 6 = 64 := by decide +kernel
  have kb := b2.within 4 (by decide) (by decide) (by rw [e16]; grind) (by rw [e16]; grind)
  rw [e16] at kb
  obtain ⟨c, d1, d2⟩ := fmul half_num.1 b2.fin (by rw [half_num.2]; grind) (by rw [half_num.2]; grind)
  rw [half_num.2] at d2
  have kc := d2.within 3 (by decide) (by decide) (by rw [e8]; grind) (by rw [e8]; grind)
  rw [e8] at kc
  obtain ⟨j1, j2, j3⟩ := fint .f32 (side : Int) (by omega)
  rw [Rat.intCast_natCast] at j2
  have hs1 : (1 : Rat) ≤ (side : Rat) := Rat.natCast_le_natCast.2 h1
  have hs8 : (side : Rat) ≤ 8 := Rat.natCast_le_natCast.2 h8
  have pr := prod_in (show InR (Num.fv .f32 c) 8 by unfold InR; grind) (show InR (side : Rat) 8 by unfold InR; grind) (by decide)
  have e88 : (8 : Rat) * 8 = 64 := by decide +kernel
  rw [e88] at pr
  unfold InR at pr
  obtain ⟨d, f1, f2⟩ := fmul d2.fin j1 (by rw [j2]; grind) (by rw [j2]; grind)
  rw [j2] at f2
  have kd := f2.within 6 (by decide) (by decide) (by rw [e64]; grind) (by rw [e64]; grind)
  rw [e64] at kd
  obtain ⟨x, x1, x2, x3, x4⟩ := fwide f2.fin
  obtain ⟨r, k, r1, r2, r3, r4, r5, r6⟩ := floor_num x2 (by rw [x4]; grind) (by rw [x4]; grind)
  have hk : -1048576 ≤ k ∧ k ≤ 1048576 := by
    constructor
    · have : ((-1048576 : Int) : Rat) ≤ (k : Rat) := by
        have e1 : ((-1048576 : Int) : Rat) = -1048576 := rfl
        rw [e1]; grind
      exact Rat.intCast_le_intCast.1 this
    · have : (k : Rat) ≤ ((1048576 : Int) : Rat) := by
        have e1 : ((1048576 : Int) : Rat) = 1048576 := rfl
        rw [e1]; grind
      exact Rat.intCast_le_intCast.1 this
  obtain ⟨s1, s2, s3⟩ := fint .f64 (side : Int) (by omega)
  have ti := toInt_num r2 r4 hk.1 hk.2
  have q1 := r32 b1
  have q2 := r32 d1
  have q3 := r32 f1
  have q4 := rInt32 (side : Int)
  have q5 := rWide x1
  have q6 := Lib.hid (fun w => floor_w r1 w)
  have q7 := rInt64 (side : Int)
  have q8 := rToInt ti
  by_cases c0' : 0 ≤ k
  · have g1 : (FloatKind.f64.format.order r 0 == some .gt || FloatKind.f64.format.order r 0 == some .eq) = true := by
      have hk0 : ((0 : Int) : Rat) ≤ (k : Rat) := Rat.intCast_le_intCast.2 c0'
      have e0 : ((0 : Int) : Rat) = 0 := rfl
      rw [e0] at hk0
      by_cases c : 0 < (k : Rat)
      · rw [cmp_gt' r2 zero64_num.1 (by rw [r4, zero64_num.2]; exact c)]; decide
      · rw [cmp_eq' r2 zero64_num.1 (by rw [r4, zero64_num.2]; grind)]; decide
    by_cases c1' : k < (side : Int)
    · have g2 : (FloatKind.f64.format.order r (floatOfInt .f64 (side : Int)) == some .lt) = true := (lt_cmp r2 s1 (by rw [r4, s2]; exact Rat.intCast_lt_intCast.2 c1')).1
      refine ⟨k.toNat, true, fun w => ?_, by omega⟩
      have hkn : (((k.toNat : Nat)) : Int) = k := by omega
      rw [hkn]
      clear b1 b2 e16 e8 e64 kb d1 d2 kc j1 j2 j3 hs1 hs8 pr e88 f1 f2 kd x1 x2 x3 x4 r1 r2 r3 r4 r5 r6 hk s1 s2 s3 ti tb ia ha c0' c1' hkn
      rw [Bool.or_eq_true] at g1
      rcases g1 with g1 | g1
      all_goals
        go_enter Try.func97, Try.ntmps97
        go_wp2_with fail
        refine (q6.out _).mono ?_
        rintro e w1 ⟨rfl, rfl⟩
        go_wp2
        go_ret2
        exact ⟨rfl, rfl⟩
    · have g2 : (FloatKind.f64.format.order r (floatOfInt .f64 (side : Int)) == some .lt) = false := not_lt_cmp r2 s1 (by rw [r4, s2]; exact Rat.intCast_le_intCast.2 (by omega))
      refine ⟨0, false, fun w => ?_, by omega⟩
      clear b1 b2 e16 e8 e64 kb d1 d2 kc j1 j2 j3 hs1 hs8 pr e88 f1 f2 kd x1 x2 x3 x4 r1 r2 r3 r4 r5 r6 hk s1 s2 s3 ti tb ia ha c0' c1'
      rw [Bool.or_eq_true] at g1
      rcases g1 with g1 | g1
      all_goals
        go_enter Try.func97, Try.ntmps97
        go_wp2_with fail
        refine (q6.out _).mono ?_
        rintro e w1 ⟨rfl, rfl⟩
        go_wp2
        go_ret2
        exact ⟨rfl, rfl⟩
  · have g1 : FloatKind.f64.format.order r 0 = some .lt := by
      have hk0 : (k : Rat) < ((0 : Int) : Rat) := Rat.intCast_lt_intCast.2 (by omega)
      have e0 : ((0 : Int) : Rat) = 0 := rfl
      rw [e0] at hk0
      exact cmp_lt' r2 zero64_num.1 (by rw [r4, zero64_num.2]; exact hk0)
    refine ⟨0, false, fun w => ?_, by omega⟩
    clear b1 b2 e16 e8 e64 kb d1 d2 kc j1 j2 j3 hs1 hs8 pr e88 f1 f2 kd x1 x2 x3 x4 r1 r2 r3 r4 r5 r6 hk s1 s2 s3 ti tb ia ha c0'
    go_enter Try.func97, Try.ntmps97
    go_wp2_with fail
    refine (q6.out _).mono ?_
    rintro e w1 ⟨rfl, rfl⟩
    go_wp2
    go_ret2
    exact ⟨rfl, rfl⟩
end Go.Proofs.Ytbpgbplepebcjaa
