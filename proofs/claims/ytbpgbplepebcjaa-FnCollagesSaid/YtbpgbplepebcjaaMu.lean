/- Plain law with the walks' contracts: all that the law of small maps asks. -/
import Derived.Test.YtbpgbplepebcjaaMt
import Derived.Laws.ComplexArith
namespace Go.Proofs.Ytbpgbplepebcjaa
open Go.RowKit
open Num Quick

/-- A thousandth, in double precision. -/
abbrev kilo64 : Nat := 4562254508917369340
theorem kilo64_num : Fl .f64 kilo64 ∧ 1 / 1024 ≤ Num.fv .f64 kilo64 ∧ Num.fv .f64 kilo64 ≤ 1 := by
  refine ⟨?_, ?_, ?_⟩
  · show kilo64 % FloatKind.f64.format.signWeight < FloatKind.f64.format.infRung
    decide +kernel
  · unfold Num.fv val rv p2
    decide +kernel
  · unfold Num.fv val rv p2
    decide +kernel
theorem one64_num : Fl .f64 4607182418800017408 ∧ Num.fv .f64 4607182418800017408 = 1 := by
  refine ⟨?_, ?_⟩
  · show (4607182418800017408 : Nat) % FloatKind.f64.format.signWeight < FloatKind.f64.format.infRung
    decide +kernel
  · unfold Num.fv val rv p2
    decide +kernel
theorem rCSub {a b c d x y : Nat} (h1 : floatBits .sub .f32 a c = some x) (h2 : floatBits .sub .f32 b d = some y) : ∀ w : World, (binOp .sub 26 (.complex .f32 a b) (.complex .f32 c d)).run Try.prog w = .ok (.complex .f32 x y) w := fun w =>
  run_complex_sum w .sub (.inr rfl) _ .f32 a b c d x y (by unfold cSumBits; rw [h1, h2]; rfl)
/-- Two near numbers: their difference is short. -/
theorem short_num {a b c d : Nat} (ha : Fl .f32 a) (hb : Fl .f32 b) (hc : Fl .f32 c) (hd : Fl .f32 d) (h1 : InR (Num.fv .f32 a - Num.fv .f32 c) (1 / 131072)) (h2 : InR (Num.fv .f32 b - Num.fv .f32 d) (1 / 131072)) :
    ∃ x y l q, (∀ w : World, (binOp .sub 26 (.complex .f32 a b) (.complex .f32 c d)).run Try.prog w = .ok (.complex .f32 x y) w) ∧
      (∀ w : World, Calls Try.prog 17 #[.complex .f32 x y] w fun e w' => e = .returned (.float .f32 l) ∧ w' = w) ∧
      (∀ w : World, (convert 27 40 (.float .f32 l)).run Try.prog w = .ok (.float .f64 q) w) ∧ Fl .f64 q ∧ 0 ≤ Num.fv .f64 q ∧ Num.fv .f64 q ≤ 1 / 65536 := by
  have t1 : (1 / 131072 : Rat) ≤ top := by decide +kernel
  obtain ⟨x, x1, x2⟩ := fsub ha hc (in_mono h1 t1).1 (in_mono h1 t1).2
  obtain ⟨y, y1, y2⟩ := fsub hb hd (in_mono h2 t1).1 (in_mono h2 t1).2
  have e : p2 (-17) = 1 / 131072 := by decide +kernel
  have bx := x2.within (-17) (by decide) (by decide) (by rw [e]; exact h1.1) (by rw [e]; exact h1.2)
  have by_ := y2.within (-17) (by decide) (by decide) (by rw [e]; exact h2.1) (by rw [e]; exact h2.2)
  rw [e] at bx by_
  have ix : InR (Num.fv .f32 x) (1 / 131072) := bx
  have iy : InR (Num.fv .f32 y) (1 / 131072) := by_
  have tm : (1 / 131072 : Rat) ≤ mid := by decide +kernel
  obtain ⟨l, _, l2, l3⟩ := long_num x2.fin y2.fin (in_mono ix tm) (in_mono iy tm)
  have p1 := prod_in ix ix (by decide +kernel)
  have p2' := prod_in iy iy (by decide +kernel)
  have hl : Num.fv .f32 l ≤ 1 / 65536 := by
    have r := rep_frac .f32 1 16 (by decide) (by decide)
    have e2 : ((1 : Int) : Rat) / ((2 ^ 16 : Nat) : Rat) = 1 / 65536 := by decide +kernel
    rw [e2] at r
    have e3 : (1 / 131072 : Rat) * (1 / 131072) + 1 / 131072 * (1 / 131072) ≤ 1 / 65536 * (1 / 65536) := by decide +kernel
    exact l3.le _ r (by decide +kernel) (by have := p1.1; have := p2'.1; grind)
  obtain ⟨q, q1, q2, q3, q4⟩ := fwide l3.fin
  exact ⟨x, y, l, q, rCSub x1 y1, l2, rWide q1, q2, by rw [q4]; exact l3.nonneg, by rw [q4]; exact hl⟩
/-- What is short is less than a thousandth. -/
theorem short_lt {q : Nat} (h : Fl .f64 q) (h2 : Num.fv .f64 q ≤ 1 / 65536) : (FloatKind.f64.format.order q kilo64 == some .lt) = true := by
  have e : (1 / 65536 : Rat) < 1 / 1024 := by decide +kernel
  have := kilo64_num.2.1
  exact (lt_cmp h kilo64_num.1 (by grind)).1
theorem join_ok {a b c d s : Nat} {P Q U V X : Nat} : True := trivial
/-- All that is asked of two maps and a point. -/
structure Asked (x y : Sm) (z : Nat × Nat) : Prop where
  get : ∃ wu wv bu bv P Q U V X fu fw tu tv au av ru rv su sv : Nat,
    (∀ w : World, Calls Try.prog 10 #[smallV x.a x.b x.c x.d x.fl x.s, .complex .f32 z.1 z.2] w fun e w' => e = .returned (.tuple #[.complex .f32 wu wv, .bool true]) ∧ Below w.heap.size w w') ∧
    (∀ w : World, Calls Try.prog 11 #[smallV x.a x.b x.c x.d x.fl x.s, .complex .f32 wu wv] w fun e w' => e = .returned (.tuple #[.complex .f32 bu bv, .bool true]) ∧ Below w.heap.size w w') ∧
    (∀ w : World, Calls Try.prog 12 #[smallV x.a x.b x.c x.d x.fl x.s, smallV y.a y.b y.c y.d y.fl y.s] w fun e w' => e = .returned (.tuple #[smallV P Q U V (x.fl != y.fl) X, .bool true]) ∧ Below w.heap.size w w') ∧
    (∀ w : World, Calls Try.prog 10 #[smallV y.a y.b y.c y.d y.fl y.s, .complex .f32 z.1 z.2] w fun e w' => e = .returned (.tuple #[.complex .f32 fu fw, .bool true]) ∧ Below w.heap.size w w') ∧
    (∀ w : World, Calls Try.prog 10 #[smallV x.a x.b x.c x.d x.fl x.s, .complex .f32 fu fw] w fun e w' => e = .returned (.tuple #[.complex .f32 tu tv, .bool true]) ∧ Below w.heap.size w w') ∧
    (∀ w : World, Calls Try.prog 10 #[smallV P Q U V (x.fl != y.fl) X, .complex .f32 z.1 z.2] w fun e w' => e = .returned (.tuple #[.complex .f32 au av, .bool true]) ∧ Below w.heap.size w w') ∧
    (∀ w : World, Calls Try.prog 13 #[smallV x.a x.b x.c x.d x.fl x.s] w fun e w' => e = .returned (.tuple #[.complex .f32 ru rv, .bool true]) ∧ Below w.heap.size w w') ∧
    (∀ w : World, Calls Try.prog 10 #[smallV x.a x.b x.c x.d x.fl x.s, .complex .f32 ru rv] w fun e w' => e = .returned (.tuple #[.complex .f32 su sv, .bool true]) ∧ Below w.heap.size w w') ∧
    (∀ w : World, Calls Try.prog 15 #[smallV x.a x.b x.c x.d x.fl x.s] w fun e w' => e = .returned (.bool true) ∧ Below w.heap.size w w') ∧
    (∀ w : World, Calls Try.prog 15 #[smallV P Q U V (x.fl != y.fl) X] w fun e w' => e = .returned (.bool true) ∧ Below w.heap.size w w') ∧
    (Fl .f32 bu ∧ Fl .f32 bv ∧ Num.fv .f32 bu = Num.fv .f32 z.1 ∧ Num.fv .f32 bv = Num.fv .f32 z.2) ∧
    (Fl .f32 tu ∧ Fl .f32 tv ∧ Fl .f32 au ∧ Fl .f32 av ∧ Num.fv .f32 tu = Num.fv .f32 au ∧ Num.fv .f32 tv = Num.fv .f32 av) ∧
    (Fl .f32 su ∧ Fl .f32 sv ∧ Fl .f32 ru ∧ Fl .f32 rv ∧ InR (Num.fv .f32 ru) 6 ∧ InR (Num.fv .f32 rv) 6 ∧ InR (Num.fv .f32 su - Num.fv .f32 ru) (1 / 131072) ∧ InR (Num.fv .f32 sv - Num.fv .f32 rv) (1 / 131072))
theorem asked_all {N : Nat} {x y : Sm} {z : Nat × Nat} (hN : 1 ≤ N) (hx : x.ok N) (hy : y.ok N) (hz : PtOk z) : Asked x y z := by
  obtain ⟨z1, z2⟩ := z
  obtain ⟨hz1, hz2⟩ := hz
  simp only at hz1 hz2
  have ox := hx.okSmall hN
  have oy := hy.okSmall hN
  obtain ⟨wu, wv, M1, w1, w2, w3, w4⟩ := maps_exact (s := x.s) (D := 32) (E := 96) (j := 3) x.fl hx.a hx.b hx.c hx.d hz1 hz2 (by decide) (by decide) rfl (by decide) rfl (by decide) (by decide) (by decide) (by decide)
  obtain ⟨fu, fw, M2, f1, f2, f3, f4⟩ := maps_exact (s := y.s) (D := 32) (E := 96) (j := 3) y.fl hy.a hy.b hy.c hy.d hz1 hz2 (by decide) (by decide) rfl (by decide) rfl (by decide) (by decide) (by decide) (by decide)
  obtain ⟨tu, tv, M3, t1, t2, t3, t4⟩ := maps_exact (s := x.s) (D := 256) (E := 1024) (j := 6) x.fl hx.a hx.b hx.c hx.d f1 f2 (by decide) (by decide) rfl (by decide) rfl (by decide) (by decide) (by decide) (by decide)
  have a8 := hx.a1
  have hT : tiny ≤ Num.fv .f32 x.a * Num.fv .f32 x.a + Num.fv .f32 x.b * Num.fv .f32 x.b := by
    have k1 := Rat.mul_nonneg (show 0 ≤ Num.fv .f32 x.a - 1 / 8 by grind) (show 0 ≤ Num.fv .f32 x.a - 1 / 8 by grind)
    have k2 : 0 ≤ Num.fv .f32 x.b * Num.fv .f32 x.b := by
      rcases (Rat.le_total : 0 ≤ Num.fv .f32 x.b ∨ Num.fv .f32 x.b ≤ 0) with c | c
      · exact Rat.mul_nonneg c c
      · have := Rat.mul_nonneg (show 0 ≤ -Num.fv .f32 x.b by grind) (show 0 ≤ -Num.fv .f32 x.b by grind)
        grind
    have k3 : tiny ≤ 1 / 64 := by decide +kernel
    grind
  obtain ⟨bu, bv, B1, b1, b2, b3, b4⟩ := back_exact (s := x.s) (x := z1) (y := z2) (D := 32) (F := 128) (j := 3) x.fl hx.a hx.b hx.c hx.d w1 w2 hz1.gr hz2.gr (by decide) rfl (by decide) rfl (by decide) (by decide) (by decide) (by decide) (by decide) (by decide) (by decide) (by decide) w3 w4 hT
  -- the joined map
  have hyf := hy.b.flip x.fl
  obtain ⟨P, Q, J1, j1, j2, j3, j4⟩ := mul_exact hx.a hx.b hy.a hyf.1 (by decide) (by decide) (by decide) (by decide)
  rw [hyf.2] at j3 j4
  obtain ⟨U, V, J2, u1, u2, u3, u4⟩ := maps_exact (s := x.s) (D := 32) (E := 64) (j := 3) x.fl hx.a hx.b hx.c hx.d hy.c hy.d (by decide) (by decide) rfl (by decide) rfl (by decide) (by decide) (by decide) (by decide)
  have gs := hx.s.gr.mul hy.s.gr
  have is := in_top (in_lowM (gs.bound (C := 1000) (by decide)))
  obtain ⟨X, x1, x2⟩ := fmul hx.s.fin hy.s.fin is.1 is.2
  have x3 := gs.exact x2 (by decide) (by decide)
  have oJ : OkSmall P Q U V X := by
    refine ⟨j1.fin, j2.fin, u1.fin, u2.fin, x2.fin, ?_, u1.low (by decide), u2.low (by decide), ?_, ?_⟩
    · have ha := half_of hx.a
      have hb := half_of hx.b
      have hc := half_of hy.a
      have hd := half_of hy.b
      have p1 := prod_in ha ha (by decide +kernel)
      have p2' := prod_in hb hb (by decide +kernel)
      have p3 := prod_in hc hc (by decide +kernel)
      have p4 := prod_in hd hd (by decide +kernel)
      have e : (1 : Rat) / 2 * (1 / 2) = 1 / 4 := by decide +kernel
      rw [e] at p1 p2' p3 p4
      have q1 : InR (Num.fv .f32 x.a * Num.fv .f32 x.a + Num.fv .f32 x.b * Num.fv .f32 x.b) (1 / 2) := by unfold InR at *; grind
      have q2 : InR (Num.fv .f32 y.a * Num.fv .f32 y.a + Num.fv .f32 y.b * Num.fv .f32 y.b) (1 / 2) := by unfold InR at *; grind
      have q3 := prod_in q1 q2 (by decide +kernel)
      rw [e] at q3
      have e2 : Num.fv .f32 P * Num.fv .f32 P + Num.fv .f32 Q * Num.fv .f32 Q = (Num.fv .f32 x.a * Num.fv .f32 x.a + Num.fv .f32 x.b * Num.fv .f32 x.b) * (Num.fv .f32 y.a * Num.fv .f32 y.a + Num.fv .f32 y.b * Num.fv .f32 y.b) := by
        rw [j3, j4]
        cases x.fl <;> simp <;> grind
      rw [e2]
      unfold InR at q3
      grind
    · rw [x3]; exact Rat.mul_nonneg ox.s0 oy.s0
    · rw [x3]
      have := Rat.mul_le_mul_of_nonneg_left oy.s1 ox.s0
      have := ox.s1
      grind
  obtain ⟨au, av, M4, a1, a2, a3, a4⟩ := maps_exact (s := X) (D := 512) (E := 1024) (j := 3) (x.fl != y.fl) j1 j2 u1 u2 hz1 hz2 (by decide) (by decide) rfl (by decide) rfl (by decide) (by decide) (by decide) (by decide)
  obtain ⟨ru, rv, su, sv, R1, M5, r1, r2, r3, r4, s1, s2, s3, s4⟩ := rest_all hN hx
  refine ⟨wu, wv, bu, bv, P, Q, U, V, X, fu, fw, tu, tv, au, av, ru, rv, su, sv, ?_, ?_, ?_, ?_, ?_, ?_, R1, ?_, ?_, ?_, ⟨b1.fin, b2.fin, b3, b4⟩, ⟨t1.fin, t2.fin, a1.fin, a2.fin, ?_, ?_⟩, ⟨s1, s2, r1, r2, r3, r4, s3, s4⟩⟩
  · exact fun w => mapSmall_w x.fl ox hz1.fin hz2.fin (hz1.low (by decide)) (hz2.low (by decide)) M1 w1.fin w2.fin w
  · exact fun w => backSmall_w x.fl ox (by have e : (0 : Rat) < 1 / 8 := by decide +kernel
                                           grind) w1.fin w2.fin (w1.low (by decide)) (w2.low (by decide)) B1 b1.fin b2.fin w
  · exact fun w => join_w x.fl y.fl ox oy J1 J2 x1 oJ w
  · exact fun w => mapSmall_w y.fl oy hz1.fin hz2.fin (hz1.low (by decide)) (hz2.low (by decide)) M2 f1.fin f2.fin w
  · exact fun w => mapSmall_w x.fl ox f1.fin f2.fin (f1.low (by decide)) (f2.low (by decide)) M3 t1.fin t2.fin w
  · exact fun w => mapSmall_w (x.fl != y.fl) oJ hz1.fin hz2.fin (hz1.low (by decide)) (hz2.low (by decide)) M4 a1.fin a2.fin w
  · exact fun w => mapSmall_w x.fl ox r1 r2 (in_mono r3 (by decide +kernel)) (in_mono r4 (by decide +kernel)) M5 s1 s2 w
  · exact fun w => valid_num x.fl ox w
  · exact fun w => valid_num (x.fl != y.fl) oJ w
  · rw [t3, a3, f3, f4, u3, j3, j4]
    cases x.fl <;> cases y.fl <;> simp <;> grind
  · rw [t4, a4, f3, f4, u4, j3, j4]
    cases x.fl <;> cases y.fl <;> simp <;> grind
end Go.Proofs.Ytbpgbplepebcjaa
