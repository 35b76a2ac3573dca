/- Plain law: lines that are fitted: the first point is where it shall be, and the last one nearly. Conditions: ways of at most 16 moves that end at least a twelfth away. -/
import Derived.Test.YtkldgcgijkfpaaaTul
import Derived.Test.YtkldgcgijkfpaaaTuh
namespace Go.Proofs.Ytkldgcgijkfpaaa
open Go.RowKit
open Num Quick

theorem abs_ex (x : Rat) : ∃ V, 0 ≤ V ∧ V * V = x * x ∧ InR x V := by
  rcases (Rat.le_total : 0 ≤ x ∨ x ≤ 0) with c | c
  · exact ⟨x, c, rfl, Rat.le_refl, by grind⟩
  · exact ⟨-x, by grind, by grind, by grind, by grind⟩
theorem in_mul {x y A B : Rat} (hx : InR x A) (hy : InR y B) (hA : 0 ≤ A) : InR (x * y) (A * B) := prod_in hx hy hA
/-- The quotient of 1 and a number, nearly: times that number it is 1, nearly. -/
theorem unit_quot {X Y n q1 q2 : Rat} (hX : InR X 33) (hY : InR Y 33) (hn : 1 / 150 ≤ n) (hn2 : InR (n - (X * X + Y * Y)) (1 / 2199023255552)) (h1 : ∀ V, InR (X / n) V → V ≤ 1099511627776 → InR (q1 - X / n) (V * rho + tinr)) (h2 : ∀ V, InR (-Y / n) V → V ≤ 1099511627776 → InR (q2 - -Y / n) (V * rho + tinr)) :
    InR (X * q1 - Y * q2 - 1) (1 / 3000000) ∧ InR (X * q2 + Y * q1) (1 / 3000000) ∧ InR q1 5000 ∧ InR q2 5000 := by
  have n0 : n ≠ 0 := by intro h; rw [h] at hn; exact absurd hn (by decide +kernel)
  have npos : 0 < n := by grind
  obtain ⟨a, ha⟩ : ∃ a, X / n = a := ⟨_, rfl⟩
  obtain ⟨b, hb⟩ : ∃ b, Y / n = b := ⟨_, rfl⟩
  have ha' : a * n = X := by rw [← ha]; exact Rat.div_mul_cancel n0
  have hb' : b * n = Y := by rw [← hb]; exact Rat.div_mul_cancel n0
  have hnb : -Y / n = -b := by rw [← hb, Rat.div_def, Rat.div_def, Rat.neg_mul]
  rw [ha] at h1
  rw [hnb] at h2
  obtain ⟨V, V0, V2, Va⟩ := abs_ex a
  obtain ⟨W, W0, W2, Wb⟩ := abs_ex b
  -- the sizes
  have hVn : V * n ≤ 33 := by
    refine sq_le (show (0 : Rat) ≤ 33 by decide) ?_
    have e : V * n * (V * n) = X * X := by rw [← ha']; grind
    rw [e]
    exact abs_sq hX.1 hX.2
  have hWn : W * n ≤ 33 := by
    refine sq_le (show (0 : Rat) ≤ 33 by decide) ?_
    have e : W * n * (W * n) = Y * Y := by rw [← hb']; grind
    rw [e]
    exact abs_sq hY.1 hY.2
  have hV : V ≤ 4950 := by
    have m := Rat.mul_le_mul_of_nonneg_left hn V0
    grind
  have hW : W ≤ 4950 := by
    have m := Rat.mul_le_mul_of_nonneg_left hn W0
    grind
  have k1 := h1 V Va (by grind)
  have k2 := h2 W ⟨by have := Wb.2; grind, by have := Wb.1; grind⟩ (by grind)
  -- the whole: K = n (a a + b b)
  obtain ⟨K, hK⟩ : ∃ K, n * (V * V + W * W) = K := ⟨_, rfl⟩
  have hK1 : InR (K - 1) (1 / 10000000000) := by
    have e : n * (K - 1) = (X * X + Y * Y) - n := by rw [← hK, V2, W2, ← ha', ← hb']; grind
    obtain ⟨u1, u2⟩ := hn2
    have c : (1 : Rat) / 2199023255552 ≤ 1 / 150 * (1 / 10000000000) := by decide +kernel
    have m := Rat.mul_le_mul_of_nonneg_right hn (show (0 : Rat) ≤ 1 / 10000000000 by decide +kernel)
    unfold InR
    constructor
    · refine Rat.le_of_mul_le_mul_left (c := n) ?_ npos
      rw [e]
      generalize n * (1 / 10000000000) = g at *
      grind
    · refine Rat.le_of_mul_le_mul_left (c := n) ?_ npos
      rw [e, show n * -(1 / 10000000000 : Rat) = -(n * (1 / 10000000000)) by grind]
      generalize n * (1 / 10000000000) = g at *
      grind
  obtain ⟨d1, hd1⟩ : ∃ d, q1 - a = d := ⟨_, rfl⟩
  obtain ⟨d2, hd2⟩ : ∃ d, q2 - -b = d := ⟨_, rfl⟩
  rw [hd1] at k1
  rw [hd2] at k2
  have r0 := rho_nn
  have t0 := tinr_nn
  have E1 : 0 ≤ V * rho + tinr := by have := Rat.mul_nonneg V0 r0; grind
  have E2 : 0 ≤ W * rho + tinr := by have := Rat.mul_nonneg W0 r0; grind
  have iX : InR X (V * n) := by
    rw [← ha']
    obtain ⟨u1, u2⟩ := Va
    have m1 := Rat.mul_le_mul_of_nonneg_right u1 (Rat.le_of_lt npos)
    have m2 := Rat.mul_le_mul_of_nonneg_right u2 (Rat.le_of_lt npos)
    exact ⟨m1, by rw [← Rat.neg_mul]; exact m2⟩
  have iY : InR Y (W * n) := by
    rw [← hb']
    obtain ⟨u1, u2⟩ := Wb
    have m1 := Rat.mul_le_mul_of_nonneg_right u1 (Rat.le_of_lt npos)
    have m2 := Rat.mul_le_mul_of_nonneg_right u2 (Rat.le_of_lt npos)
    exact ⟨m1, by rw [← Rat.neg_mul]; exact m2⟩
  have Vn0 : 0 ≤ V * n := Rat.mul_nonneg V0 (Rat.le_of_lt npos)
  have Wn0 : 0 ≤ W * n := Rat.mul_nonneg W0 (Rat.le_of_lt npos)
  have p1 := prod_in iX k1 Vn0
  have p2' := prod_in iY k2 Wn0
  have p3 := prod_in iX k2 Vn0
  have p4 := prod_in iY k1 Wn0
  have s33 : (V * n + W * n) * tinr ≤ 66 * tinr := Rat.mul_le_mul_of_nonneg_right (by grind) t0
  have hKr : K * rho ≤ 2 * rho := Rat.mul_le_mul_of_nonneg_right (by have := hK1.1; grind) r0
  have amgm : 2 * (V * W) ≤ V * V + W * W := by have := rsq_nn (V - W); grind
  have amn := Rat.mul_le_mul_of_nonneg_left amgm (Rat.le_of_lt npos)
  have amr := Rat.mul_le_mul_of_nonneg_right amn r0
  have f1 : V * n * (V * rho + tinr) + W * n * (W * rho + tinr) = K * rho + (V * n + W * n) * tinr := by rw [← hK]; grind
  have f2 : V * n * (W * rho + tinr) + W * n * (V * rho + tinr) = n * (2 * (V * W)) * rho + (V * n + W * n) * tinr := by grind
  have c : (2 * rho + 66 * tinr + 1 / 10000000000 : Rat) ≤ 1 / 3000000 := by decide +kernel
  rw [hK] at amr
  refine ⟨?_, ?_, ?_, ?_⟩
  · have e : X * q1 - Y * q2 - 1 = K - 1 + X * d1 - Y * d2 := by
      rw [← hd1, ← hd2, ← hK, V2, W2, ← ha', ← hb']
      grind
    rw [e]
    obtain ⟨u1, u2⟩ := p1
    obtain ⟨u3, u4⟩ := p2'
    obtain ⟨u5, u6⟩ := hK1
    generalize V * n * (V * rho + tinr) = G1 at *
    generalize W * n * (W * rho + tinr) = G2 at *
    generalize X * d1 = x1 at *
    generalize Y * d2 = x2 at *
    generalize K * rho = x3 at *
    generalize (V * n + W * n) * tinr = x4 at *
    generalize rho = r at *
    generalize tinr = t at *
    clear h1 h2 p3 p4 f2 amr amn amgm iX iY k1 k2 hd1 hd2 V2 W2 hK ha' hb' hn2 hVn hWn E1 E2
    unfold InR
    constructor <;> grind
  · have e : X * q2 + Y * q1 = X * d2 + Y * d1 := by
      rw [← hd1, ← hd2, ← ha', ← hb']
      grind
    rw [e]
    obtain ⟨u1, u2⟩ := p3
    obtain ⟨u3, u4⟩ := p4
    generalize V * n * (W * rho + tinr) = G1 at *
    generalize W * n * (V * rho + tinr) = G2 at *
    generalize X * d2 = x1 at *
    generalize Y * d1 = x2 at *
    generalize n * (2 * (V * W)) * rho = x5 at *
    generalize K * rho = x3 at *
    generalize (V * n + W * n) * tinr = x4 at *
    generalize rho = r at *
    generalize tinr = t at *
    clear h1 h2 p1 p2' f1 amn amgm iX iY k1 k2 hd1 hd2 V2 W2 hK ha' hb' hn2 hVn hWn E1 E2 hK1
    unfold InR
    constructor <;> grind
  · have m := Rat.mul_le_mul_of_nonneg_right hV r0
    have c2 : (4950 * rho + tinr : Rat) ≤ 1 := by decide +kernel
    obtain ⟨u1, u2⟩ := k1
    obtain ⟨u3, u4⟩ := Va
    have e : q1 = a + d1 := by grind
    rw [e]
    generalize V * rho = x at *
    generalize 4950 * rho = y at *
    generalize tinr = t at *
    clear h1 h2 p1 p2' p3 p4 f1 f2 amn amr amgm iX iY k2 hd1 hd2 V2 W2 hK ha' hb' hn2 hVn hWn E1 E2 hK1 s33 hKr c
    unfold InR
    constructor <;> grind
  · have m := Rat.mul_le_mul_of_nonneg_right hW r0
    have c2 : (4950 * rho + tinr : Rat) ≤ 1 := by decide +kernel
    obtain ⟨u1, u2⟩ := k2
    obtain ⟨u3, u4⟩ := Wb
    have e : q2 = -b + d2 := by grind
    rw [e]
    generalize W * rho = x at *
    generalize 4950 * rho = y at *
    generalize tinr = t at *
    clear h1 h2 p1 p2' p3 p4 f1 f2 amn amr amgm iX iY k1 hd1 hd2 V2 W2 hK ha' hb' hn2 hVn hWn E1 E2 hK1 s33 hKr c
    unfold InR
    constructor <;> grind
theorem fl1 : Fl .f32 1065353216 ∧ Num.fv .f32 1065353216 = 1 := c1
theorem gn_one : Gn 3 8 1065353216 := ⟨c1.1, by decide, by rw [c1.2]; decide +kernel⟩
/-- A number taken from itself and from 0. -/
theorem sub_zero {a z : Nat} (fa : Fl .f32 a) (hz : z = 0) (h : InR (Num.fv .f32 a) 1000000) : ∃ d, floatBits .sub .f32 a z = some d ∧ Fl .f32 d ∧ d < 4294967296 ∧ Num.fv .f32 d = Num.fv .f32 a := by
  subst hz
  have e : Num.fv .f32 a - Num.fv .f32 0 = Num.fv .f32 a := by rw [c0.2]; grind
  have t := fl_tops h
  obtain ⟨d, d1, d2⟩ := fsub fa c0.1 (by rw [e]; exact t.1) (by rw [e]; exact t.2)
  rw [e] at d2
  exact ⟨d, d1, d2.fin, d2.lt, d2.exact _ (rep_val _ fa)⟩
/-- A small sum or difference is near. -/
theorem near_add {a b : Nat} (fa : Fl .f32 a) (fb : Fl .f32 b) (op : BinOp) (hop : op = .add ∨ op = .sub) (x : Rat) (hx : x = if op = .add then Num.fv .f32 a + Num.fv .f32 b else Num.fv .f32 a - Num.fv .f32 b) (h : InR x 4) : ∃ d, floatBits op .f32 a b = some d ∧ Fl .f32 d ∧ InR (Num.fv .f32 d - x) (1 / 4194304) := by
  have t := fl_tops (in_le h (by decide +kernel))
  obtain ⟨d, d1, d2⟩ : ∃ d, floatBits op .f32 a b = some d ∧ Num.FR .f32 x d := by
    rcases hop with rfl | rfl
    · rw [if_pos rfl] at hx
      subst hx
      exact fadd fa fb t.1 t.2
    · rw [if_neg (by decide)] at hx
      subst hx
      exact fsub fa fb t.1 t.2
  have n := d2.near32 2 (by decide) (by decide) (by rw [p2_e2]; exact h.1) (by rw [p2_e2]; exact h.2)
  rw [p2_em22] at n
  have n1 := n.1
  have n2 := n.2
  refine ⟨d, d1, d2.fin, ?_⟩
  unfold InR
  constructor <;> grind
theorem tc001 : Fl .f64 4562254508917369340 ∧ 1 / 1001 ≤ Num.fv .f64 4562254508917369340 := by
  refine ⟨?_, ?_⟩
  · show (4562254508917369340 : Nat) % FloatKind.f64.format.signWeight < FloatKind.f64.format.infRung
    decide +kernel
  · unfold Num.fv val rv p2
    decide +kernel
/-- A pair that is nearly nothing is shorter than a thousandth. -/
theorem short_law {u v : Nat} (fu : Fl .f32 u) (fw : Fl .f32 v) (h1 : InR (Num.fv .f32 u) (1 / 4000)) (h2 : InR (Num.fv .f32 v) (1 / 4000)) : ∃ r z, (∀ w : World, Calls Try.prog 18 #[.complex .f32 u v] w fun e w' => e = .returned (.float .f32 r) ∧ w' = w) ∧ qwide r = some z ∧ (FloatKind.f64.format.order z 4562254508917369340 == some .lt) = true := by
  have md : (1 / 4000 : Rat) ≤ mid := by decide +kernel
  obtain ⟨r, r1, r2⟩ := long_num fu fw (in_le h1 md) (in_le h2 md)
  have L := Le2.small h1 h2
  have q0 : 0 ≤ Num.fv .f32 u * Num.fv .f32 u + Num.fv .f32 v * Num.fv .f32 v := by have := rsq_nn (Num.fv .f32 u); have := rsq_nn (Num.fv .f32 v); grind
  have k := (root_near32 r2 3 (by decide) (by decide) q0 (by rw [p2_e3]; have := L.sq; grind)).2 _ L.nn L.sq
  rw [p2_em21] at k
  obtain ⟨z, z1, z2, _, z4⟩ := fwide r2.fin
  refine ⟨r, z, r1, z1, (lt_cmp z2 tc001.1 ?_).1⟩
  rw [z4]
  have := tc001.2
  grind
/-- How far the line's end is away. -/
theorem tail_law {a b : Nat} (fa : Fl .f32 a) (fb : Fl .f32 b) (h1 : InR (Num.fv .f32 a) 33) (h2 : InR (Num.fv .f32 b) 33) : ∃ r z, (∀ w : World, Calls Try.prog 18 #[.complex .f32 a b] w fun e w' => e = .returned (.float .f32 r) ∧ w' = w) ∧ qwide r = some z ∧
    ((FloatKind.f64.format.order z 4591870180066957722 == some .lt) = true ∨ ((FloatKind.f64.format.order z 4591870180066957722 == some .lt) = false ∧ 1 / 144 ≤ Num.fv .f32 a * Num.fv .f32 a + Num.fv .f32 b * Num.fv .f32 b)) := by
  have md : (33 : Rat) ≤ mid := by decide +kernel
  obtain ⟨r, r1, r2⟩ := long_num fa fb (in_le h1 md) (in_le h2 md)
  have q0 : 0 ≤ Num.fv .f32 a * Num.fv .f32 a + Num.fv .f32 b * Num.fv .f32 b := by have := rsq_nn (Num.fv .f32 a); have := rsq_nn (Num.fv .f32 b); grind
  have c01 : Fl .f64 4591870180066957722 ∧ 1 / 11 ≤ Num.fv .f64 4591870180066957722 := by
    refine ⟨?_, ?_⟩
    · show (4591870180066957722 : Nat) % FloatKind.f64.format.signWeight < FloatKind.f64.format.infRung
      decide +kernel
    · unfold Num.fv val rv p2
      decide +kernel
  obtain ⟨z, z1, z2, _, z4⟩ := fwide r2.fin
  refine ⟨r, z, r1, z1, ?_⟩
  by_cases c : 1 / 144 ≤ Num.fv .f32 a * Num.fv .f32 a + Num.fv .f32 b * Num.fv .f32 b
  · cases e : (FloatKind.f64.format.order z 4591870180066957722 == some .lt)
    · exact .inr ⟨rfl, c⟩
    · exact .inl rfl
  · left
    have k := (root_near32 r2 3 (by decide) (by decide) q0 (by rw [p2_e3]; grind)).2 (1 / 12) (by decide +kernel) (by grind)
    rw [p2_em21] at k
    refine (lt_cmp z2 c01.1 ?_).1
    rw [z4]
    have := c01.2
    grind
/-- One point of a fitted line. -/
def FitPt (P : Nat → Nat × Nat) (b1 b2 q1 q2 i : Nat) (h : Nat × Nat) : Prop := ∃ e1 e2 m1 m2, floatBits .sub .f32 (P i).1 0 = some e1 ∧ floatBits .sub .f32 (P i).2 0 = some e2 ∧ (∀ w : World, Calls Try.prog 46 #[.complex .f32 e1 e2, .complex .f32 q1 q2] w fun e w' => e = .returned (.complex .f32 m1 m2) ∧ w' = w) ∧ floatBits .add .f32 b1 m1 = some h.1 ∧ floatBits .add .f32 b2 m2 = some h.2 ∧ Cb 1000000 h ∧
  Fl .f32 m1 ∧ Fl .f32 m2 ∧ Num.FR .f32 (Num.fv .f32 (P i).1 * Num.fv .f32 q1 - Num.fv .f32 (P i).2 * Num.fv .f32 q2) m1 ∧ Num.FR .f32 (Num.fv .f32 (P i).1 * Num.fv .f32 q2 + Num.fv .f32 (P i).2 * Num.fv .f32 q1) m2 ∧ Num.FR .f32 (Num.fv .f32 b1 + Num.fv .f32 m1) h.1 ∧ Num.FR .f32 (Num.fv .f32 b2 + Num.fv .f32 m2) h.2
theorem fit_pt {P : Nat → Nat × Nat} {b1 b2 q1 q2 i : Nat} (hP : Cb 33 (P i)) (fb1 : Fl .f32 b1) (fb2 : Fl .f32 b2) (fq1 : Fl .f32 q1) (fq2 : Fl .f32 q2) (i1 : InR (Num.fv .f32 b1) 2) (i2 : InR (Num.fv .f32 b2) 2) (iq1 : InR (Num.fv .f32 q1) 5000) (iq2 : InR (Num.fv .f32 q2) 5000) : ∃ h, FitPt P b1 b2 q1 q2 i h := by
  have big : (33 : Rat) ≤ 1000000 := by decide +kernel
  obtain ⟨e1, x1, x2, _, x4⟩ := sub_zero hP.1 rfl (in_le hP.2.2.1 big)
  obtain ⟨e2, y1, y2, _, y4⟩ := sub_zero hP.2.1 rfl (in_le hP.2.2.2 big)
  have md : (33 : Rat) ≤ mid := by decide +kernel
  have mq : (5000 : Rat) ≤ mid := by decide +kernel
  obtain ⟨m1, m2, k1, k2, k3⟩ := mul_num x2 y2 fq1 fq2 (by rw [x4]; exact in_le hP.2.2.1 md) (by rw [y4]; exact in_le hP.2.2.2 md) (in_le iq1 mq) (in_le iq2 mq)
  rw [x4, y4] at k2 k3
  have p1 := prod_in hP.2.2.1 iq1 (by decide)
  have p2' := prod_in hP.2.2.2 iq2 (by decide)
  have p3 := prod_in hP.2.2.1 iq2 (by decide)
  have p4 := prod_in hP.2.2.2 iq1 (by decide)
  have e3 : (33 * 5000 + 33 * 5000 : Rat) = ((330000 : Nat) : Rat) := by decide +kernel
  have z1 := in_sub p1 p2'
  have z2 := in_add p3 p4
  rw [e3] at z1 z2
  have w1 := in_rnd k2 z1 (by decide)
  have w2 := in_rnd k3 z2 (by decide)
  have e4 : (2 + ((330000 : Nat) : Rat)) = ((330002 : Nat) : Rat) := by decide +kernel
  have s1 := in_add i1 w1
  have s2 := in_add i2 w2
  rw [e4] at s1 s2
  have le1 : ((330002 : Nat) : Rat) ≤ 1000000 := by decide +kernel
  have t1 := fl_tops (in_le s1 le1)
  have t2 := fl_tops (in_le s2 le1)
  obtain ⟨h1, h1a, h1b⟩ := fadd fb1 k2.fin t1.1 t1.2
  obtain ⟨h2, h2a, h2b⟩ := fadd fb2 k3.fin t2.1 t2.2
  exact ⟨(h1, h2), e1, e2, m1, m2, x1, y1, k1, h1a, h2a, ⟨h1b.fin, h2b.fin, in_le (in_rnd h1b s1 (by decide)) le1, in_le (in_rnd h2b s2 (by decide)) le1⟩, k2.fin, k3.fin, k2, k3, h1b, h2b⟩
theorem fit_ex {s : Rat} {P : Nat → Nat × Nat} {m b1 b2 : Nat} {x y : Int} (hW : Way s P m) (s0 : 0 ≤ s) (s2 : s ≤ 2) (hm : m ≤ 16) (g1 : Gn 3 x b1) (g2 : Gn 3 y b2) (hx : x.natAbs ≤ 16) (hy : y.natAbs ≤ 16) (i1 : InR (Num.fv .f32 b1) 2) (i2 : InR (Num.fv .f32 b2) 2)
    (hfar : 1 / 144 ≤ Num.fv .f32 (P m).1 * Num.fv .f32 (P m).1 + Num.fv .f32 (P m).2 * Num.fv .f32 (P m).2) :
    ∃ (t1 t2 u1 u2 d1 d2 q1 q2 : Nat) (H : Nat → Nat × Nat), floatBits .add .f32 b1 1065353216 = some t1 ∧ floatBits .add .f32 b2 0 = some t2 ∧ Fl .f32 t1 ∧ Fl .f32 t2 ∧ floatBits .sub .f32 t1 b1 = some u1 ∧ floatBits .sub .f32 t2 b2 = some u2 ∧ floatBits .sub .f32 (P m).1 0 = some d1 ∧ floatBits .sub .f32 (P m).2 0 = some d2 ∧
      (∀ w : World, Calls Try.prog 50 #[.complex .f32 u1 u2, .complex .f32 d1 d2] w fun e w' => e = .returned (.complex .f32 q1 q2) ∧ w' = w) ∧
      (∀ i, i < m + 1 → ∃ e1 e2 m1 m2, floatBits .sub .f32 (P i).1 0 = some e1 ∧ floatBits .sub .f32 (P i).2 0 = some e2 ∧ (∀ w : World, Calls Try.prog 46 #[.complex .f32 e1 e2, .complex .f32 q1 q2] w fun e w' => e = .returned (.complex .f32 m1 m2) ∧ w' = w) ∧ floatBits .add .f32 b1 m1 = some (H i).1 ∧ floatBits .add .f32 b2 m2 = some (H i).2) ∧
      (∀ i, i < m + 1 → Cb 1000000 (H i)) ∧
      (∃ u v r z, floatBits .sub .f32 (H 0).1 b1 = some u ∧ floatBits .sub .f32 (H 0).2 b2 = some v ∧ (∀ w : World, Calls Try.prog 18 #[.complex .f32 u v] w fun e w' => e = .returned (.float .f32 r) ∧ w' = w) ∧ qwide r = some z ∧ (FloatKind.f64.format.order z 4562254508917369340 == some .lt) = true) ∧
      (∃ u v u' v' r z, floatBits .sub .f32 (H m).1 b1 = some u ∧ floatBits .sub .f32 (H m).2 b2 = some v ∧ floatBits .sub .f32 u 1065353216 = some u' ∧ floatBits .sub .f32 v 0 = some v' ∧ (∀ w : World, Calls Try.prog 18 #[.complex .f32 u' v'] w fun e w' => e = .returned (.float .f32 r) ∧ w' = w) ∧ qwide r = some z ∧ (FloatKind.f64.format.order z 4562254508917369340 == some .lt) = true) := by
  obtain ⟨t1, a1, a2⟩ := g1.add gn_one (by omega) (by omega)
  obtain ⟨t2, a3, a4⟩ := g2.add (Gn.zero 3) (by omega) (by omega)
  obtain ⟨u1, a5, a6⟩ := a2.sub g1 (by omega) (by omega)
  obtain ⟨u2, a7, a8⟩ := a4.sub g2 (by omega) (by omega)
  have v1 : Num.fv .f32 u1 = 1 := by rw [a6.val, show x + 8 - x = 8 by omega]; decide +kernel
  have v2 : Num.fv .f32 u2 = 0 := by rw [a8.val, show y + 0 - y = 0 by omega]; decide +kernel
  have cm := hW.cb s0 s2 hm m (Nat.le_refl _)
  have big : (33 : Rat) ≤ 1000000 := by decide +kernel
  obtain ⟨d1, d1a, d1f, d1l, d1v⟩ := sub_zero cm.1 rfl (in_le cm.2.2.1 big)
  obtain ⟨d2, d2a, d2f, d2l, d2v⟩ := sub_zero cm.2.1 rfl (in_le cm.2.2.2 big)
  have lw : (33 : Rat) ≤ lowM := by decide +kernel
  have l1 : (1 : Rat) ≤ lowM := by decide +kernel
  obtain ⟨q1, q2, nu_, nv, n, Q, k1, k2, k3, k4, k5, k6⟩ := quot_num a6.fin a8.fin d1f d2f d2l (by rw [v1]; exact ⟨l1, by decide +kernel⟩) (by rw [v2]; exact ⟨by decide +kernel, by decide +kernel⟩) (by rw [d1v]; exact in_le cm.2.2.1 lw) (by rw [d2v]; exact in_le cm.2.2.2 lw) (by rw [d1v, d2v]; exact Rat.le_trans (by decide +kernel) hfar)
  rw [v1, v2, d1v, d2v] at k1 k2
  rw [d1v, d2v] at k3
  have hX := cm.2.2.1
  have hY := cm.2.2.2
  have rX := rep_wide (rep_val _ cm.1)
  have rY := rep_wide (rep_val _ cm.2.1)
  have w1 : Num.fv .f64 nu_ = Num.fv .f32 (P m).1 := by
    have e : 1 * Num.fv .f32 (P m).1 + 0 * Num.fv .f32 (P m).2 = Num.fv .f32 (P m).1 := by grind
    rw [e] at k1
    exact k1.exact _ rX
  have w2 : Num.fv .f64 nv = -Num.fv .f32 (P m).2 := by
    have e : 0 * Num.fv .f32 (P m).1 - 1 * Num.fv .f32 (P m).2 = -Num.fv .f32 (P m).2 := by grind
    rw [e] at k2
    exact k2.exact _ (Rep.neg _ rY)
  rw [w1] at k5
  rw [w2] at k6
  have sx := abs_sq hX.1 hX.2
  have sy := abs_sq hY.1 hY.2
  have sx0 := rsq_nn (Num.fv .f32 (P m).1)
  have sy0 := rsq_nn (Num.fv .f32 (P m).2)
  have p12 : p2 12 = 4096 := by decide +kernel
  have pm : p2 (12 - 53) = 1 / 2199023255552 := by decide +kernel
  have nn := k3.near64 12 (by decide) (by decide) (by rw [p12]; grind) (by rw [p12]; grind)
  rw [pm] at nn
  have hn150 : 1 / 150 ≤ Num.fv .f64 n := by have := nn.2; grind
  obtain ⟨U1, U2, U3, U4⟩ := unit_quot hX hY hn150 (by have n1 := nn.1; have n2 := nn.2; unfold InR; constructor <;> grind) (fun V hv hV => rel32 k5 hv hV) (fun V hv hV => rel32 k6 hv hV)
  have one : ∀ i, i < m + 1 → ∃ h, FitPt P b1 b2 q1 q2 i h := fun i hi => fit_pt (hW.cb s0 s2 hm i (by omega)) g1.fin g2.fin k5.fin k6.fin i1 i2 U3 U4
  obtain ⟨H, hH⟩ : ∃ H : Nat → Nat × Nat, ∀ i, i < m + 1 → FitPt P b1 b2 q1 q2 i (H i) := by
    refine ⟨fun k => if h : k < m + 1 then Classical.choose (one k h) else (0, 0), fun k hk => ?_⟩
    have e : (if h : k < m + 1 then Classical.choose (one k h) else (0, 0)) = Classical.choose (one k hk) := dif_pos hk
    have := Classical.choose_spec (one k hk)
    rw [← e] at this
    exact this
  have zz : InR (0 : Rat) 4 := by unfold InR; constructor <;> decide +kernel
  refine ⟨t1, t2, u1, u2, d1, d2, q1, q2, H, a1, a3, a2.fin, a4.fin, a5, a7, d1a, d2a, Q, fun i hi => ?_, fun i hi => ?_, ?_, ?_⟩
  · obtain ⟨e1, e2, m1, m2, c1', c2', c3, c4, c5, _⟩ := hH i hi
    exact ⟨e1, e2, m1, m2, c1', c2', c3, c4, c5⟩
  · obtain ⟨e1, e2, m1, m2, _, _, _, _, _, c6, _⟩ := hH i hi
    exact c6
  · obtain ⟨e1, e2, m1, m2, _, _, _, _, _, c6, f1, f2, r1, r2, r3, r4⟩ := hH 0 (by omega)
    rw [hW.zero] at r1 r2
    dsimp only at r1 r2
    rw [c0.2] at r1 r2
    have y1 : Num.fv .f32 m1 = 0 := by
      have e : 0 * Num.fv .f32 q1 - 0 * Num.fv .f32 q2 = 0 := by grind
      rw [e] at r1
      exact r1.exact _ (by have := rep_nat .f32 0 (by decide); exact this)
    have y2 : Num.fv .f32 m2 = 0 := by
      have e : 0 * Num.fv .f32 q2 + 0 * Num.fv .f32 q1 = 0 := by grind
      rw [e] at r2
      exact r2.exact _ (by have := rep_nat .f32 0 (by decide); exact this)
    rw [y1] at r3
    rw [y2] at r4
    have h1 : Num.fv .f32 (H 0).1 = Num.fv .f32 b1 := by
      have e : Num.fv .f32 b1 + 0 = Num.fv .f32 b1 := by grind
      rw [e] at r3
      exact r3.exact _ (rep_val _ g1.fin)
    have h2 : Num.fv .f32 (H 0).2 = Num.fv .f32 b2 := by
      have e : Num.fv .f32 b2 + 0 = Num.fv .f32 b2 := by grind
      rw [e] at r4
      exact r4.exact _ (rep_val _ g2.fin)
    obtain ⟨u, l1', l2', l3⟩ := near_add c6.1 g1.fin .sub (.inr rfl) 0 (by rw [if_neg (by decide), h1]; grind) zz
    obtain ⟨v, l4, l5, l6⟩ := near_add c6.2.1 g2.fin .sub (.inr rfl) 0 (by rw [if_neg (by decide), h2]; grind) zz
    obtain ⟨r, z, o1, o2, o3⟩ := short_law l2' l5 (by obtain ⟨z1, z2⟩ := l3; unfold InR; constructor <;> grind) (by obtain ⟨z1, z2⟩ := l6; unfold InR; constructor <;> grind)
    exact ⟨u, v, r, z, l1', l4, o1, o2, o3⟩
  · obtain ⟨e1, e2, m1, m2, _, _, _, _, _, c6, f1, f2, r1, r2, r3, r4⟩ := hH m (by omega)
    -- the moved one is 1, nearly
    have small : (1 / 3000000 : Rat) ≤ 1 := by decide +kernel
    have y1 : InR (Num.fv .f32 m1 - 1) (1 / 1000000) := by
      obtain ⟨z1, z2⟩ := U1
      have n := r1.near32 2 (by decide) (by decide) (by rw [p2_e2]; grind) (by rw [p2_e2]; grind)
      rw [p2_em22] at n
      have n1 := n.1
      have n2 := n.2
      unfold InR
      constructor <;> grind
    have y2 : InR (Num.fv .f32 m2) (1 / 1000000) := by
      obtain ⟨z1, z2⟩ := U2
      have n := r2.near32 2 (by decide) (by decide) (by rw [p2_e2]; grind) (by rw [p2_e2]; grind)
      rw [p2_em22] at n
      have n1 := n.1
      have n2 := n.2
      unfold InR
      constructor <;> grind
    have h1 : InR (Num.fv .f32 (H m).1 - Num.fv .f32 b1 - 1) (1 / 500000) := by
      obtain ⟨z1, z2⟩ := y1
      obtain ⟨z3, z4⟩ := i1
      have n := r3.near32 2 (by decide) (by decide) (by rw [p2_e2]; grind) (by rw [p2_e2]; grind)
      rw [p2_em22] at n
      have n1 := n.1
      have n2 := n.2
      unfold InR
      constructor <;> grind
    have h2 : InR (Num.fv .f32 (H m).2 - Num.fv .f32 b2) (1 / 500000) := by
      obtain ⟨z1, z2⟩ := y2
      obtain ⟨z3, z4⟩ := i2
      have n := r4.near32 2 (by decide) (by decide) (by rw [p2_e2]; grind) (by rw [p2_e2]; grind)
      rw [p2_em22] at n
      have n1 := n.1
      have n2 := n.2
      unfold InR
      constructor <;> grind
    obtain ⟨u, l1', l2', l3⟩ := near_add c6.1 g1.fin .sub (.inr rfl) (Num.fv .f32 (H m).1 - Num.fv .f32 b1) (by rw [if_neg (by decide)]) (by obtain ⟨z1, z2⟩ := h1; unfold InR; constructor <;> grind)
    obtain ⟨v, l4, l5, l6⟩ := near_add c6.2.1 g2.fin .sub (.inr rfl) (Num.fv .f32 (H m).2 - Num.fv .f32 b2) (by rw [if_neg (by decide)]) (by obtain ⟨z1, z2⟩ := h2; unfold InR; constructor <;> grind)
    obtain ⟨u', l7, l8, l9⟩ := near_add l2' c1.1 .sub (.inr rfl) (Num.fv .f32 u - 1) (by rw [if_neg (by decide), c1.2]) (by obtain ⟨z1, z2⟩ := h1; obtain ⟨z3, z4⟩ := l3; unfold InR; constructor <;> grind)
    obtain ⟨v', l10, l11, l12⟩ := near_add l5 c0.1 .sub (.inr rfl) (Num.fv .f32 v - 0) (by rw [if_neg (by decide), c0.2]) (by obtain ⟨z1, z2⟩ := h2; obtain ⟨z3, z4⟩ := l6; unfold InR; constructor <;> grind)
    obtain ⟨r, z, o1, o2, o3⟩ := short_law l8 l11 (by obtain ⟨z1, z2⟩ := h1; obtain ⟨z3, z4⟩ := l3; obtain ⟨z5, z6⟩ := l9; clear U1 U2 hH one; unfold InR; constructor <;> grind) (by obtain ⟨z1, z2⟩ := h2; obtain ⟨z3, z4⟩ := l6; obtain ⟨z5, z6⟩ := l12; clear U1 U2 hH one; unfold InR; constructor <;> grind)
    exact ⟨u, v, u', v', r, z, l1', l4, l7, l10, o1, o2, o3⟩
end Go.Proofs.Ytkldgcgijkfpaaa
