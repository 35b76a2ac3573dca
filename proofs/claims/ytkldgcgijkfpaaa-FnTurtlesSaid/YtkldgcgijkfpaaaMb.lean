/- Walks: sums, products, powers, lengths, quotients and sizes of complex numbers, told as rational numbers. Conditions: finite parts, of middling size. -/
import Derived.Test.YtkldgcgijkfpaaaMa
import Derived.WalkKit
import Derived.WalkLawsBesides
import Derived.Lib.Hide
import Derived.Laws.Externs
import Derived.Laws.BitsAll
namespace Go.Proofs.Ytkldgcgijkfpaaa
open Go.RowKit
open Num Quick

section
variable (w : World)
theorem r64 {op : BinOp} {x y r : Nat} (h : floatBits op .f64 x y = some r) : ∀ w : World, (binOp op 34 (.float .f64 x) (.float .f64 y)).run Try.prog w = .ok (.float .f64 r) w := fun w => run_float_arith w op _ .f64 _ _ _ h
theorem r32 {op : BinOp} {x y r : Nat} (h : floatBits op .f32 x y = some r) : ∀ w : World, (binOp op 25 (.float .f32 x) (.float .f32 y)).run Try.prog w = .ok (.float .f32 r) w := fun w => run_float_arith w op _ .f32 _ _ _ h
theorem rNarrow {x r : Nat} (h : qnarrow x = some r) : ∀ w : World, (convert 34 25 (.float .f64 x)).run Try.prog w = .ok (.float .f32 r) w := fun w => run_convert_float_float w _ _ _ _ _ _ (by rw [Try.underlying34]; rfl) Try.underlying25 ((qnarrow_eq x).symm.trans h)
theorem rWide {x r : Nat} (h : qwide x = some r) : ∀ w : World, (convert 25 34 (.float .f32 x)).run Try.prog w = .ok (.float .f64 r) w := fun w => run_convert_float_float w _ _ _ _ _ _ (by rw [Try.underlying25]; rfl) Try.underlying34 ((qwide_eq x).symm.trans h)
theorem rInt32 (n : Int) : ∀ w : World, (convert 2 25 (.int .i64 n)).run Try.prog w = .ok (.float .f32 (floatOfInt .f32 n)) w := fun w => run_convert_int_float w _ _ _ _ _ (by rw [Try.underlying2]; rfl) Try.underlying25
theorem rBits64 (x : Nat) : ∀ w : World, (callFunc 87 #[.float .f64 x]).run Try.prog w = .ok (.value (.int .u64 (x : Int))) w := fun w => by
  rw [run_callFunc_extern (P := Try.prog) (f := 87) (fn := Try.f87) (e := Extern.MathFloatBits.float64bits) (by kernel_rfl) (by kernel_rfl) (by kernel_rfl) (by kernel_rfl) (by kernel_rfl)]
  rfl
theorem rFrom64 (x : Nat) : ∀ w : World, (callFunc 88 #[.int .u64 (x : Int)]).run Try.prog w = .ok (.value (.float .f64 x)) w := fun w => by
  rw [run_callFunc_extern (P := Try.prog) (f := 88) (fn := Try.f88) (e := Extern.MathFloatBits.float64frombits) (by kernel_rfl) (by kernel_rfl) (by kernel_rfl) (by kernel_rfl) (by kernel_rfl)]
  rfl
theorem rSqrt {x r : Nat} (h : FloatKind.f64.format.sqrt x = some r) : ∀ w : World, (callFunc 73 #[.float .f64 x]).run Try.prog w = .ok (.value (.float .f64 r)) w := fun w => by
  rw [run_callFunc_extern (P := Try.prog) (f := 73) (fn := Try.f73) (e := Extern.MathSqrt.sqrt) (by kernel_rfl) (by kernel_rfl) (by kernel_rfl) (by kernel_rfl) (by kernel_rfl)]
  change ((match FloatKind.f64.format.sqrt x with | some r => (pure (.float .f64 r) : Sem Value) | none => do pure (.float .f64 (← choose (.nanBits .f64 x x)))).run Try.prog w).andThen _ = _
  rw [h]
  rfl
theorem ret_b {a b : Bool} (h : a = b) : Ending.returned (.bool a) = .returned (.bool b) := by rw [h]
theorem unary_ng64 (b : Nat) : Op.unary .neg (.float .f64 b) = pure (.float .f64 (ng64 b)) := rfl
theorem unary_ng32 (b : Nat) : Op.unary .neg (.float .f32 b) = pure (.float .f32 (ng32 b)) := rfl
theorem abs_w (x : Nat) (hx : x < 18446744073709551616) : Calls Try.prog 68 #[.float .f64 x] w fun e w' => e = .returned (.float .f64 (absP x)) ∧ w' = w := by
  have h1 := rBits64 x
  have h2 : bits .andNot .u64 (x : Int) 9223372036854775808 = ((absP x : Nat) : Int) := u64_andNot_nat x 9223372036854775808 hx (by omega)
  have h3 := rFrom64 (absP x)
  clear hx
  go_enter Try.func68, Try.ntmps68
  go_wp2
  go_ret
  exact ⟨rfl, rfl⟩
theorem sqrt_w {x r : Nat} (h : FloatKind.f64.format.sqrt x = some r) : Calls Try.prog 48 #[.float .f64 x] w fun e w' => e = .returned (.float .f64 r) ∧ w' = w := by
  have h1 := rSqrt h
  clear h
  go_enter Try.func48, Try.ntmps48
  go_wp2
  go_ret
  exact ⟨rfl, rfl⟩
theorem parts_w {a b x y : Nat} (ha : qwide a = some x) (hb : qwide b = some y) : Calls Try.prog 71 #[.complex .f32 a b] w fun e w' => e = .returned (.tuple #[.float .f64 x, .float .f64 y]) ∧ w' = w := by
  have h1 := rWide ha
  have h2 := rWide hb
  clear ha hb
  go_enter Try.func71, Try.ntmps71
  go_wp2
  go_ret2
  exact ⟨rfl, rfl⟩
theorem times_w {a b c d p q u r s v : Nat} (h1 : floatBits .mul .f64 a c = some p) (h2 : floatBits .mul .f64 b d = some q) (h3 : floatBits .sub .f64 p q = some u) (h4 : floatBits .mul .f64 a d = some r) (h5 : floatBits .mul .f64 b c = some s) (h6 : floatBits .add .f64 r s = some v) :
    Calls Try.prog 72 #[.float .f64 a, .float .f64 b, .float .f64 c, .float .f64 d] w fun e w' => e = .returned (.tuple #[.float .f64 u, .float .f64 v]) ∧ w' = w := by
  have q1 := r64 h1
  have q2 := r64 h2
  have q3 := r64 h3
  have q4 := r64 h4
  have q5 := r64 h5
  have q6 := r64 h6
  clear h1 h2 h3 h4 h5 h6
  go_enter Try.func72, Try.ntmps72
  go_wp2
  go_ret2
  exact ⟨rfl, rfl⟩
theorem power_w {a b x y p q u : Nat} (ha : qwide a = some x) (hb : qwide b = some y) (h1 : floatBits .mul .f64 x x = some p) (h2 : floatBits .mul .f64 y y = some q) (h3 : floatBits .add .f64 p q = some u) :
    Calls Try.prog 49 #[.complex .f32 a b] w fun e w' => e = .returned (.float .f64 u) ∧ w' = w := by
  have C1 := parts_w w ha hb
  have q1 := r64 h1
  have q2 := r64 h2
  have q3 := r64 h3
  clear ha hb h1 h2 h3
  go_enter Try.func49, Try.ntmps49
  go_wp2_with (first | (go_at_call 71; refine C1.mono ?_; rintro e w1 ⟨rfl, rfl⟩) | fail)
  go_ret
  exact ⟨rfl, rfl⟩
theorem conj_w (a b : Nat) : Calls Try.prog 77 #[.complex .f32 a b] w fun e w' => e = .returned (.complex .f32 a (ng32 b)) ∧ w' = w := by
  have h := unary_ng32 b
  go_enter Try.func77, Try.ntmps77
  go_wp2
  go_ret
  exact ⟨rfl, rfl⟩
end
/-- A finite single. -/
abbrev S32 (w : Nat) (x : Rat) : Prop := Fl .f32 w ∧ w < 4294967296 ∧ fv .f32 w = x
/-- Bounded by a number. -/
def InR (x B : Rat) : Prop := x ≤ B ∧ -B ≤ x
theorem prod_in {x y A B : Rat} (hx : InR x A) (hy : InR y B) (hA : 0 ≤ A) : InR (x * y) (A * B) := by
  obtain ⟨x1, x2⟩ := hx
  obtain ⟨y1, y2⟩ := hy
  have h1 := Rat.mul_nonneg (show 0 ≤ A - x by grind) (show 0 ≤ B + y by grind)
  have h2 := Rat.mul_nonneg (show 0 ≤ A + x by grind) (show 0 ≤ B - y by grind)
  have h3 := Rat.mul_nonneg (show 0 ≤ A - x by grind) (show 0 ≤ B - y by grind)
  have h4 := Rat.mul_nonneg (show 0 ≤ A + x by grind) (show 0 ≤ B + y by grind)
  constructor <;> grind
/-- A bound for what is multiplied: two to the power of 40. -/
abbrev mid : Rat := 1099511627776
theorem add_num {a b c d : Nat} (ha : Fl .f32 a) (hb : Fl .f32 b) (hc : Fl .f32 c) (hd : Fl .f32 d) (h1 : InR (fv .f32 a + fv .f32 c) top) (h2 : InR (fv .f32 b + fv .f32 d) top) :
    ∃ u v, (∀ w : World, Calls Try.prog 41 #[.complex .f32 a b, .complex .f32 c d] w fun e w' => e = .returned (.complex .f32 u v) ∧ w' = w) ∧ FR .f32 (fv .f32 a + fv .f32 c) u ∧ FR .f32 (fv .f32 b + fv .f32 d) v := by
  obtain ⟨u, e1, k1⟩ := fadd ha hc h1.1 h1.2
  obtain ⟨v, e2, k2⟩ := fadd hb hd h2.1 h2.2
  refine ⟨u, v, fun w => ?_, k1, k2⟩
  have q1 := r32 e1
  have q2 := r32 e2
  clear e1 e2 h1 h2 k1 k2 ha hb hc hd
  go_enter Try.func41, Try.ntmps41
  go_wp2
  go_ret
  exact ⟨rfl, rfl⟩
theorem subtract_num {a b c d : Nat} (ha : Fl .f32 a) (hb : Fl .f32 b) (hc : Fl .f32 c) (hd : Fl .f32 d) (h1 : InR (fv .f32 a - fv .f32 c) top) (h2 : InR (fv .f32 b - fv .f32 d) top) :
    ∃ u v, (∀ w : World, Calls Try.prog 51 #[.complex .f32 a b, .complex .f32 c d] w fun e w' => e = .returned (.complex .f32 u v) ∧ w' = w) ∧ FR .f32 (fv .f32 a - fv .f32 c) u ∧ FR .f32 (fv .f32 b - fv .f32 d) v := by
  obtain ⟨u, e1, k1⟩ := fsub ha hc h1.1 h1.2
  obtain ⟨v, e2, k2⟩ := fsub hb hd h2.1 h2.2
  refine ⟨u, v, fun w => ?_, k1, k2⟩
  have q1 := r32 e1
  have q2 := r32 e2
  clear e1 e2 h1 h2 k1 k2 ha hb hc hd
  go_enter Try.func51, Try.ntmps51
  go_wp2
  go_ret
  exact ⟨rfl, rfl⟩
theorem scale_num {a b c : Nat} (ha : Fl .f32 a) (hb : Fl .f32 b) (hc : Fl .f32 c) (h1 : InR (fv .f32 a * fv .f32 c) top) (h2 : InR (fv .f32 b * fv .f32 c) top) :
    ∃ u v, (∀ w : World, Calls Try.prog 43 #[.complex .f32 a b, .float .f32 c] w fun e w' => e = .returned (.complex .f32 u v) ∧ w' = w) ∧ FR .f32 (fv .f32 a * fv .f32 c) u ∧ FR .f32 (fv .f32 b * fv .f32 c) v := by
  obtain ⟨u, e1, k1⟩ := fmul ha hc h1.1 h1.2
  obtain ⟨v, e2, k2⟩ := fmul hb hc h2.1 h2.2
  refine ⟨u, v, fun w => ?_, k1, k2⟩
  have q1 := r32 e1
  have q2 := r32 e2
  clear e1 e2 h1 h2 k1 k2 ha hb hc
  go_enter Try.func43, Try.ntmps43
  go_wp2
  go_ret
  exact ⟨rfl, rfl⟩
/-- The product of two singles, in double precision: exact. -/
theorem fmul_wide {a b : Nat} {x y : Nat} (ha : Fl .f32 a) (hb : Fl .f32 b) (hx : Fl .f64 x) (hy : Fl .f64 y) (ex : fv .f64 x = fv .f32 a) (ey : fv .f64 y = fv .f32 b) (h : InR (fv .f32 a * fv .f32 b) top) :
    ∃ p, floatBits .mul .f64 x y = some p ∧ Fl .f64 p ∧ fv .f64 p = fv .f32 a * fv .f32 b := by
  obtain ⟨p, e, k⟩ := fmul hx hy (by rw [ex, ey]; exact h.1) (by rw [ex, ey]; exact h.2)
  refine ⟨p, e, k.fin, ?_⟩
  rw [ex, ey] at k
  exact k.exact _ (rep_prod (rep_val _ ha) (rep_val _ hb))
theorem mul_num {a b c d : Nat} (ha : Fl .f32 a) (hb : Fl .f32 b) (hc : Fl .f32 c) (hd : Fl .f32 d) (ia : InR (fv .f32 a) mid) (ib : InR (fv .f32 b) mid) (ic : InR (fv .f32 c) mid) (id : InR (fv .f32 d) mid) :
    ∃ u v, (∀ w : World, Calls Try.prog 46 #[.complex .f32 a b, .complex .f32 c d] w fun e w' => e = .returned (.complex .f32 u v) ∧ w' = w) ∧ FR .f32 (fv .f32 a * fv .f32 c - fv .f32 b * fv .f32 d) u ∧ FR .f32 (fv .f32 a * fv .f32 d + fv .f32 b * fv .f32 c) v := by
  obtain ⟨a', a1, a2, a3, a4⟩ := fwide ha
  obtain ⟨b', b1, b2, b3, b4⟩ := fwide hb
  obtain ⟨c', c1, c2, c3, c4⟩ := fwide hc
  obtain ⟨d', d1, d2, d3, d4⟩ := fwide hd
  have m0 : (0 : Rat) ≤ mid := by decide
  have mm : mid * mid ≤ top := by decide +kernel
  have mm2 : mid * mid + mid * mid ≤ top := by decide +kernel
  have iac := prod_in ia ic m0
  have ibd := prod_in ib id m0
  have iad := prod_in ia id m0
  have ibc := prod_in ib ic m0
  unfold InR at iac ibd iad ibc
  obtain ⟨p, p1, p2, p3⟩ := fmul_wide ha hc a2 c2 a4 c4 (by unfold InR; grind)
  obtain ⟨q, q1, q2, q3⟩ := fmul_wide hb hd b2 d2 b4 d4 (by unfold InR; grind)
  obtain ⟨r, r1, r2, r3⟩ := fmul_wide ha hd a2 d2 a4 d4 (by unfold InR; grind)
  obtain ⟨s, s1, s2, s3⟩ := fmul_wide hb hc b2 c2 b4 c4 (by unfold InR; grind)
  obtain ⟨u, u1, u2⟩ := fsub p2 q2 (by grind) (by grind)
  obtain ⟨v, v1, v2⟩ := fadd r2 s2 (by grind) (by grind)
  have hu : InR (fv .f64 u) top := by
    have := u2.within 100 (by decide) (by decide) (by rw [p2_100]; grind) (by rw [p2_100]; grind)
    rw [p2_100] at this
    exact this
  have hv : InR (fv .f64 v) top := by
    have := v2.within 100 (by decide) (by decide) (by rw [p2_100]; grind) (by rw [p2_100]; grind)
    rw [p2_100] at this
    exact this
  obtain ⟨x, x1, x2⟩ := fnarrow u2.fin hu.1 hu.2
  obtain ⟨y, y1, y2⟩ := fnarrow v2.fin hv.1 hv.2
  refine ⟨x, y, fun w => ?_, ?_, ?_⟩
  · have C1 := Lib.hid (fun w => parts_w w a1 b1)
    have C2 := Lib.hid (fun w => parts_w w c1 d1)
    have C3 := Lib.hid (fun w => times_w w p1 q1 u1 r1 s1 v1)
    have k1 := rNarrow x1
    have k2 := rNarrow y1
    clear a1 b1 c1 d1 p1 q1 u1 r1 s1 v1 x1 y1 u2 v2 x2 y2 hu hv a2 a3 a4 b2 b3 b4 c2 c3 c4 d2 d3 d4 p2 p3 q2 q3 r2 r3 s2 s3 iac ibd iad ibc ia ib ic id ha hb hc hd m0 mm mm2
    go_enter Try.func46, Try.ntmps46
    go_wp2_with fail
    refine (C1.out _).mono ?_
    rintro e w1 ⟨rfl, rfl⟩
    go_wp2_with fail
    refine (C2.out _).mono ?_
    rintro e w1 ⟨rfl, rfl⟩
    go_wp2_with fail
    refine (C3.out _).mono ?_
    rintro e w1 ⟨rfl, rfl⟩
    go_wp2
    go_ret
    exact ⟨rfl, rfl⟩
  · rw [← p3, ← q3]
    exact IsRnd.twice u2 x2
  · rw [← r3, ← s3]
    exact IsRnd.twice v2 y2
end Go.Proofs.Ytkldgcgijkfpaaa
