/- Walks: sums, products, powers, lengths, quotients and sizes of complex numbers, told as rational numbers. Conditions: finite parts, of middling size. -/
import Derived.Test.YtejmpijihmmajaaMa
import Derived.WalkKit
import Derived.WalkLawsBesides
import Derived.Lib.Hide
import Derived.Laws.Externs
import Derived.Laws.BitsAll
namespace Go.Proofs.Ytejmpijihmmajaa
open Go.RowKit
open Num Quick

section
variable (w : World)
theorem r64 {op : BinOp} {x y r : Nat} (h : floatBits op .f64 x y = some r) : ∀ w : World, (binOp op 38 (.float .f64 x) (.float .f64 y)).run Try.prog w = .ok (.float .f64 r) w := fun w => run_float_arith w op _ .f64 _ _ _ h
theorem r32 {op : BinOp} {x y r : Nat} (h : floatBits op .f32 x y = some r) : ∀ w : World, (binOp op 31 (.float .f32 x) (.float .f32 y)).run Try.prog w = .ok (.float .f32 r) w := fun w => run_float_arith w op _ .f32 _ _ _ h
theorem rNarrow {x r : Nat} (h : qnarrow x = some r) : ∀ w : World, (convert 38 31 (.float .f64 x)).run Try.prog w = .ok (.float .f32 r) w := fun w => run_convert_float_float w _ _ _ _ _ _ (by rw [Try.underlying38]; rfl) Try.underlying31 ((qnarrow_eq x).symm.trans h)
theorem rWide {x r : Nat} (h : qwide x = some r) : ∀ w : World, (convert 31 38 (.float .f32 x)).run Try.prog w = .ok (.float .f64 r) w := fun w => run_convert_float_float w _ _ _ _ _ _ (by rw [Try.underlying31]; rfl) Try.underlying38 ((qwide_eq x).symm.trans h)
theorem rInt32 (n : Int) : ∀ w : World, (convert 2 31 (.int .i64 n)).run Try.prog w = .ok (.float .f32 (floatOfInt .f32 n)) w := fun w => run_convert_int_float w _ _ _ _ _ (by rw [Try.underlying2]; rfl) Try.underlying31
theorem rSqrt {x r : Nat} (h : FloatKind.f64.format.sqrt x = some r) : ∀ w : World, (callFunc 50 #[.float .f64 x]).run Try.prog w = .ok (.value (.float .f64 r)) w := fun w => by
  rw [run_callFunc_extern (P := Try.prog) (f := 50) (fn := Try.f50) (e := Extern.MathSqrt.sqrt) (by kernel_rfl) (by kernel_rfl) (by kernel_rfl) (by kernel_rfl) (by kernel_rfl)]
  change ((match FloatKind.f64.format.sqrt x with | some r => (pure (.float .f64 r) : Sem Value) | none => do pure (.float .f64 (← choose (.nanBits .f64 x x)))).run Try.prog w).andThen _ = _
  rw [h]
  rfl
theorem ret_b {a b : Bool} (h : a = b) : Ending.returned (.bool a) = .returned (.bool b) := by rw [h]
theorem unary_ng64 (b : Nat) : Op.unary .neg (.float .f64 b) = pure (.float .f64 (ng64 b)) := rfl
theorem unary_ng32 (b : Nat) : Op.unary .neg (.float .f32 b) = pure (.float .f32 (ng32 b)) := rfl
theorem sqrt_w {x r : Nat} (h : FloatKind.f64.format.sqrt x = some r) : Calls Try.prog 39 #[.float .f64 x] w fun e w' => e = .returned (.float .f64 r) ∧ w' = w := by
  have h1 := rSqrt h
  clear h
  go_enter Try.func39, Try.ntmps39
  go_wp2
  go_ret
  exact ⟨rfl, rfl⟩
theorem parts_w {a b x y : Nat} (ha : qwide a = some x) (hb : qwide b = some y) : Calls Try.prog 49 #[.complex .f32 a b] w fun e w' => e = .returned (.tuple #[.float .f64 x, .float .f64 y]) ∧ w' = w := by
  have h1 := rWide ha
  have h2 := rWide hb
  clear ha hb
  go_enter Try.func49, Try.ntmps49
  go_wp2
  go_ret2
  exact ⟨rfl, rfl⟩
theorem power_w {a b x y p q u : Nat} (ha : qwide a = some x) (hb : qwide b = some y) (h1 : floatBits .mul .f64 x x = some p) (h2 : floatBits .mul .f64 y y = some q) (h3 : floatBits .add .f64 p q = some u) :
    Calls Try.prog 38 #[.complex .f32 a b] w fun e w' => e = .returned (.float .f64 u) ∧ w' = w := by
  have C1 := parts_w w ha hb
  have q1 := r64 h1
  have q2 := r64 h2
  have q3 := r64 h3
  clear ha hb h1 h2 h3
  go_enter Try.func38, Try.ntmps38
  go_wp2_with (first | (go_at_call 49; refine C1.mono ?_; rintro e w1 ⟨rfl, rfl⟩) | fail)
  go_ret
  exact ⟨rfl, rfl⟩
end
/-- A finite single. -/
abbrev S32 (w : Nat) (x : Rat) : Prop := Fl .f32 w ∧ w < 4294967296 ∧ fv .f32 w = x
/-- Bounded by a number. -/
def InR (x B : Rat) : Prop := x ≤ B ∧ -B ≤ x
theorem prod_in {x y A B : Rat} (hx : InR x A) (hy : InR y B) (hA : 0 ≤ A) : InR (x * y) (A * B) := by
  obtain ⟨x1, x2⟩ := hx
  obtain ⟨y1, y2⟩ := hy
  have h1 := Rat.mul_nonneg (show 0 ≤ A - x by grind) (show 0 ≤ B + y by grind)
  have h2 := Rat.mul_nonneg (show 0 ≤ A + x by grind) (show 0 ≤ B - y by grind)
  have h3 := Rat.mul_nonneg (show 0 ≤ A - x by grind) (show 0 ≤ B - y by grind)
  have h4 := Rat.mul_nonneg (show 0 ≤ A + x by grind) (show 0 ≤ B + y by grind)
  constructor <;> grind
/-- A bound for what is multiplied: two to the power of 40. -/
abbrev mid : Rat := 1099511627776
theorem add_num {a b c d : Nat} (ha : Fl .f32 a) (hb : Fl .f32 b) (hc : Fl .f32 c) (hd : Fl .f32 d) (h1 : InR (fv .f32 a + fv .f32 c) top) (h2 : InR (fv .f32 b + fv .f32 d) top) :
    ∃ u v, (∀ w : World, Calls Try.prog 37 #[.complex .f32 a b, .complex .f32 c d] w fun e w' => e = .returned (.complex .f32 u v) ∧ w' = w) ∧ FR .f32 (fv .f32 a + fv .f32 c) u ∧ FR .f32 (fv .f32 b + fv .f32 d) v := by
  obtain ⟨u, e1, k1⟩ := fadd ha hc h1.1 h1.2
  obtain ⟨v, e2, k2⟩ := fadd hb hd h2.1 h2.2
  refine ⟨u, v, fun w => ?_, k1, k2⟩
  have q1 := r32 e1
  have q2 := r32 e2
  clear e1 e2 h1 h2 k1 k2 ha hb hc hd
  go_enter Try.func37, Try.ntmps37
  go_wp2
  go_ret
  exact ⟨rfl, rfl⟩
theorem subtract_num {a b c d : Nat} (ha : Fl .f32 a) (hb : Fl .f32 b) (hc : Fl .f32 c) (hd : Fl .f32 d) (h1 : InR (fv .f32 a - fv .f32 c) top) (h2 : InR (fv .f32 b - fv .f32 d) top) :
    ∃ u v, (∀ w : World, Calls Try.prog 21 #[.complex .f32 a b, .complex .f32 c d] w fun e w' => e = .returned (.complex .f32 u v) ∧ w' = w) ∧ FR .f32 (fv .f32 a - fv .f32 c) u ∧ FR .f32 (fv .f32 b - fv .f32 d) v := by
  obtain ⟨u, e1, k1⟩ := fsub ha hc h1.1 h1.2
  obtain ⟨v, e2, k2⟩ := fsub hb hd h2.1 h2.2
  refine ⟨u, v, fun w => ?_, k1, k2⟩
  have q1 := r32 e1
  have q2 := r32 e2
  clear e1 e2 h1 h2 k1 k2 ha hb hc hd
  go_enter Try.func21, Try.ntmps21
  go_wp2
  go_ret
  exact ⟨rfl, rfl⟩
/-- The product of two singles, in double precision: exact. -/
theorem fmul_wide {a b : Nat} {x y : Nat} (ha : Fl .f32 a) (hb : Fl .f32 b) (hx : Fl .f64 x) (hy : Fl .f64 y) (ex : fv .f64 x = fv .f32 a) (ey : fv .f64 y = fv .f32 b) (h : InR (fv .f32 a * fv .f32 b) top) :
    ∃ p, floatBits .mul .f64 x y = some p ∧ Fl .f64 p ∧ fv .f64 p = fv .f32 a * fv .f32 b := by
  obtain ⟨p, e, k⟩ := fmul hx hy (by rw [ex, ey]; exact h.1) (by rw [ex, ey]; exact h.2)
  refine ⟨p, e, k.fin, ?_⟩
  rw [ex, ey] at k
  exact k.exact _ (rep_prod (rep_val _ ha) (rep_val _ hb))
end Go.Proofs.Ytejmpijihmmajaa
