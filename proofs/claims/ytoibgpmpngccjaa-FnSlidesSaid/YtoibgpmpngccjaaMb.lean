/- Walks: sums, products, powers, lengths, quotients and sizes of complex numbers, told as rational numbers. Conditions: finite parts, of middling size. -/
import Derived.Test.YtoibgpmpngccjaaMa
import Derived.WalkKit
import Derived.WalkLawsBesides
import Derived.Lib.Hide
import Derived.Laws.Externs
import Derived.Laws.BitsAll
namespace Go.Proofs.Ytoibgpmpngccjaa
open Go.RowKit
open Num Quick

section
variable (w : World)
theorem r64 {op : BinOp} {x y r : Nat} (h : floatBits op .f64 x y = some r) : ∀ w : World, (binOp op 41 (.float .f64 x) (.float .f64 y)).run Try.prog w = .ok (.float .f64 r) w := fun w => run_float_arith w op _ .f64 _ _ _ h
theorem r32 {op : BinOp} {x y r : Nat} (h : floatBits op .f32 x y = some r) : ∀ w : World, (binOp op 30 (.float .f32 x) (.float .f32 y)).run Try.prog w = .ok (.float .f32 r) w := fun w => run_float_arith w op _ .f32 _ _ _ h
theorem rNarrow {x r : Nat} (h : qnarrow x = some r) : ∀ w : World, (convert 41 30 (.float .f64 x)).run Try.prog w = .ok (.float .f32 r) w := fun w => run_convert_float_float w _ _ _ _ _ _ (by rw [Try.underlying41]; rfl) Try.underlying30 ((qnarrow_eq x).symm.trans h)
theorem rWide {x r : Nat} (h : qwide x = some r) : ∀ w : World, (convert 30 41 (.float .f32 x)).run Try.prog w = .ok (.float .f64 r) w := fun w => run_convert_float_float w _ _ _ _ _ _ (by rw [Try.underlying30]; rfl) Try.underlying41 ((qwide_eq x).symm.trans h)
theorem rInt32 (n : Int) : ∀ w : World, (convert 2 30 (.int .i64 n)).run Try.prog w = .ok (.float .f32 (floatOfInt .f32 n)) w := fun w => run_convert_int_float w _ _ _ _ _ (by rw [Try.underlying2]; rfl) Try.underlying30
theorem rBits64 (x : Nat) : ∀ w : World, (callFunc 63 #[.float .f64 x]).run Try.prog w = .ok (.value (.int .u64 (x : Int))) w := fun w => by
  rw [run_callFunc_extern (P := Try.prog) (f := 63) (fn := Try.f63) (e := Extern.MathFloatBits.float64bits) (by kernel_rfl) (by kernel_rfl) (by kernel_rfl) (by kernel_rfl) (by kernel_rfl)]
  rfl
theorem ret_b {a b : Bool} (h : a = b) : Ending.returned (.bool a) = .returned (.bool b) := by rw [h]
theorem unary_ng64 (b : Nat) : Op.unary .neg (.float .f64 b) = pure (.float .f64 (ng64 b)) := rfl
theorem unary_ng32 (b : Nat) : Op.unary .neg (.float .f32 b) = pure (.float .f32 (ng32 b)) := rfl
end
/-- A finite single. -/
abbrev S32 (w : Nat) (x : Rat) : Prop := Fl .f32 w ∧ w < 4294967296 ∧ fv .f32 w = x
/-- Bounded by a number. -/
def InR (x B : Rat) : Prop := x ≤ B ∧ -B ≤ x
theorem prod_in {x y A B : Rat} (hx : InR x A) (hy : InR y B) (hA : 0 ≤ A) : InR (x * y) (A * B) := by
  obtain ⟨x1, x2⟩ := hx
  obtain ⟨y1, y2⟩ := hy
  have h1 := Rat.mul_nonneg (show 0 ≤ A - x by grind) (show 0 ≤ B + y by grind)
  have h2 := Rat.mul_nonneg (show 0 ≤ A + x by grind) (show 0 ≤ B - y by grind)
  have h3 := Rat.mul_nonneg (show 0 ≤ A - x by grind) (show 0 ≤ B - y by grind)
  have h4 := Rat.mul_nonneg (show 0 ≤ A + x by grind) (show 0 ≤ B + y by grind)
  constructor <;> grind
/-- A bound for what is multiplied: two to the power of 40. -/
abbrev mid : Rat := 1099511627776
/-- The product of two singles, in double precision: exact. -/
theorem fmul_wide {a b : Nat} {x y : Nat} (ha : Fl .f32 a) (hb : Fl .f32 b) (hx : Fl .f64 x) (hy : Fl .f64 y) (ex : fv .f64 x = fv .f32 a) (ey : fv .f64 y = fv .f32 b) (h : InR (fv .f32 a * fv .f32 b) top) :
    ∃ p, floatBits .mul .f64 x y = some p ∧ Fl .f64 p ∧ fv .f64 p = fv .f32 a * fv .f32 b := by
  obtain ⟨p, e, k⟩ := fmul hx hy (by rw [ex, ey]; exact h.1) (by rw [ex, ey]; exact h.2)
  refine ⟨p, e, k.fin, ?_⟩
  rw [ex, ey] at k
  exact k.exact _ (rep_prod (rep_val _ ha) (rep_val _ hb))
end Go.Proofs.Ytoibgpmpngccjaa
