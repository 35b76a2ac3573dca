/- Walks: bits of floats, math.Abs, math.Sqrt, math.Floor. Conditions: as each says. -/
import Derived.Test.YtkldgcgijkfpaaaCc
import Derived.Laws.Externs
import Derived.Laws.BitsAll
namespace Go.Proofs.Ytkldgcgijkfpaaa
open Go.RowKit
open Circ
open Quick

section
variable (w : World)
theorem run_f64bits (x : Nat) : ∀ w : World, (callFunc 87 #[.float .f64 x]).run Try.prog w = .ok (.value (.int .u64 (x : Int))) w := fun w => by
  rw [run_callFunc_extern (P := Try.prog) (f := 87) (fn := Try.f87) (e := Extern.MathFloatBits.float64bits) (by kernel_rfl) (by kernel_rfl) (by kernel_rfl) (by kernel_rfl) (by kernel_rfl)]
  rfl
theorem run_f64from (x : Nat) : ∀ w : World, (callFunc 88 #[.int .u64 (x : Int)]).run Try.prog w = .ok (.value (.float .f64 x)) w := fun w => by
  rw [run_callFunc_extern (P := Try.prog) (f := 88) (fn := Try.f88) (e := Extern.MathFloatBits.float64frombits) (by kernel_rfl) (by kernel_rfl) (by kernel_rfl) (by kernel_rfl) (by kernel_rfl)]
  rfl
theorem run_sqrt {x r : Nat} (h : FloatKind.f64.format.sqrt x = some r) : ∀ w : World, (callFunc 73 #[.float .f64 x]).run Try.prog w = .ok (.value (.float .f64 r)) w := fun w => by
  rw [run_callFunc_extern (P := Try.prog) (f := 73) (fn := Try.f73) (e := Extern.MathSqrt.sqrt) (by kernel_rfl) (by kernel_rfl) (by kernel_rfl) (by kernel_rfl) (by kernel_rfl)]
  change ((match FloatKind.f64.format.sqrt x with | some r => (pure (.float .f64 r) : Sem Value) | none => do pure (.float .f64 (← choose (.nanBits .f64 x x)))).run Try.prog w).andThen _ = _
  rw [h]
  rfl
theorem abs_calls (x : Nat) (hx : x < 18446744073709551616) : Calls Try.prog 68 #[.float .f64 x] w fun e w' => e = .returned (.float .f64 (absP x)) ∧ w' = w := by
  have h1 := run_f64bits x
  have h2 : bits .andNot .u64 (x : Int) 9223372036854775808 = ((absP x : Nat) : Int) := u64_andNot_nat x 9223372036854775808 hx (by omega)
  have h3 := run_f64from (absP x)
  clear hx
  go_enter Try.func68, Try.ntmps68
  go_wp2
  go_ret
  exact ⟨rfl, rfl⟩
theorem sqrt_calls {x r : Nat} (h : FloatKind.f64.format.sqrt x = some r) : Calls Try.prog 48 #[.float .f64 x] w fun e w' => e = .returned (.float .f64 r) ∧ w' = w := by
  have h1 := run_sqrt h
  clear h
  go_enter Try.func48, Try.ntmps48
  go_wp2
  go_ret
  exact ⟨rfl, rfl⟩
end
end Go.Proofs.Ytkldgcgijkfpaaa
