/- Walks: bits of floats, math.Abs, math.Sqrt, math.Floor. Conditions: as each says. -/
import Derived.Test.YtflcjmgenfmhkaaCc
import Derived.Laws.Externs
import Derived.Laws.BitsAll
namespace Go.Proofs.Ytflcjmgenfmhkaa
open Go.RowKit
open Circ
open Quick

section
variable (w : World)
theorem run_f64bits (x : Nat) : ∀ w : World, (callFunc 28 #[.float .f64 x]).run Try.prog w = .ok (.value (.int .u64 (x : Int))) w := fun w => by
  rw [run_callFunc_extern (P := Try.prog) (f := 28) (fn := Try.f28) (e := Extern.MathFloatBits.float64bits) (by kernel_rfl) (by kernel_rfl) (by kernel_rfl) (by kernel_rfl) (by kernel_rfl)]
  rfl
theorem run_f64from (x : Nat) : ∀ w : World, (callFunc 27 #[.int .u64 (x : Int)]).run Try.prog w = .ok (.value (.float .f64 x)) w := fun w => by
  rw [run_callFunc_extern (P := Try.prog) (f := 27) (fn := Try.f27) (e := Extern.MathFloatBits.float64frombits) (by kernel_rfl) (by kernel_rfl) (by kernel_rfl) (by kernel_rfl) (by kernel_rfl)]
  rfl
theorem run_f32bits (x : Nat) : ∀ w : World, (callFunc 37 #[.float .f32 x]).run Try.prog w = .ok (.value (.int .u32 (x : Int))) w := fun w => by
  rw [run_callFunc_extern (P := Try.prog) (f := 37) (fn := Try.f37) (e := Extern.MathFloatBits.float32bits) (by kernel_rfl) (by kernel_rfl) (by kernel_rfl) (by kernel_rfl) (by kernel_rfl)]
  rfl
theorem run_sqrt {x r : Nat} (h : FloatKind.f64.format.sqrt x = some r) : ∀ w : World, (callFunc 33 #[.float .f64 x]).run Try.prog w = .ok (.value (.float .f64 r)) w := fun w => by
  rw [run_callFunc_extern (P := Try.prog) (f := 33) (fn := Try.f33) (e := Extern.MathSqrt.sqrt) (by kernel_rfl) (by kernel_rfl) (by kernel_rfl) (by kernel_rfl) (by kernel_rfl)]
  change ((match FloatKind.f64.format.sqrt x with | some r => (pure (.float .f64 r) : Sem Value) | none => do pure (.float .f64 (← choose (.nanBits .f64 x x)))).run Try.prog w).andThen _ = _
  rw [h]
  rfl
theorem run_floor {x r : Nat} (h : floorP x = some r) : ∀ w : World, (callFunc 30 #[.float .f64 x]).run Try.prog w = .ok (.value (.float .f64 r)) w := fun w => by
  rw [run_callFunc_extern (P := Try.prog) (f := 30) (fn := Try.f30) (e := Extern.MathFloor.toIntegral "math.archFloor" .down) (by kernel_rfl) (by kernel_rfl) (by kernel_rfl) (by kernel_rfl) (by kernel_rfl)]
  unfold floorP at h
  change ((match FloatKind.f64.decode x with
    | .nan s t =>
      if FloatKind.f64.format.quiet t = t then (pure (.float .f64 x) : Sem Value) else do
      let kept ← choose (.extern "math.Floor,Ceil,Trunc,RoundToEven.signallingNaN kept" 2)
      pure (.float .f64 (if kept == 1 then x else FloatKind.f64.encode (.nan s (FloatKind.f64.format.quiet t))))
    | d => pure (.float .f64 (FloatKind.f64.encode (d.integral .down)))).run Try.prog w).andThen _ = _
  cases e : FloatKind.f64.decode x with
  | nan s t => rw [e] at h; cases h
  | infinity s => rw [e] at h; cases h; rfl
  | number s m i => rw [e] at h; cases h; rfl
theorem abs_calls (x : Nat) (hx : x < 18446744073709551616) : Calls Try.prog 16 #[.float .f64 x] w fun e w' => e = .returned (.float .f64 (absP x)) ∧ w' = w := by
  have h1 := run_f64bits x
  have h2 : bits .andNot .u64 (x : Int) 9223372036854775808 = ((absP x : Nat) : Int) := u64_andNot_nat x 9223372036854775808 hx (by omega)
  have h3 := run_f64from (absP x)
  clear hx
  go_enter Try.func16, Try.ntmps16
  go_wp2
  go_ret
  exact ⟨rfl, rfl⟩
theorem sqrt_calls {x r : Nat} (h : FloatKind.f64.format.sqrt x = some r) : Calls Try.prog 29 #[.float .f64 x] w fun e w' => e = .returned (.float .f64 r) ∧ w' = w := by
  have h1 := run_sqrt h
  clear h
  go_enter Try.func29, Try.ntmps29
  go_wp2
  go_ret
  exact ⟨rfl, rfl⟩
theorem floor_calls {x r : Nat} (h : floorP x = some r) : Calls Try.prog 24 #[.float .f64 x] w fun e w' => e = .returned (.float .f64 r) ∧ w' = w := by
  have h1 := run_floor h
  clear h
  go_enter Try.func24, Try.ntmps24
  go_wp2
  go_ret
  exact ⟨rfl, rfl⟩
end
end Go.Proofs.Ytflcjmgenfmhkaa
