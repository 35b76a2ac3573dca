/- Walks: whether two singles are the same. Conditions: both are numbers. -/
import Derived.Test.YtflcjmgenfmhkaaCl
namespace Go.Proofs.Ytflcjmgenfmhkaa
open Go.RowKit
open Circ

section
variable (w : World)
theorem bits_calls {x : Nat} (h : (FloatKind.f32.format.order x x != some .eq) = false) (hx : x < 4294967296) : Calls Try.prog 32 #[.float .f32 x] w fun e w' => e = .returned (.int .i64 (x : Int)) ∧ w' = w := by
  have h1 := run_f32bits x
  go_enter Try.func32, Try.ntmps32
  go_wp2
  go_ret
  exact ⟨rfl, rfl⟩
theorem same_calls {x y : Nat} (h : (FloatKind.f32.format.order x x != some .eq) = false) (hx : x < 4294967296) (h' : (FloatKind.f32.format.order y y != some .eq) = false) (hy : y < 4294967296) :
    Calls Try.prog 13 #[.float .f32 x, .float .f32 y] w fun e w' => e = .returned (.bool ((x : Int) == (y : Int))) ∧ w' = w := by
  have C1 := bits_calls w h hx
  have C2 := bits_calls w h' hy
  have C3 : Calls Try.prog 26 #[.float .f32 x, .float .f32 y] w fun e w' => e = .returned (.bool ((x : Int) == (y : Int))) ∧ w' = w := by
    clear h h' hx hy
    go_enter Try.func26, Try.ntmps26
    go_wp2_with fail
    refine C1.mono ?_
    rintro e w1 ⟨rfl, rfl⟩
    go_wp2_with fail
    refine C2.mono ?_
    rintro e w1 ⟨rfl, rfl⟩
    go_wp2
    go_ret
    exact ⟨rfl, rfl⟩
  clear C1 C2 h h' hx hy
  go_enter Try.func13, Try.ntmps13
  go_wp2_with fail
  refine C3.mono ?_
  rintro e w1 ⟨rfl, rfl⟩
  go_wp2
  go_ret
  exact ⟨rfl, rfl⟩
end
end Go.Proofs.Ytflcjmgenfmhkaa
