/- Walk: the angle of a complex number. Conditions: the plain function gives a number. -/
import Derived.Test.YtflcjmgenfmhkaaCj
namespace Go.Proofs.Ytflcjmgenfmhkaa
open Go.RowKit
open Circ

/-- The angle of the complex number x + iy. -/
def angC (x y : Nat) : Option Nat :=
  match floatBits .sub .f32 y y, floatBits .sub .f32 x x, Quick.qwide y, Quick.qwide x with
  | some dy, some dx, some Y, some X =>
    if (FloatKind.f32.format.order dy 0 == some .eq) && ((FloatKind.f32.format.order dx 0 == some .eq) && (!((FloatKind.f32.format.order x 0 == some .eq) && (FloatKind.f32.format.order y 0 == some .eq)) && (decide (X < 18446744073709551616) && decide (Y < 18446744073709551616))))
    then angleP (absP Y) (absP X) (FloatKind.f32.format.order x 0 == some .lt) (FloatKind.f32.format.order y 0 == some .lt) else none
  | _, _, _, _ => none
section
variable (w : World)
theorem angleOf_calls {x y r : Nat} (h : angC x y = some r) : Calls Try.prog 7 #[.complex .f32 x y] w fun e w' => e = .returned (.float .f32 r) ∧ w' = w := by
  unfold angC at h
  split at h
  · rename_i dy dx Y X h1 h2 h3 h4
    split at h
    · rename_i hc
      rw [Bool.and_eq_true, Bool.and_eq_true, Bool.and_eq_true, Bool.and_eq_true, decide_eq_true_eq, decide_eq_true_eq, Bool.not_eq_true'] at hc
      obtain ⟨c1, c2, c3, c4, c5⟩ := hc
      have C1 := angle_calls w c4 c5 h1 c1 h2 c2 h3 h4 rfl rfl rfl rfl c3 h
      clear h h1 h2 h3 h4 c1 c2 c3 c4 c5
      go_enter Try.func7, Try.ntmps7
      go_wp2_with (first | (go_at_call 19; refine C1.mono ?_; rintro e w1 ⟨rfl, rfl⟩) | fail)
      go_ret
      exact ⟨rfl, rfl⟩
    · cases h
  · cases h
end
end Go.Proofs.Ytflcjmgenfmhkaa
