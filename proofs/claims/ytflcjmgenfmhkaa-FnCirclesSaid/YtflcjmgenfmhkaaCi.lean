/- Walk: tenths of decibels. Conditions: the plain function gives a number. -/
import Derived.Test.YtflcjmgenfmhkaaCh
namespace Go.Proofs.Ytflcjmgenfmhkaa
open Go.RowKit
open Circ

/-- Tenths of decibels of a power in single precision. -/
def tenP (x : Nat) : Option Int :=
  wide x fun y => af (logP y) fun l => opf .mul l 4631308968768463603 fun a => opf .add a half fun b => (Quick.qfloor b).bind Quick.qtoInt
section
variable (w : World)
theorem run32 {op : BinOp} {x y r : Nat} (h : floatBits op .f32 x y = some r) : ∀ w : World, (binOp op 28 (.float .f32 x) (.float .f32 y)).run Try.prog w = .ok (.float .f32 r) w := fun w => run_float_arith w op _ .f32 _ _ _ h
theorem isFinite_calls {t d : Nat} (h : floatBits .sub .f32 t t = some d) (h0 : (FloatKind.f32.format.order d 0 == some .eq) = true) : Calls Try.prog 23 #[.float .f32 t] w fun e w' => e = .returned (.bool true) ∧ w' = w := by
  have h1 := run32 h
  clear h
  go_enter Try.func23, Try.ntmps23
  go_wp2
  go_ret
  exact ⟨rfl, rfl⟩
theorem tenths_calls {x d : Nat} {n : Int} (h : tenP x = some n) (h1 : floatBits .sub .f32 x x = some d) (h2 : (FloatKind.f32.format.order d 0 == some .eq) = true) (h3 : (FloatKind.f32.format.order x 0 == some .lt) = false) (h4 : (FloatKind.f32.format.order x 0 == some .eq) = false) :
    Calls Try.prog 12 #[.float .f32 x] w fun e w' => e = .returned (.tuple #[.int .i64 n, .bool true]) ∧ w' = w := by
  unfold tenP wide at h
  obtain ⟨y, hy, h⟩ := af_some h
  obtain ⟨l, hl, h⟩ := af_some h
  obtain ⟨a, ha, h⟩ := opf_some h
  obtain ⟨b, hb, h⟩ := opf_some h
  rw [Quick.qfloor_eq] at h
  obtain ⟨c, hc, h⟩ := Option.bind_eq_some_iff.1 h
  rw [Quick.qtoInt_eq] at h
  have C1 := isFinite_calls w h1 h2
  have C2 := log_calls w hl
  have C3 := floor_calls w hc
  have r1 := run_widen hy
  have r2 := run64 ha
  have r3 := run64 hb
  have r4 := run_int h
  clear h h1 h2 hy hl ha hb hc
  go_enter Try.func12, Try.ntmps12
  go_wp2_with (first
    | (go_at_call 23; refine C1.mono ?_; rintro e w1 ⟨rfl, rfl⟩)
    | (go_at_call 25; refine C2.mono ?_; rintro e w1 ⟨rfl, rfl⟩)
    | (go_at_call 24; refine C3.mono ?_; rintro e w1 ⟨rfl, rfl⟩) | fail)
  go_ret2
  exact ⟨rfl, rfl⟩
end
end Go.Proofs.Ytflcjmgenfmhkaa
