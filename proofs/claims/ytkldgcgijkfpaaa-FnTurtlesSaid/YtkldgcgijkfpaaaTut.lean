/- Walks: whether two numbers are the same. Conditions: finite numbers. -/
import Derived.Test.YtkldgcgijkfpaaaTue
namespace Go.Proofs.Ytkldgcgijkfpaaa
open Go.RowKit
open Num Quick
attribute [local go_sem] run_store_fl run_store_cx

def tsgb (x : Nat) : Bool := decide (wrap64 (x : Int) < 0)
theorem tsignbit_w (x : Nat) (w : World) : Calls Try.prog 65 #[.float .f64 x] w fun e w' => e = .returned (.bool (tsgb x)) ∧ w' = w := by
  unfold tsgb
  have h1 := rBits64 x
  go_enter Try.func65, Try.ntmps65
  go_wp2
  go_ret
  exact ⟨rfl, rfl⟩
theorem tsameNumber_w {x y : Nat} (hx : Fl .f32 x) (hy : Fl .f32 y) : ∃ b : Bool, (∀ w : World, Calls Try.prog 36 #[.float .f32 x, .float .f32 y] w fun e w' => e = .returned (.bool b) ∧ w' = w) ∧ (x = y → b = true) := by
  obtain ⟨X, x1, _⟩ := fwide hx
  obtain ⟨Y, y1, _⟩ := fwide hy
  have hb1 := fun w => tsignbit_w X w
  have hb2 := fun w => tsignbit_w Y w
  obtain ⟨b1, eb1⟩ : ∃ b, tsgb X = b := ⟨_, rfl⟩
  obtain ⟨b2, eb2⟩ : ∃ b, tsgb Y = b := ⟨_, rfl⟩
  have e1 : (FloatKind.f32.format.order x x != some .eq) = false := by rw [cmp_eq' hx hx rfl]; decide
  have e2 : (FloatKind.f32.format.order y y != some .eq) = false := by rw [cmp_eq' hy hy rfl]; decide
  obtain ⟨o, eo⟩ : ∃ b, (FloatKind.f32.format.order x y == some .eq) = b := ⟨_, rfl⟩
  have hxy : x = y → o = true ∧ b1 = b2 := fun h => by
    subst h
    refine ⟨by rw [← eo, cmp_eq' hx hx rfl]; decide, ?_⟩
    obtain rfl : X = Y := Option.some.inj (x1.symm.trans y1)
    rw [← eb1, ← eb2]
  rw [eb1] at hb1
  rw [eb2] at hb2
  have k1 := rWide x1
  have k2 := rWide y1
  have HB1 := Lib.hid hb1
  have HB2 := Lib.hid hb2
  refine ⟨o && (b1 == b2), fun w => ?_, fun h => by obtain ⟨h1, h2⟩ := hxy h; rw [h1, h2]; cases b2 <;> rfl⟩
  clear hb1 hb2 hxy x1 y1 hx hy eb1 eb2
  go_enter Try.func36, Try.ntmps36
  cases o
  · go_wp2
    go_ret
    exact ⟨rfl, rfl⟩
  · go_wp2_with fail
    refine (HB1.out _).mono ?_
    rintro e w1 ⟨rfl, hw⟩
    obtain rfl := hw.symm
    go_wp2_with fail
    refine (HB2.out _).mono ?_
    rintro e w1 ⟨rfl, hw⟩
    obtain rfl := hw.symm
    go_wp2
    go_ret
    exact ⟨ret_b (by cases b1 <;> cases b2 <;> rfl), rfl⟩
theorem tsameComplex_w {a b : Nat × Nat} (ha1 : Fl .f32 a.1) (ha2 : Fl .f32 a.2) (hb1 : Fl .f32 b.1) (hb2 : Fl .f32 b.2) : ∃ r : Bool, (∀ w : World, Calls Try.prog 12 #[.complex .f32 a.1 a.2, .complex .f32 b.1 b.2] w fun e w' => e = .returned (.bool r) ∧ w' = w) ∧ (a = b → r = true) := by
  obtain ⟨r1, h1, k1⟩ := tsameNumber_w ha1 hb1
  obtain ⟨r2, h2, k2⟩ := tsameNumber_w ha2 hb2
  refine ⟨r1 && r2, fun w => ?_, fun h => by rw [k1 (by rw [h]), k2 (by rw [h])]; rfl⟩
  have C1 := Lib.hid h1
  have C2 := Lib.hid h2
  clear h1 h2 k1 k2 ha1 ha2 hb1 hb2
  go_enter Try.func12, Try.ntmps12
  go_wp2_with fail
  refine (C1.out _).mono ?_
  rintro e w1 ⟨rfl, hw⟩
  obtain rfl := hw.symm
  cases r1
  · go_wp2
    go_ret
    exact ⟨rfl, rfl⟩
  · go_wp2_with fail
    refine (C2.out _).mono ?_
    rintro e w1 ⟨rfl, hw⟩
    obtain rfl := hw.symm
    go_wp2
    go_ret
    exact ⟨rfl, rfl⟩
/-- One number is the same as itself. -/
theorem tsame_self {x y : Nat} (hx : Fl .f32 x) (hy : Fl .f32 y) (w : World) : Calls Try.prog 12 #[.complex .f32 x y, .complex .f32 x y] w fun e w' => e = .returned (.bool true) ∧ w' = w := by
  obtain ⟨r, h, k⟩ := tsameComplex_w (a := (x, y)) (b := (x, y)) hx hy hx hy
  have := h w
  rwa [k rfl] at this
end Go.Proofs.Ytkldgcgijkfpaaa
