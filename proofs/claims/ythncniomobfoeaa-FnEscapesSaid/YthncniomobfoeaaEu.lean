/- Walks: one number is the same as itself; gaps. Conditions: finite words. -/
import Derived.Test.YthncniomobfoeaaEt
import Derived.Test.YthncniomobfoeaaNrm
namespace Go.Proofs.Ythncniomobfoeaa
open Go.RowKit
open Num Quick Circ
attribute [local go_sem] run_store_fl run_store_cx

theorem signbit_w (x : Nat) : ∃ b : Bool, ∀ w : World, Calls Try.prog 68 #[.float .f64 x] w fun e w' => e = .returned (.bool b) ∧ w' = w := by
  refine ⟨decide (wrap64 (x : Int) < 0), fun w => ?_⟩
  have h1 := rBits64 x
  go_enter Try.func68, Try.ntmps68
  go_wp2
  go_ret
  exact ⟨rfl, rfl⟩
theorem sameNumber_self {x : Nat} (hx : Fl .f32 x) (w : World) : Calls Try.prog 39 #[.float .f32 x, .float .f32 x] w fun e w' => e = .returned (.bool true) ∧ w' = w := by
  obtain ⟨y, y1, y2, y3, y4⟩ := fwide hx
  obtain ⟨b, hb⟩ := signbit_w y
  have e1 : (FloatKind.f32.format.order x x != some .eq) = false := by rw [cmp_eq' hx hx rfl]; decide
  have e2 : (FloatKind.f32.format.order x x == some .eq) = true := by rw [cmp_eq' hx hx rfl]; decide
  have k1 := rWide y1
  have HB := Lib.hid hb
  clear y1 y2 y3 y4 hb hx
  go_enter Try.func39, Try.ntmps39
  go_wp2_with fail
  refine (HB.out _).mono ?_
  rintro e w1 ⟨rfl, hw⟩
  obtain rfl := hw.symm
  go_wp2_with fail
  refine (HB.out _).mono ?_
  rintro e w1 ⟨rfl, hw⟩
  obtain rfl := hw.symm
  go_wp2
  go_ret
  exact ⟨ret_b (by cases b <;> rfl), rfl⟩
theorem sameComplex_self {x y : Nat} (hx : Fl .f32 x) (hy : Fl .f32 y) (w : World) : Calls Try.prog 14 #[.complex .f32 x y, .complex .f32 x y] w fun e w' => e = .returned (.bool true) ∧ w' = w := by
  have C1 := Lib.hid (fun w => sameNumber_self hx w)
  have C2 := Lib.hid (fun w => sameNumber_self hy w)
  clear hx hy
  go_enter Try.func14, Try.ntmps14
  go_wp2_with fail
  refine (C1.out _).mono ?_
  rintro e w1 ⟨rfl, hw⟩
  obtain rfl := hw.symm
  go_wp2_with fail
  refine (C2.out _).mono ?_
  rintro e w1 ⟨rfl, hw⟩
  obtain rfl := hw.symm
  go_wp2
  go_ret
  exact ⟨rfl, rfl⟩

theorem fin4 : Fl .f64 4616189618054758400 ∧ Num.fv .f64 4616189618054758400 = 4 := by
  refine ⟨?_, ?_⟩
  · show (4616189618054758400 : Nat) % FloatKind.f64.format.signWeight < FloatKind.f64.format.infRung
    decide +kernel
  · unfold Num.fv val rv p2
    decide +kernel
/-- Two numbers that lie within 15/4 of each other have a gap of at most 4. -/
theorem gap_w {x y : Nat} (hx : Fl .f64 x) (hy : Fl .f64 y) (h : InR (Num.fv .f64 x - Num.fv .f64 y) (15 / 4)) : ∃ r, (∀ w : World, Calls Try.prog 11 #[.float .f64 x, .float .f64 y] w fun e w' => e = .returned (.float .f64 r) ∧ w' = w) ∧ (FloatKind.f64.format.order r 4616189618054758400 == some .gt) = false := by
  have t : (100 : Rat) ≤ top := by decide +kernel
  obtain ⟨T, eT⟩ : ∃ T : Rat, top = T := ⟨_, rfl⟩
  rw [eT] at t
  obtain ⟨d, d1, d2⟩ := fsub hx hy (by rw [eT]; unfold InR at *; grind) (by rw [eT]; unfold InR at *; grind)
  obtain ⟨e, e1, e2⟩ := fsub hy hx (by rw [eT]; unfold InR at *; grind) (by rw [eT]; unfold InR at *; grind)
  have i1 : Num.fv .f64 d ≤ 4 := by
    have := d2.le_int 4 (by decide) (by unfold InR at *; grind)
    simpa using this
  have i2 : Num.fv .f64 e ≤ 4 := by
    have := e2.le_int 4 (by decide) (by unfold InR at *; grind)
    simpa using this
  obtain ⟨r, hr, _, _, hm⟩ := fmax_num d2.fin e2.fin
  have fr : Fl .f64 r := by rcases hr with rfl | rfl; exact d2.fin; exact e2.fin
  have lr : Num.fv .f64 r ≤ 4 := by rcases hr with rfl | rfl; exact i1; exact i2
  refine ⟨r, fun w => ?_, ?_⟩
  · have k1 := r64 d1
    have k2 := r64 e1
    clear hx hy h d2 e2 i1 i2 hr fr lr t eT d1 e1
    go_enter Try.func11, Try.ntmps11
    go_wp2
    go_ret
    exact ⟨rfl, rfl⟩
  · obtain ⟨o, o1, o2, o3, o4⟩ := order_fin FloatKind.f64.format fr fin4.1
    rw [o1]
    cases o with
    | lt => decide
    | eq => decide
    | gt =>
      have := o4.1 rfl
      have e4 := fin4.2
      exfalso
      have : Num.fv .f64 4616189618054758400 < Num.fv .f64 r := this
      rw [e4] at this
      grind
end Go.Proofs.Ythncniomobfoeaa
