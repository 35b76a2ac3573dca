/- Walk: walks backwards. Conditions: numbers of eighths. -/
import Derived.Test.YthncniomobfoeaaEp
namespace Go.Proofs.Ythncniomobfoeaa
open Go.RowKit
open Num Quick Circ
attribute [local go_sem] run_store_fl run_store_cx

theorem inv_step {p q z1 z2 : Nat} (hc : Cb ((2 : Nat) : Rat) (p, q)) (hz1 : Fl .f32 z1) (hz2 : Fl .f32 z2) (hq : Num.fv .f32 z1 * Num.fv .f32 z1 + Num.fv .f32 z2 * Num.fv .f32 z2 ≤ 81 / 10) :
    ∃ d1 d2 u v, (∀ w : World, Calls Try.prog 41 #[.complex .f32 z1 z2, .complex .f32 p q] w fun e w' => e = .returned (.complex .f32 d1 d2) ∧ w' = w) ∧ (∀ w : World, Calls Try.prog 40 #[.complex .f32 d1 d2] w fun e w' => e = .returned (.complex .f32 u v) ∧ w' = w) ∧
      Led p q z1 z2 u v ∧ Led p q z1 z2 (ng32 u) (ng32 v) := by
  have hP := hc.2.2.1
  have hQ := hc.2.2.2
  have e2 : ((2 : Nat) : Rat) = 2 := rfl
  rw [e2] at hP hQ
  simp only at hP hQ
  obtain ⟨Z1, eZ1⟩ : ∃ Z, Num.fv .f32 z1 = Z := ⟨_, rfl⟩
  obtain ⟨Z2, eZ2⟩ : ∃ Z, Num.fv .f32 z2 = Z := ⟨_, rfl⟩
  obtain ⟨P, eP⟩ : ∃ P, Num.fv .f32 p = P := ⟨_, rfl⟩
  obtain ⟨Q, eQ⟩ : ∃ Q, Num.fv .f32 q = Q := ⟨_, rfl⟩
  rw [eZ1, eZ2] at hq
  rw [eP] at hP
  rw [eQ] at hQ
  have n1 := rsq_nn Z1
  have n2 := rsq_nn Z2
  have big : ∀ X : Rat, X * X ≤ 81 / 10 → InR X 3 := fun X h => by
    constructor
    · by_cases c : X ≤ 3
      · exact c
      · have := Rat.mul_le_mul_of_nonneg_right (Rat.le_of_lt (Rat.not_le.1 c)) (show (0 : Rat) ≤ X by grind)
        grind
    · by_cases c : -3 ≤ X
      · exact c
      · have := Rat.mul_le_mul_of_nonneg_right (show (3 : Rat) ≤ -X by grind) (show (0 : Rat) ≤ -X by grind)
        grind
  have i1 := big Z1 (by grind)
  have i2 := big Z2 (by grind)
  have t : (100 : Rat) ≤ top := by decide +kernel
  obtain ⟨T, eT⟩ : ∃ T : Rat, top = T := ⟨_, rfl⟩
  rw [eT] at t
  obtain ⟨d1, a1, a2⟩ := fsub hz1 hc.1 (by rw [eZ1, eP, eT]; unfold InR at *; grind) (by rw [eZ1, eP, eT]; unfold InR at *; grind)
  obtain ⟨d2, b1, b2⟩ := fsub hz2 hc.2.1 (by rw [eZ2, eQ, eT]; unfold InR at *; grind) (by rw [eZ2, eQ, eT]; unfold InR at *; grind)
  rw [eZ1, eP] at a2
  rw [eZ2, eQ] at b2
  have j1 : InR (Z1 - P) 5 := by unfold InR at *; constructor <;> grind
  have j2 : InR (Z2 - Q) 5 := by unfold InR at *; constructor <;> grind
  have k3 := nearE a2 3 (by decide) (by decide) (show p2 3 = 8 by decide +kernel) (show p2 (3 - 24) = 1 / 2097152 by decide +kernel) (in_le j1 (by decide +kernel))
  have k4 := nearE b2 3 (by decide) (by decide) (show p2 3 = 8 by decide +kernel) (show p2 (3 - 24) = 1 / 2097152 by decide +kernel) (in_le j2 (by decide +kernel))
  obtain ⟨X, eX⟩ : ∃ X, Num.fv .f32 d1 = X := ⟨_, rfl⟩
  obtain ⟨Y, eY⟩ : ∃ Y, Num.fv .f32 d2 = Y := ⟨_, rfl⟩
  rw [eX] at k3
  rw [eY] at k4
  have hD : X * X + Y * Y ≤ 33 := by
    have m1 := prod_in k3 j1 (by decide +kernel)
    have m2 := prod_in k4 j2 (by decide +kernel)
    have m3 := prod_in k3 k3 (by decide +kernel)
    have m4 := prod_in k4 k4 (by decide +kernel)
    have m5 := prod_in hP hP (by decide)
    have m6 := prod_in hQ hQ (by decide)
    have s1 := rsq_nn (Z1 + P)
    have s2 := rsq_nn (Z2 + Q)
    have e1 : X * X = (Z1 - P) * (Z1 - P) + 2 * ((X - (Z1 - P)) * (Z1 - P)) + (X - (Z1 - P)) * (X - (Z1 - P)) := by grind
    have e2 : Y * Y = (Z2 - Q) * (Z2 - Q) + 2 * ((Y - (Z2 - Q)) * (Z2 - Q)) + (Y - (Z2 - Q)) * (Y - (Z2 - Q)) := by grind
    have e3 : (Z1 - P) * (Z1 - P) = 2 * (Z1 * Z1) + 2 * (P * P) - (Z1 + P) * (Z1 + P) := by grind
    have e4 : (Z2 - Q) * (Z2 - Q) = 2 * (Z2 * Z2) + 2 * (Q * Q) - (Z2 + Q) * (Z2 + Q) := by grind
    have c1 : (1 / 2097152 : Rat) * 5 ≤ 1 / 1000 := by decide +kernel
    have c2 : (1 / 2097152 : Rat) * (1 / 2097152) ≤ 1 / 1000 := by decide +kernel
    rw [e1, e2, e3, e4]
    clear e1 e2 e3 e4
    generalize (X - (Z1 - P)) * (Z1 - P) = r1 at *
    generalize (X - (Z1 - P)) * (X - (Z1 - P)) = r2 at *
    generalize (Y - (Z2 - Q)) * (Z2 - Q) = r3 at *
    generalize (Y - (Z2 - Q)) * (Y - (Z2 - Q)) = r4 at *
    generalize (Z1 + P) * (Z1 + P) = r5 at *
    generalize (Z2 + Q) * (Z2 + Q) = r6 at *
    generalize Z1 * Z1 = r7 at *
    generalize Z2 * Z2 = r8 at *
    generalize P * P = r9 at *
    generalize Q * Q = r10 at *
    generalize (1 / 2097152 : Rat) * 5 = r11 at *
    generalize (1 / 2097152 : Rat) * (1 / 2097152) = r12 at *
    unfold InR at *
    grind
  obtain ⟨u, v, hr, fu, fv', lu, lv, iu, iv, hs, r1, r2⟩ := root_num a2.fin b2.fin (by rw [eX, eY]; exact hD)
  rw [eX] at r1
  rw [eY] at r2
  obtain ⟨nu1, nu2, nu3⟩ := ng32_num fu lu
  obtain ⟨nv1, nv2, nv3⟩ := ng32_num fv' lv
  have k3' : InR (X - (Num.fv .f32 z1 - Num.fv .f32 p)) (1 / 2097152) := by rw [eZ1, eP]; exact k3
  have k4' : InR (Y - (Num.fv .f32 z2 - Num.fv .f32 q)) (1 / 2097152) := by rw [eZ2, eQ]; exact k4
  have iz1 : InR (Num.fv .f32 z1) 3 := by rw [eZ1]; exact i1
  have iz2 : InR (Num.fv .f32 z2) 3 := by rw [eZ2]; exact i2
  refine ⟨d1, d2, u, v, fun w => sub_c w a1 b1, fun w => root_calls w hr, led_of hc hz1 hz2 iz1 iz2 fu fv' lu lv iu iv hs r1 r2 k3' k4', led_of hc hz1 hz2 iz1 iz2 nu1 nv1 nu3 nv3 ?_ ?_ ?_ ?_ ?_ k3' k4'⟩
  · rw [nu2]; unfold InR at *; constructor <;> grind
  · rw [nv2]; unfold InR at *; constructor <;> grind
  · rw [nu2, nv2]
    have : -Num.fv .f32 u * -Num.fv .f32 u + -Num.fv .f32 v * -Num.fv .f32 v = Num.fv .f32 u * Num.fv .f32 u + Num.fv .f32 v * Num.fv .f32 v := by grind
    rw [this]
    exact hs
  · rw [nu2, nv2]
    have : -Num.fv .f32 u * -Num.fv .f32 u - -Num.fv .f32 v * -Num.fv .f32 v - X = Num.fv .f32 u * Num.fv .f32 u - Num.fv .f32 v * Num.fv .f32 v - X := by grind
    rw [this]
    exact r1
  · rw [nu2, nv2]
    have : 2 * (-Num.fv .f32 u * -Num.fv .f32 v) - Y = 2 * (Num.fv .f32 u * Num.fv .f32 v) - Y := by grind
    rw [this]
    exact r2
end Go.Proofs.Ythncniomobfoeaa
