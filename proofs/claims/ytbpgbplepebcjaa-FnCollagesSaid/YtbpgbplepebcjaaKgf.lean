/- Plain law: how near the numbers of a fit come to those of the map. Conditions: at most 7 points. -/
import Derived.Test.YtbpgbplepebcjaaMs
import Derived.Test.YtbpgbplepebcjaaNrm
namespace Go.Proofs.Ytbpgbplepebcjaa
open Go.RowKit
open Num Quick

abbrev fa0 : Rat := 3 / 8388608
abbrev fb0 : Rat := 3 / 4194304
theorem in_prod {x y A B : Rat} (hx : InR x A) (hy : InR y B) (hA : 0 ≤ A) : InR (x * y) (A * B) := prod_in hx hy hA
theorem fit_dot {ta tb dx dy e1 e2 d1 d2 R : Rat} (hR : 1 / 4 ≤ R) (hta : InR ta (1 / 2)) (htb : InR tb (1 / 2)) (hdx : InR dx R) (hdy : InR dy R)
    (h1 : InR (d1 - dx) fa0) (h2 : InR (d2 - dy) fa0) (h3 : InR (e1 - (ta * dx - tb * dy)) fb0) (h4 : InR (e2 - (ta * dy + tb * dx)) fb0) :
    InR (e1 * d1 + e2 * d2 - ta * (dx * dx + dy * dy)) (19 * R / 8388608) ∧ InR (e2 * d1 - e1 * d2 - tb * (dx * dx + dy * dy)) (19 * R / 8388608) ∧ InR (d1 * d1 + d2 * d2 - (dx * dx + dy * dy)) (13 * R / 8388608) := by
  have hR0 : 0 ≤ R := by grind
  have a0 : (0 : Rat) ≤ fa0 := by decide +kernel
  have b0 : (0 : Rat) ≤ fb0 := by decide +kernel
  obtain ⟨α, eα⟩ : ∃ α, d1 - dx = α := ⟨_, rfl⟩
  obtain ⟨γ, eγ⟩ : ∃ γ, d2 - dy = γ := ⟨_, rfl⟩
  obtain ⟨β, eβ⟩ : ∃ β, e1 - (ta * dx - tb * dy) = β := ⟨_, rfl⟩
  obtain ⟨δ, eδ⟩ : ∃ δ, e2 - (ta * dy + tb * dx) = δ := ⟨_, rfl⟩
  rw [eα] at h1
  rw [eγ] at h2
  rw [eβ] at h3
  rw [eδ] at h4
  have q0 : (0 : Rat) ≤ 1 / 2 := by decide +kernel
  have p1 := in_prod hta hdx q0
  have p2 := in_prod htb hdy q0
  have p3 := in_prod hta hdy q0
  have p4 := in_prod htb hdx q0
  obtain ⟨ex, eex⟩ : ∃ ex, ta * dx - tb * dy = ex := ⟨_, rfl⟩
  obtain ⟨ey, eey⟩ : ∃ ey, ta * dy + tb * dx = ey := ⟨_, rfl⟩
  have hex : InR ex R := by unfold InR at *; grind
  have hey : InR ey R := by unfold InR at *; grind
  have r1 := in_prod hex h1 hR0
  have r2 := in_prod hey h2 hR0
  have r3 := in_prod h3 hdx b0
  have r4 := in_prod h4 hdy b0
  have r5 := in_prod h3 h1 b0
  have r6 := in_prod h4 h2 b0
  have s1 := in_prod hey h1 hR0
  have s2 := in_prod hex h2 hR0
  have s3 := in_prod h4 hdx b0
  have s4 := in_prod h3 hdy b0
  have s5 := in_prod h4 h1 b0
  have s6 := in_prod h3 h2 b0
  have t1 := in_prod hdx h1 hR0
  have t2 := in_prod hdy h2 hR0
  have t3 := in_prod h1 h1 a0
  have t4 := in_prod h2 h2 a0
  have c1 : fb0 * fa0 ≤ 1 / 8388608 / 16 := by decide +kernel
  have c2 : fa0 * fa0 ≤ 1 / 8388608 / 16 := by decide +kernel
  have f1 : e1 * d1 + e2 * d2 - ta * (dx * dx + dy * dy) = ex * α + β * dx + β * α + (ey * γ + δ * dy + δ * γ) := by grind
  have f2 : e2 * d1 - e1 * d2 - tb * (dx * dx + dy * dy) = ey * α + δ * dx + δ * α - (ex * γ + β * dy + β * γ) := by grind
  have f3 : d1 * d1 + d2 * d2 - (dx * dx + dy * dy) = 2 * (dx * α) + α * α + (2 * (dy * γ) + γ * γ) := by grind
  rw [f1, f2, f3]
  clear f1 f2 f3 eα eγ eβ eδ eex eey p1 p2 p3 p4
  unfold InR at *
  have g1 : R * fa0 = 3 * R / 8388608 := by grind
  have g2 : fb0 * R = 6 * R / 8388608 := by grind
  rw [g1] at r1 r2 s1 s2 t1 t2
  rw [g2] at r3 r4 s3 s4
  refine ⟨⟨by grind, by grind⟩, ⟨by grind, by grind⟩, ⟨by grind, by grind⟩⟩
/-- Rounding under a power of two. -/
theorem near_R {v : Rat} {w : Nat} {F : Int} (h : FR .f32 v w) (h1 : -30 ≤ F) (h2 : F ≤ 30) (hv : InR v (p2 F * p2 F)) : InR (Num.fv .f32 w - v) (p2 F * p2 F / 16777216) := by
  have e : p2 (2 * F) = p2 F * p2 F := by rw [← p2_add]; congr 1; omega
  have e2 : p2 (2 * F - 24) = p2 F * p2 F / 16777216 := by
    have : p2 (2 * F) = p2 (2 * F - 24) * p2 24 := by rw [← p2_add]; congr 1; omega
    have h24 : p2 24 = 16777216 := by decide +kernel
    rw [h24] at this
    rw [← e, this]
    grind
  have := near_by h (2 * F) (by omega) (by omega) e e2 hv
  unfold InR
  constructor <;> grind
theorem near_R2 {v : Rat} {w : Nat} {F : Int} (h : FR .f32 v w) (h1 : -30 ≤ F) (h2 : F ≤ 30) (hv : InR v (2 * (p2 F * p2 F))) : InR (Num.fv .f32 w - v) (p2 F * p2 F / 8388608) := by
  have e1 : p2 1 = 2 := by decide +kernel
  have e : p2 (2 * F + 1) = 2 * (p2 F * p2 F) := by
    have : p2 (2 * F + 1) = p2 F * p2 F * p2 1 := by rw [← p2_add, ← p2_add]; congr 1; omega
    rw [this, e1]; grind
  have e2 : p2 (2 * F + 1 - 24) = p2 F * p2 F / 8388608 := by
    have : p2 F * p2 F = p2 (2 * F + 1 - 24) * p2 23 := by rw [← p2_add, ← p2_add]; congr 1; omega
    have h23 : p2 23 = 8388608 := by decide +kernel
    rw [h23] at this
    rw [this]
    grind
  have := near_by h (2 * F + 1) (by omega) (by omega) e e2 hv
  unfold InR
  constructor <;> grind
theorem R_lo {F : Int} (h1 : -2 ≤ F) : 1 / 4 ≤ p2 F := by
  have := p2_le h1
  have e : p2 (-2) = 1 / 4 := by decide +kernel
  rwa [e] at this
theorem R_hi {F : Int} (h1 : F ≤ 4) : p2 F ≤ 16 := by
  have := p2_le h1
  have e : p2 4 = 16 := by decide +kernel
  rwa [e] at this
theorem R_sq {F : Int} (h1 : -2 ≤ F) (h2 : F ≤ 4) : p2 F / 4 ≤ p2 F * p2 F ∧ p2 F * p2 F ≤ 16 * p2 F := by
  have a := R_lo h1
  have b := R_hi h2
  have h := Rat.mul_nonneg (show 0 ≤ p2 F - 1 / 4 by grind) (show 0 ≤ p2 F by grind)
  have h' := Rat.mul_nonneg (show 0 ≤ 16 - p2 F by grind) (show 0 ≤ p2 F by grind)
  constructor <;> grind
/-- The sums behind k points. -/
structure FitS (ta tb R S : Rat) (k : Nat) (x y b : Nat) : Prop where
  fx : Fl .f32 x
  fy : Fl .f32 y
  fb : Fl .f32 b
  ix : InR (Num.fv .f32 x - ta * S) ((k : Int) * (35 * R / 8388608))
  iy : InR (Num.fv .f32 y - tb * S) ((k : Int) * (35 * R / 8388608))
  ib : InR (Num.fv .f32 b - S) ((k : Int) * (45 * R / 8388608))
set_option maxHeartbeats 1000000 in
theorem fit_step {F : Int} (hF1 : -2 ≤ F) (hF2 : F ≤ 4) {ta tb dx dy S : Rat} {e1 e2 d1 d2 k x y b p q r x' y' b' : Nat} (hk : k ≤ 6) (hta : InR ta (1 / 2)) (htb : InR tb (1 / 2)) (hdx : InR dx (p2 F)) (hdy : InR dy (p2 F)) (hS : 0 ≤ S) (hS2 : S + (dx * dx + dy * dy) ≤ p2 F * p2 F)
    (h1 : InR (Num.fv .f32 d1 - dx) fa0) (h2 : InR (Num.fv .f32 d2 - dy) fa0) (h3 : InR (Num.fv .f32 e1 - (ta * dx - tb * dy)) fb0) (h4 : InR (Num.fv .f32 e2 - (ta * dy + tb * dx)) fb0)
    (hp : FR .f32 (Num.fv .f32 e1 * Num.fv .f32 d1 + Num.fv .f32 e2 * Num.fv .f32 d2) p) (hq : FR .f32 (Num.fv .f32 e2 * Num.fv .f32 d1 - Num.fv .f32 e1 * Num.fv .f32 d2) q) (hr : FR .f32 (Num.fv .f32 d1 * Num.fv .f32 d1 + Num.fv .f32 d2 * Num.fv .f32 d2) r)
    (H : FitS ta tb (p2 F) S k x y b) (hx : FR .f32 (Num.fv .f32 x + Num.fv .f32 p) x') (hy : FR .f32 (Num.fv .f32 y + Num.fv .f32 q) y') (hb : FR .f32 (Num.fv .f32 b + Num.fv .f32 r) b') :
    FitS ta tb (p2 F) (S + (dx * dx + dy * dy)) (k + 1) x' y' b' := by
  obtain ⟨g1, g2, g3⟩ := fit_dot (R_lo hF1) hta htb hdx hdy h1 h2 h3 h4
  obtain ⟨fx, fy, fb, ix, iy, ib⟩ := H
  have lo := R_lo hF1
  have hi := R_hi hF2
  have sq := R_sq hF1 hF2
  have dd : 0 ≤ dx * dx + dy * dy := by have := rsq_nn dx; have := rsq_nn dy; grind
  obtain ⟨D, eD⟩ : ∃ D, dx * dx + dy * dy = D := ⟨_, rfl⟩
  rw [eD] at hS2 g1 g2 g3 dd ⊢
  clear eD hdx hdy h1 h2 h3 h4
  have q0 : (0 : Rat) ≤ 1 / 2 := by decide +kernel
  have tS := in_prod hta (show InR (S + D) (p2 F * p2 F) by unfold InR; constructor <;> grind) q0
  have tS2 := in_prod htb (show InR (S + D) (p2 F * p2 F) by unfold InR; constructor <;> grind) q0
  have tD := in_prod hta (show InR D (p2 F * p2 F) by unfold InR; constructor <;> grind) q0
  have tD2 := in_prod htb (show InR D (p2 F * p2 F) by unfold InR; constructor <;> grind) q0
  have hkq : (((k : Nat) : Int) : Rat) ≤ ((6 : Int) : Rat) := Rat.intCast_le_intCast.2 (by omega)
  have e6 : ((6 : Int) : Rat) = 6 := rfl
  have hk0 : ((0 : Int) : Rat) ≤ (((k : Nat) : Int) : Rat) := Rat.intCast_le_intCast.2 (by omega)
  have e0 : ((0 : Int) : Rat) = 0 := rfl
  rw [e6] at hkq
  rw [e0] at hk0
  have ek : (((k + 1 : Nat) : Int) : Rat) = (((k : Nat) : Int) : Rat) + 1 := by
    rw [show ((k + 1 : Nat) : Int) = (k : Int) + 1 from by simp, Rat.intCast_add]; rfl
  obtain ⟨κ, eκ⟩ : ∃ κ, (((k : Nat) : Int) : Rat) = κ := ⟨_, rfl⟩
  rw [eκ] at ix iy ib hkq hk0
  rw [eκ] at ek
  have m1 := Rat.mul_nonneg (show 0 ≤ 6 - κ by grind) (show 0 ≤ p2 F by grind)
  have m2 := Rat.mul_nonneg hk0 (show 0 ≤ p2 F by grind)
  have dS : ta * (S + D) = ta * S + ta * D := Rat.mul_add _ _ _
  have dS2 : tb * (S + D) = tb * S + tb * D := Rat.mul_add _ _ _
  rw [dS] at tS
  rw [dS2] at tS2
  have kR : κ * (35 * p2 F / 8388608) = 35 * (κ * p2 F) / 8388608 := by grind
  have kR2 : κ * (45 * p2 F / 8388608) = 45 * (κ * p2 F) / 8388608 := by grind
  have kR3 : (κ + 1) * (35 * p2 F / 8388608) = 35 * (κ * p2 F) / 8388608 + 35 * p2 F / 8388608 := by grind
  have kR4 : (κ + 1) * (45 * p2 F / 8388608) = 45 * (κ * p2 F) / 8388608 + 45 * p2 F / 8388608 := by grind
  have m1' : κ * p2 F ≤ 6 * p2 F := by grind
  rw [kR] at ix iy
  rw [kR2] at ib
  have NP := fun h => near_R hp (F := F) (by omega) (by omega) h
  have NQ := fun h => near_R hq (F := F) (by omega) (by omega) h
  have NR := fun h => near_R2 hr (F := F) (by omega) (by omega) h
  have NX := fun h => near_R hx (F := F) (by omega) (by omega) h
  have NY := fun h => near_R hy (F := F) (by omega) (by omega) h
  have NB := fun h => near_R2 hb (F := F) (by omega) (by omega) h
  refine ⟨hx.fin, hy.fin, hb.fin, ?_, ?_, ?_⟩
  · rw [ek, kR3, dS]
    clear hp hq hr hx hy hb m1 kR kR2 kR3 kR4 fx fy fb hF1 hF2 hk e6 e0 ek eκ dS dS2
    clear NQ NR NY NB g2 g3 iy ib tS2 tD2
    generalize Num.fv .f32 e1 * Num.fv .f32 d1 + Num.fv .f32 e2 * Num.fv .f32 d2 = P at *
    generalize κ * p2 F = κR at *
    generalize p2 F * p2 F = RR at *
    generalize p2 F = R at *
    generalize ta * S = tS' at *
    generalize ta * D = tD' at *
    generalize Num.fv .f32 p = vp at *
    generalize Num.fv .f32 x = vx at *
    generalize Num.fv .f32 x' = vx' at *
    unfold InR at *
    have np := NP ⟨by grind, by grind⟩
    have nx := NX ⟨by grind, by grind⟩
    constructor <;> grind
  · rw [ek, kR3, dS2]
    clear hp hq hr hx hy hb m1 kR kR2 kR3 kR4 fx fy fb hF1 hF2 hk e6 e0 ek eκ dS dS2
    clear NP NR NX NB g1 g3 ix ib tS tD
    generalize Num.fv .f32 e2 * Num.fv .f32 d1 - Num.fv .f32 e1 * Num.fv .f32 d2 = P at *
    generalize κ * p2 F = κR at *
    generalize p2 F * p2 F = RR at *
    generalize p2 F = R at *
    generalize tb * S = tS' at *
    generalize tb * D = tD' at *
    generalize Num.fv .f32 q = vp at *
    generalize Num.fv .f32 y = vx at *
    generalize Num.fv .f32 y' = vx' at *
    unfold InR at *
    have np := NQ ⟨by grind, by grind⟩
    have nx := NY ⟨by grind, by grind⟩
    constructor <;> grind
  · rw [ek, kR4]
    clear hp hq hr hx hy hb m1 kR kR2 kR3 kR4 fx fy fb hF1 hF2 hk e6 e0 ek eκ dS dS2
    clear NP NQ NX NY g1 g2 ix iy tS tD tS2 tD2 hta htb
    generalize Num.fv .f32 d1 * Num.fv .f32 d1 + Num.fv .f32 d2 * Num.fv .f32 d2 = P at *
    generalize κ * p2 F = κR at *
    generalize p2 F * p2 F = RR at *
    generalize p2 F = R at *
    generalize Num.fv .f32 r = vp at *
    generalize Num.fv .f32 b = vx at *
    generalize Num.fv .f32 b' = vx' at *
    unfold InR at *
    have np := NR ⟨by grind, by grind⟩
    have nx := NB ⟨by grind, by grind⟩
    constructor <;> grind
end Go.Proofs.Ytbpgbplepebcjaa
