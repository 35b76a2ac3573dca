/- Plain law: heights from 0 to 1, and led back, nearly; gaps. Conditions: heights in quarters, at most 4. -/
import Derived.Test.YtoibgpmpngccjaaSll
import Derived.Test.YtoibgpmpngccjaaSlf
namespace Go.Proofs.Ytoibgpmpngccjaa
open Go.RowKit
open Num Quick

theorem cast_le' {a b : Int} (h : a ≤ b) : (a : Rat) ≤ (b : Rat) := Rat.intCast_le_intCast.2 h
theorem list_of (N : Nat) (p : Nat → Nat → Prop) (h : ∀ k, k < N → ∃ y, p k y) : ∃ ys : List Nat, ys.length = N ∧ ∀ k, k < N → p k (ys.getD k 0) := by
  induction N with
  | zero => exact ⟨[], rfl, fun k hk => absurd hk (by omega)⟩
  | succ n ih =>
    obtain ⟨ys, hl, hy⟩ := ih (fun k hk => h k (by omega))
    obtain ⟨y, h1⟩ := h n (by omega)
    refine ⟨ys ++ [y], by simp [hl], fun k hk => ?_⟩
    rw [List.getD_eq_getElem?_getD]
    by_cases c : k < n
    · rw [List.getElem?_append_left (by omega), ← List.getD_eq_getElem?_getD]
      exact hy k c
    · have : k = n := by omega
      subst this
      rw [List.getElem?_append_right (by omega)]
      simp [hl]
      exact h1
/-- A height set between the least and the greatest one. -/
theorem norm_one {m l h : Int} {u d : Nat} (hu : Gn 2 (m - l) u) (hd : Gn 2 (h - l) d) (h1 : l ≤ m) (h2 : m ≤ h) (h3 : l < h) (h4 : (h - l).natAbs ≤ 32) :
    ∃ y, floatBits .quo .f32 u d = some y ∧ Fl .f32 y ∧ 0 ≤ Num.fv .f32 y ∧ Num.fv .f32 y ≤ 1 ∧ (m = l → Num.fv .f32 y = 0) ∧ (m = h → Num.fv .f32 y = 1) ∧
      ∃ p q r, floatBits .mul .f32 d y = some p ∧ floatBits .mul .f32 0 y = some q ∧ floatBits .add .f32 p q = some r ∧ Fl .f32 r ∧ InR (Num.fv .f32 r - Num.fv .f32 u) dl := by
  obtain ⟨U, eU⟩ : ∃ U, Num.fv .f32 u = U := ⟨_, rfl⟩
  obtain ⟨D, eD⟩ : ∃ D, Num.fv .f32 d = D := ⟨_, rfl⟩
  have vu := hu.val
  have vd := hd.val
  have p4 : ((2 ^ 2 : Nat) : Rat) = 4 := rfl
  rw [eU, p4] at vu
  rw [eD, p4] at vd
  have a1 : (0 : Rat) ≤ ((m - l : Int) : Rat) := cast_le' (a := 0) (by omega)
  have a2 : ((m - l : Int) : Rat) ≤ ((h - l : Int) : Rat) := cast_le' (by omega)
  have a3 : (1 : Rat) ≤ ((h - l : Int) : Rat) := cast_le' (a := 1) (by omega)
  have a4 : ((h - l : Int) : Rat) ≤ 32 := cast_le' (b := 32) (by omega)
  have u0 : 0 ≤ U := by grind
  have ud : U ≤ D := by grind
  have d0 : 1 / 4 ≤ D := by grind
  have d8 : D ≤ 8 := by grind
  have dp : 0 < D := by grind
  have q1 : U / D * D = U := by grind
  have hq0 : 0 ≤ U / D := by
    have hi : 0 < D⁻¹ := Rat.inv_pos.2 dp
    rw [Rat.div_def]
    exact Rat.mul_nonneg u0 (Rat.le_of_lt hi)
  have hq1 : U / D ≤ 1 := by
    refine rat_cancel dp ?_
    rw [q1, Rat.one_mul]
    exact ud
  have t : (1000 : Rat) ≤ top := by decide +kernel
  obtain ⟨T, eT⟩ : ∃ T : Rat, top = T := ⟨_, rfl⟩
  rw [eT] at t
  obtain ⟨y, y1, y2⟩ := fdiv hu.fin hd.fin (by rw [eD]; grind) (by rw [eU, eD, eT]; grind) (by rw [eU, eD, eT]; grind)
  rw [eU, eD] at y2
  have y0 : 0 ≤ Num.fv .f32 y := y2.ge_int 0 (by decide) hq0
  have y3 : Num.fv .f32 y ≤ 1 := y2.le_int 1 (by decide) hq1
  obtain ⟨Q, eQ⟩ : ∃ Q, U / D = Q := ⟨_, rfl⟩
  rw [eQ] at q1 hq0 hq1 y2
  have n1 := near_to y2 0 (by decide) (by decide) (show p2 0 = 1 by decide +kernel) (show p2 (0 - 24) = 1 / 16777216 by decide +kernel) ⟨hq1, by grind⟩
  refine ⟨y, y1, y2.fin, y0, y3, fun e => ?_, fun e => ?_, ?_⟩
  · have : Q = 0 := by
      have : ((m - l : Int) : Rat) = 0 := by rw [e, Int.sub_self]; rfl
      have : U = 0 := by grind
      rw [← eQ, this]
      grind
    have := y2.le_int 0 (by decide) (by rw [this]; exact Rat.le_refl)
    have e0 : ((0 : Int) : Rat) = 0 := rfl
    rw [e0] at this
    exact Rat.le_antisymm this y0
  · have : Q = 1 := by
      have : U = D := by rw [vu, vd, e]
      rw [← eQ, this]
      grind
    have := y2.ge_int 1 (by decide) (by rw [this]; exact Rat.le_refl)
    have e0 : ((1 : Int) : Rat) = 1 := rfl
    rw [e0] at this
    exact Rat.le_antisymm y3 this
  · obtain ⟨Y, eY⟩ : ∃ Y, Num.fv .f32 y = Y := ⟨_, rfl⟩
    rw [eY] at y0 y3 n1
    have b1 := mul_box (x := D) (y := Y) (X := 8) (Y := 1) (by grind) d8 y0 y3
    obtain ⟨P, eP⟩ : ∃ P, D * Y = P := ⟨_, rfl⟩
    have b2 : InR (D * (Y - Q)) (8 * (1 / 16777216)) := prod_in ⟨d8, by grind⟩ (by unfold InR; constructor <;> grind) (by decide +kernel)
    have b3 : D * (Y - Q) = P - U := by grind
    rw [b3] at b2
    rw [eP] at b1
    have i8 : InR P 8 := by unfold InR; constructor <;> grind
    obtain ⟨p, p1, p2'⟩ := fmul hd.fin y2.fin (by rw [eD, eY, eP, eT]; grind) (by rw [eD, eY, eP, eT]; grind)
    rw [eD, eY, eP] at p2'
    have n2 := near_to p2' 3 (by decide) (by decide) (show p2 3 = 8 by decide +kernel) (show p2 (3 - 24) = 1 / 2097152 by decide +kernel) i8
    obtain ⟨q, q1', q2'⟩ := fmul c0.1 y2.fin (by rw [c0.2, Rat.zero_mul, eT]; grind) (by rw [c0.2, Rat.zero_mul, eT]; grind)
    rw [c0.2, Rat.zero_mul] at q2'
    have hq : Num.fv .f32 q = 0 := by
      have z1 := q2'.le_int 0 (by decide) Rat.le_refl
      have z2 := q2'.ge_int 0 (by decide) Rat.le_refl
      exact Rat.le_antisymm z1 z2
    obtain ⟨V, eV⟩ : ∃ V, Num.fv .f32 p = V := ⟨_, rfl⟩
    rw [eV] at n2
    obtain ⟨r, r1, r2⟩ := fadd p2'.fin q2'.fin (by rw [eV, hq, eT]; unfold InR at i8; grind) (by rw [eV, hq, eT]; unfold InR at i8; grind)
    rw [eV, hq, Rat.add_zero] at r2
    have er : Num.fv .f32 r = V := r2.exact _ (by rw [← eV]; exact rep_val _ p2'.fin)
    refine ⟨p, q, r, p1, q1', r1, r2.fin, ?_⟩
    rw [er, eU]
    have : dl = 1 / 1048576 := rfl
    unfold InR at *
    constructor <;> grind
/-- A gap that is small. -/
theorem gap_calls {a b : Nat} (ha : Fl .f64 a) (hb : Fl .f64 b) (h : InR (Num.fv .f64 a - Num.fv .f64 b) (1 / 128)) : ∃ g, (∀ w : World, Calls Try.prog 15 #[.float .f64 a, .float .f64 b] w fun e w' => e = .returned (.float .f64 g) ∧ w' = w) ∧ (FloatKind.f64.format.order g 4576918229304087675 == some .gt) = false := by
  have t : (1 / 128 : Rat) ≤ top := by decide +kernel
  have cc : Fl .f64 4576918229304087675 ∧ (1 / 128 : Rat) ≤ Num.fv .f64 4576918229304087675 := by
    refine ⟨?_, ?_⟩
    · show (4576918229304087675 : Nat) % FloatKind.f64.format.signWeight < FloatKind.f64.format.infRung
      decide +kernel
    · unfold Num.fv val rv p2
      decide +kernel
  have hr : Rep FloatKind.f64.format (1 / 128) := by
    have := rep_frac .f64 1 7 (by decide) (by decide)
    exact this
  have key : ∀ v g, v ≤ 1 / 128 → Num.FR .f64 v g → (FloatKind.f64.format.order g 4576918229304087675 == some .gt) = false := fun v g hv hg =>
    (le_cmp hg.fin cc.1 (Rat.le_trans (hg.le _ hr hv) cc.2)).2
  unfold InR at h
  by_cases c : Num.fv .f64 a < Num.fv .f64 b
  · have c1 := (lt_cmp ha hb c).1
    obtain ⟨g, g1, g2⟩ := fsub hb ha (by generalize top = T at *; grind) (by generalize top = T at *; grind)
    have r1 := r64 g1
    refine ⟨g, fun w => ?_, key _ _ (by grind) g2⟩
    clear g1 g2 key hr cc t h ha hb c
    go_enter Try.func15, Try.ntmps15
    go_wp2
    go_ret
    exact ⟨rfl, rfl⟩
  · have c1 := not_lt_cmp ha hb (Rat.not_lt.1 c)
    obtain ⟨g, g1, g2⟩ := fsub ha hb (by generalize top = T at *; grind) (by generalize top = T at *; grind)
    have r1 := r64 g1
    refine ⟨g, fun w => ?_, key _ _ (by grind) g2⟩
    clear g1 g2 key hr cc t h ha hb c
    go_enter Try.func15, Try.ntmps15
    go_wp2
    go_ret
    exact ⟨rfl, rfl⟩
end Go.Proofs.Ytoibgpmpngccjaa
