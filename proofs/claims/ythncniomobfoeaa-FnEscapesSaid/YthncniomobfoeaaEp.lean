/- Plain law with contracts: a step backwards, and that the square leads back, nearly. Conditions: numbers of middling size. -/
import Derived.Test.YthncniomobfoeaaEo
namespace Go.Proofs.Ythncniomobfoeaa
open Go.RowKit
open Num Quick Circ

theorem repS' {m : Int} {n : Nat} {v : Rat} (hm : m.natAbs ≤ 16777216) (hn : n ≤ 149) (e : (m : Rat) / ((2 ^ n : Nat) : Rat) = v) : Rep FloatKind.f32.format v ∧ Rep FloatKind.f32.format (-v) := ⟨repS hm hn e, (repS hm hn e).neg⟩
theorem c001 : Fl .f64 4576918229304087675 ∧ 99 / 10000 ≤ Num.fv .f64 4576918229304087675 := by
  refine ⟨?_, ?_⟩
  · show (4576918229304087675 : Nat) % FloatKind.f64.format.signWeight < FloatKind.f64.format.infRung
    decide +kernel
  · unfold Num.fv val rv p2
    decide +kernel
/-- A number from which the square leads back to z, nearly. -/
structure Led (p q z1 z2 x y : Nat) : Prop where
  cb : Cb ((3 : Nat) : Rat) (x, y)
  w32 : W32 (x, y)
  pow : Num.fv .f32 x * Num.fv .f32 x + Num.fv .f32 y * Num.fv .f32 y ≤ 81 / 10
  once : ∃ r1 r2, (∀ w : World, Calls Try.prog 35 #[mapV 0 (p, q), .complex .f32 x y] w fun e w' => e = .returned (.complex .f32 r1 r2) ∧ Below w.heap.size w w') ∧ Cb ((110 : Nat) : Rat) (r1, r2) ∧
    ∃ dx dy, (∀ w : World, (binOp .sub 25 (.complex .f32 r1 r2) (.complex .f32 z1 z2)).run Try.prog w = .ok (.complex .f32 dx dy) w) ∧ Short 4576918229304087675 dx dy
set_option maxHeartbeats 1000000 in
theorem led_of {p q z1 z2 x y : Nat} {d1 d2 : Rat} (hc : Cb ((2 : Nat) : Rat) (p, q)) (hz1 : Fl .f32 z1) (hz2 : Fl .f32 z2) (iz1 : InR (Num.fv .f32 z1) 3) (iz2 : InR (Num.fv .f32 z2) 3) (hx : Fl .f32 x) (hy : Fl .f32 y) (lx : x < 4294967296) (ly : y < 4294967296)
    (ix : InR (Num.fv .f32 x) (5 / 2)) (iy : InR (Num.fv .f32 y) (5 / 2)) (hp : Num.fv .f32 x * Num.fv .f32 x + Num.fv .f32 y * Num.fv .f32 y ≤ 6)
    (k1 : InR (Num.fv .f32 x * Num.fv .f32 x - Num.fv .f32 y * Num.fv .f32 y - d1) (1 / 100000)) (k2 : InR (2 * (Num.fv .f32 x * Num.fv .f32 y) - d2) (76 / 10000))
    (k3 : InR (d1 - (Num.fv .f32 z1 - Num.fv .f32 p)) (1 / 2097152)) (k4 : InR (d2 - (Num.fv .f32 z2 - Num.fv .f32 q)) (1 / 2097152)) : Led p q z1 z2 x y := by
  have e3 : ((3 : Nat) : Rat) = 3 := rfl
  have hz : Cb ((3 : Nat) : Rat) (x, y) := ⟨hx, hy, by rw [e3]; exact in_le ix (by decide +kernel), by rw [e3]; exact in_le iy (by decide +kernel)⟩
  obtain ⟨⟨m1, m2⟩, M, fm1, fm2, cm⟩ := mul_cb hz hz (by omega) (by omega)
  obtain ⟨⟨r1, r2⟩, A, fr1, fr2, cr⟩ := add_cb cm hc (by omega)
  refine ⟨hz, ⟨lx, ly⟩, by grind, r1, r2, fun w => square_once M A w, cr.mono (Rat.natCast_le_natCast.2 (by omega)), ?_⟩
  have hP := hc.2.2.1
  have hQ := hc.2.2.2
  have e2 : ((2 : Nat) : Rat) = 2 := rfl
  rw [e2] at hP hQ
  simp only at fm1 fm2 fr1 fr2 hP hQ
  obtain ⟨X, eX⟩ : ∃ X, Num.fv .f32 x = X := ⟨_, rfl⟩
  obtain ⟨Y, eY⟩ : ∃ Y, Num.fv .f32 y = Y := ⟨_, rfl⟩
  obtain ⟨P, eP⟩ : ∃ P, Num.fv .f32 p = P := ⟨_, rfl⟩
  obtain ⟨Q, eQ⟩ : ∃ Q, Num.fv .f32 q = Q := ⟨_, rfl⟩
  obtain ⟨Z1, eZ1⟩ : ∃ Z, Num.fv .f32 z1 = Z := ⟨_, rfl⟩
  obtain ⟨Z2, eZ2⟩ : ∃ Z, Num.fv .f32 z2 = Z := ⟨_, rfl⟩
  rw [eX, eY] at fm1 fm2 hp k1 k2
  rw [eX] at ix
  rw [eY] at iy
  rw [eP] at hP fr1 k3
  rw [eQ] at hQ fr2 k4
  rw [eZ1] at k3 iz1
  rw [eZ2] at k4 iz2
  have nx := rsq_nn X
  have ny := rsq_nn Y
  have exy : X * Y + Y * X = 2 * (X * Y) := by grind
  rw [exy] at fm2
  have pxy := prod_in ix iy (by decide +kernel)
  obtain ⟨S1, eS1⟩ : ∃ S, X * X - Y * Y = S := ⟨_, rfl⟩
  obtain ⟨S2, eS2⟩ : ∃ S, X * Y = S := ⟨_, rfl⟩
  have bS1 : InR S1 6 := by rw [← eS1]; unfold InR; constructor <;> grind
  rw [eS1] at fm1 k1
  rw [eS2] at fm2 k2 pxy
  have bS2 : InR (2 * S2) 13 := by unfold InR at *; constructor <;> grind
  have n1 := nearE fm1 4 (by decide) (by decide) (show p2 4 = 16 by decide +kernel) (show p2 (4 - 24) = 1 / 1048576 by decide +kernel) (in_le bS1 (by decide +kernel))
  have n2 := nearE fm2 4 (by decide) (by decide) (show p2 4 = 16 by decide +kernel) (show p2 (4 - 24) = 1 / 1048576 by decide +kernel) (in_le bS2 (by decide +kernel))
  obtain ⟨M1, eM1⟩ : ∃ M, Num.fv .f32 m1 = M := ⟨_, rfl⟩
  obtain ⟨M2, eM2⟩ : ∃ M, Num.fv .f32 m2 = M := ⟨_, rfl⟩
  rw [eM1] at n1 fr1
  rw [eM2] at n2 fr2
  have n3 := nearE fr1 4 (by decide) (by decide) (show p2 4 = 16 by decide +kernel) (show p2 (4 - 24) = 1 / 1048576 by decide +kernel) (by unfold InR at *; constructor <;> grind)
  have n4 := nearE fr2 4 (by decide) (by decide) (show p2 4 = 16 by decide +kernel) (show p2 (4 - 24) = 1 / 1048576 by decide +kernel) (by unfold InR at *; constructor <;> grind)
  obtain ⟨R1, eR1⟩ : ∃ M, Num.fv .f32 r1 = M := ⟨_, rfl⟩
  obtain ⟨R2, eR2⟩ : ∃ M, Num.fv .f32 r2 = M := ⟨_, rfl⟩
  rw [eR1] at n3
  rw [eR2] at n4
  have w1 : InR (R1 - Z1) (1 / 32768) := by unfold InR at *; constructor <;> grind
  have w2 : InR (R2 - Z2) (1 / 128) := by unfold InR at *; constructor <;> grind
  have t : (100 : Rat) ≤ top := by decide +kernel
  obtain ⟨T, eT⟩ : ∃ T : Rat, top = T := ⟨_, rfl⟩
  rw [eT] at t
  obtain ⟨dx, a1, a2⟩ := fsub fr1.fin hz1 (by rw [eR1, eZ1, eT]; unfold InR at w1; grind) (by rw [eR1, eZ1, eT]; unfold InR at w1; grind)
  obtain ⟨dy, b1, b2⟩ := fsub fr2.fin hz2 (by rw [eR2, eZ2, eT]; unfold InR at w2; grind) (by rw [eR2, eZ2, eT]; unfold InR at w2; grind)
  rw [eR1, eZ1] at a2
  rw [eR2, eZ2] at b2
  obtain ⟨q1, q2⟩ := repS' (m := 1) (n := 15) (v := 1 / 32768) (by decide) (by decide) (by decide +kernel)
  obtain ⟨q3, q4⟩ := repS' (m := 1) (n := 7) (v := 1 / 128) (by decide) (by decide) (by decide +kernel)
  have x1 : InR (Num.fv .f32 dx) (1 / 32768) := ⟨a2.le _ q1 w1.1, a2.ge _ q2 w1.2⟩
  have y1 : InR (Num.fv .f32 dy) (1 / 128) := ⟨b2.le _ q3 w2.1, b2.ge _ q4 w2.2⟩
  refine ⟨dx, dy, rCSub a1 b1, ?_⟩
  have hm : (1 : Rat) ≤ mid := by decide +kernel
  obtain ⟨l, l1, l2⟩ := long_num a2.fin b2.fin (in_le x1 (by grind)) (in_le y1 (by grind))
  have s1 := prod_in x1 x1 (by decide +kernel)
  have s2 := prod_in y1 y1 (by decide +kernel)
  have hl : Num.fv .f32 l ≤ 17 / 2048 := l2.le _ (repS (m := 17) (n := 11) (by decide) (by decide) rfl) (by decide +kernel) (by
    have e1 : (1 / 32768 : Rat) * (1 / 32768) = 1 / 1073741824 := by decide +kernel
    have e2 : (1 / 128 : Rat) * (1 / 128) = 1 / 16384 := by decide +kernel
    have e3 : (17 / 2048 : Rat) * (17 / 2048) = 289 / 4194304 := by decide +kernel
    rw [e1] at s1
    rw [e2] at s2
    rw [e3]
    unfold InR at s1 s2
    grind)
  obtain ⟨v, v1, v2, _, v4⟩ := fwide l2.fin
  refine ⟨l, v, l1, v1, ?_⟩
  exact (le_cmp v2 c001.1 (by rw [v4]; have := c001.2; grind)).2
end Go.Proofs.Ythncniomobfoeaa
