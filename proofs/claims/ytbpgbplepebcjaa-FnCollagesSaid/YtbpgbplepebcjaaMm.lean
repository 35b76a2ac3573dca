/- Plain law with the walks' contracts: small maps on grids are exact: forwards, backwards, joined. -/
import Derived.Test.YtbpgbplepebcjaaMl
namespace Go.Proofs.Ytbpgbplepebcjaa
open Go.RowKit
open Num Quick

/-- A finite single on a grid. -/
structure GF (n : Nat) (B : Int) (w : Nat) : Prop where
  fin : Fl .f32 w
  lt : w < 4294967296
  gr : Gr n B (Num.fv .f32 w)
theorem GF.low {n : Nat} {B : Int} {w : Nat} (h : GF n B w) (hB : B ≤ 1000 * 2 ^ n) : InR (Num.fv .f32 w) 1000 := h.gr.bound (C := 1000) hB
theorem in_low {x : Rat} (h : InR x 1000) : InR x mid := in_mono h (by decide +kernel)
theorem in_lowM {x : Rat} (h : InR x 1000) : InR x lowM := in_mono h (by decide +kernel)
theorem in_top {x : Rat} (h : InR x lowM) : InR x top := in_mono h (by decide +kernel)
theorem GF.flip {n : Nat} {B : Int} {w : Nat} (fl : Bool) (h : GF n B w) : GF n B (flipN fl w) ∧ Num.fv .f32 (flipN fl w) = (if fl then -Num.fv .f32 w else Num.fv .f32 w) := by
  have := flipN_num fl h.fin h.lt
  refine ⟨⟨this.1, this.2.2, ?_⟩, this.2.1⟩
  rw [this.2.1]
  cases fl
  · exact h.gr
  · exact h.gr.neg
theorem FR.gf {n : Nat} {B : Int} {x : Rat} {w : Nat} (h : FR .f32 x w) (hx : Gr n B x) (hB : B ≤ 16777216) (hn : n ≤ 149) : GF n B w ∧ Num.fv .f32 w = x := by
  have e := hx.exact h hB hn
  exact ⟨⟨h.fin, h.lt, by rw [e]; exact hx⟩, e⟩
/-- The product of complex numbers on grids. -/
theorem mul_exact {a b x y n k : Nat} {A B : Int} (ha : GF n A a) (hb : GF n A b) (hx : GF k B x) (hy : GF k B y) (hA : A ≤ 1000 * 2 ^ n) (hB : B ≤ 1000 * 2 ^ k) (hAB : A * B + A * B ≤ 16777216) (hn : n + k ≤ 149) :
    ∃ u v, (∀ w : World, Calls Try.prog 48 #[.complex .f32 a b, .complex .f32 x y] w fun e w' => e = .returned (.complex .f32 u v) ∧ w' = w) ∧
      GF (n + k) (A * B + A * B) u ∧ GF (n + k) (A * B + A * B) v ∧ Num.fv .f32 u = Num.fv .f32 a * Num.fv .f32 x - Num.fv .f32 b * Num.fv .f32 y ∧ Num.fv .f32 v = Num.fv .f32 a * Num.fv .f32 y + Num.fv .f32 b * Num.fv .f32 x := by
  obtain ⟨u, v, h1, h2, h3⟩ := mul_num ha.fin hb.fin hx.fin hy.fin (in_low (ha.low hA)) (in_low (hb.low hA)) (in_low (hx.low hB)) (in_low (hy.low hB))
  have g1 := FR.gf h2 ((ha.gr.mul hx.gr).sub (hb.gr.mul hy.gr)) hAB hn
  have g2 := FR.gf h3 ((ha.gr.mul hy.gr).add (hb.gr.mul hx.gr)) hAB hn
  exact ⟨u, v, h1, g1.1, g2.1, g1.2, g2.2⟩
/-- The sum of complex numbers on one grid. -/
theorem add_exact {a b x y n : Nat} {A B : Int} (ha : GF n A a) (hb : GF n A b) (hx : GF n B x) (hy : GF n B y) (hAB : A + B ≤ 16777216) (hn : n ≤ 149) (hin : A + B ≤ 1000 * 2 ^ n) :
    ∃ u v, (∀ w : World, Calls Try.prog 50 #[.complex .f32 a b, .complex .f32 x y] w fun e w' => e = .returned (.complex .f32 u v) ∧ w' = w) ∧
      GF n (A + B) u ∧ GF n (A + B) v ∧ Num.fv .f32 u = Num.fv .f32 a + Num.fv .f32 x ∧ Num.fv .f32 v = Num.fv .f32 b + Num.fv .f32 y := by
  have i1 := in_top (in_lowM ((ha.gr.add hx.gr).bound (C := 1000) hin))
  have i2 := in_top (in_lowM ((hb.gr.add hy.gr).bound (C := 1000) hin))
  obtain ⟨u, v, h1, h2, h3⟩ := add_num ha.fin hb.fin hx.fin hy.fin i1 i2
  have g1 := FR.gf h2 (ha.gr.add hx.gr) hAB hn
  have g2 := FR.gf h3 (hb.gr.add hy.gr) hAB hn
  exact ⟨u, v, h1, g1.1, g2.1, g1.2, g2.2⟩
theorem sub_exact {a b x y n : Nat} {A B : Int} (ha : GF n A a) (hb : GF n A b) (hx : GF n B x) (hy : GF n B y) (hAB : A + B ≤ 16777216) (hn : n ≤ 149) (hin : A + B ≤ 1000 * 2 ^ n) :
    ∃ u v, (∀ w : World, Calls Try.prog 53 #[.complex .f32 a b, .complex .f32 x y] w fun e w' => e = .returned (.complex .f32 u v) ∧ w' = w) ∧
      GF n (A + B) u ∧ GF n (A + B) v ∧ Num.fv .f32 u = Num.fv .f32 a - Num.fv .f32 x ∧ Num.fv .f32 v = Num.fv .f32 b - Num.fv .f32 y := by
  have i1 := in_top (in_lowM ((ha.gr.sub hx.gr).bound (C := 1000) hin))
  have i2 := in_top (in_lowM ((hb.gr.sub hy.gr).bound (C := 1000) hin))
  obtain ⟨u, v, h1, h2, h3⟩ := subtract_num ha.fin hb.fin hx.fin hy.fin i1 i2
  have g1 := FR.gf h2 (ha.gr.sub hx.gr) hAB hn
  have g2 := FR.gf h3 (hb.gr.sub hy.gr) hAB hn
  exact ⟨u, v, h1, g1.1, g2.1, g1.2, g2.2⟩
theorem GF.up {n : Nat} {B C : Int} {w : Nat} (k : Nat) (h : GF n B w) (hC : B * 2 ^ k ≤ C) : GF (n + k) C w := ⟨h.fin, h.lt, (h.gr.up k).mono hC⟩
/-- What a map makes of a number of the grid. -/
theorem maps_exact {a b c d s x y n k l j : Nat} {A B C D E : Int} (fl : Bool) (ha : GF n A a) (hb : GF n A b) (hc : GF l C c) (hd : GF l C d) (hx : GF k B x) (hy : GF k B y)
    (hA : A ≤ 1000 * 2 ^ n) (hB : B ≤ 1000 * 2 ^ k) (hl : l + j = n + k) (hD : C * 2 ^ j ≤ D) (hE : A * B + A * B + D = E) (hE2 : E ≤ 16777216) (hn : n + k ≤ 149) (hin : E ≤ 1000 * 2 ^ (n + k)) (hD0 : 0 ≤ D) :
    ∃ u v, (∀ w : World, Calls Try.prog 45 #[smallV a b c d fl s, .complex .f32 x y] w fun e w' => e = .returned (.complex .f32 u v) ∧ Below w.heap.size w w') ∧ GF (n + k) E u ∧ GF (n + k) E v ∧
      Num.fv .f32 u = Num.fv .f32 a * Num.fv .f32 x - Num.fv .f32 b * (if fl then -Num.fv .f32 y else Num.fv .f32 y) + Num.fv .f32 c ∧
      Num.fv .f32 v = Num.fv .f32 a * (if fl then -Num.fv .f32 y else Num.fv .f32 y) + Num.fv .f32 b * Num.fv .f32 x + Num.fv .f32 d := by
  have hf := hy.flip fl
  obtain ⟨p, q, h1, h2, h3, h4, h5⟩ := mul_exact ha hb hx hf.1 hA hB (by omega) hn
  have hc' : GF (n + k) D c := by rw [← hl]; exact hc.up j hD
  have hd' : GF (n + k) D d := by rw [← hl]; exact hd.up j hD
  obtain ⟨u, v, k1, k2, k3, k4, k5⟩ := add_exact h2 h3 hc' hd' (by omega) hn (by rw [hE]; exact hin)
  rw [hE] at k2 k3
  refine ⟨u, v, maps_w fl h1 k1, k2, k3, ?_, ?_⟩
  · rw [k4, h4, hf.2]
  · rw [k5, h5, hf.2]
/-- A number that a map made is led back. -/
theorem back_exact {a b c d s z z' x y n k l j m : Nat} {A B C D E F : Int} (fl : Bool) (ha : GF n A a) (hb : GF n A b) (hc : GF l C c) (hd : GF l C d) (hz : GF m E z) (hz' : GF m E z') (hx : Gr k B (Num.fv .f32 x)) (hy : Gr k B (Num.fv .f32 y))
    (hA : A ≤ 1000 * 2 ^ n) (hl : l + j = m) (hD : C * 2 ^ j ≤ D) (hF : E + D = F) (hF2 : F ≤ 16777216) (hm : m + n ≤ 149) (hin : F ≤ 1000 * 2 ^ m) (hB2 : B ≤ 16777216) (hk : k ≤ 149) (hFA : F * A + F * A ≤ 16777216) (hAA : A * A + A * A ≤ 16777216) (hnn : n + n ≤ 149)
    (ez : Num.fv .f32 z = Num.fv .f32 a * Num.fv .f32 x - Num.fv .f32 b * (if fl then -Num.fv .f32 y else Num.fv .f32 y) + Num.fv .f32 c)
    (ez' : Num.fv .f32 z' = Num.fv .f32 a * (if fl then -Num.fv .f32 y else Num.fv .f32 y) + Num.fv .f32 b * Num.fv .f32 x + Num.fv .f32 d)
    (hT : tiny ≤ Num.fv .f32 a * Num.fv .f32 a + Num.fv .f32 b * Num.fv .f32 b) :
    ∃ u v, (∀ w : World, Calls Try.prog 46 #[smallV a b c d fl s, .complex .f32 z z'] w fun e w' => e = .returned (.complex .f32 u v) ∧ Below w.heap.size w w') ∧ GF k B u ∧ GF k B v ∧ Num.fv .f32 u = Num.fv .f32 x ∧ Num.fv .f32 v = Num.fv .f32 y := by
  have hc' : GF m D c := by rw [← hl]; exact hc.up j hD
  have hd' : GF m D d := by rw [← hl]; exact hd.up j hD
  obtain ⟨p, q, h1, h2, h3, h4, h5⟩ := sub_exact hz hz' hc' hd' (by omega) (by omega) (by rw [hF]; exact hin)
  rw [hF] at h2 h3
  obtain ⟨u, v, e1, e2, e3, k1, k2, k3, k4, k5, k6, k7⟩ := quot_num h2.fin h3.fin ha.fin hb.fin hb.lt (in_lowM (h2.low hin)) (in_lowM (h3.low hin)) (in_lowM (ha.low hA)) (in_lowM (hb.low hA)) hT
  have g1 := ((h2.gr.mul ha.gr).add (h3.gr.mul hb.gr)).exact k2 hFA hm
  have g2 := ((h3.gr.mul ha.gr).sub (h2.gr.mul hb.gr)).exact k3 hFA hm
  have g3 := ((ha.gr.mul ha.gr).add (hb.gr.mul hb.gr)).exact k4 hAA hnn
  rw [g1, g3] at k6
  rw [g2, g3] at k7
  have ht0 : (0 : Rat) < tiny := by decide +kernel
  obtain ⟨Y, eY⟩ : ∃ Y, (if fl then -Num.fv .f32 y else Num.fv .f32 y) = Y := ⟨_, rfl⟩
  rw [eY] at ez ez'
  have hn0 : Num.fv .f32 a * Num.fv .f32 a + Num.fv .f32 b * Num.fv .f32 b ≠ 0 := by grind
  have q1 : (Num.fv .f32 p * Num.fv .f32 a + Num.fv .f32 q * Num.fv .f32 b) / (Num.fv .f32 a * Num.fv .f32 a + Num.fv .f32 b * Num.fv .f32 b) = Num.fv .f32 x := by
    rw [h4, h5, ez, ez']
    grind
  have q2 : (Num.fv .f32 q * Num.fv .f32 a - Num.fv .f32 p * Num.fv .f32 b) / (Num.fv .f32 a * Num.fv .f32 a + Num.fv .f32 b * Num.fv .f32 b) = Y := by
    rw [h4, h5, ez, ez']
    grind
  rw [q1] at k6
  rw [q2] at k7
  have hY : Gr k B Y := by rw [← eY]; cases fl; exact hy; exact hy.neg
  have r1 := FR.gf k6 hx hB2 hk
  have r2 := FR.gf k7 hY hB2 hk
  have hf := r2.1.flip fl
  refine ⟨u, flipN fl v, back_w fl h1 k1, r1.1, hf.1, r1.2, ?_⟩
  rw [hf.2, r2.2, ← eY]
  cases fl
  · rfl
  · show - -Num.fv .f32 y = Num.fv .f32 y
    grind
end Go.Proofs.Ytbpgbplepebcjaa
