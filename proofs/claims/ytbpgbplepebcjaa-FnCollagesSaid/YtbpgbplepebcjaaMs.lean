/- Plain law with the walks' contracts: what a small map does not move stays, nearly. -/
import Derived.Test.YtbpgbplepebcjaaMr
namespace Go.Proofs.Ytbpgbplepebcjaa
open Go.RowKit
open Num Quick

theorem near_by {v B d : Rat} {w : Nat} (h : FR .f32 v w) (e : Int) (h1 : -125 ≤ e) (h2 : e ≤ 100) (hB : p2 e = B) (hd : p2 (e - 24) = d) (hv : InR v B) : Num.fv .f32 w ≤ v + d ∧ v ≤ Num.fv .f32 w + d := by
  have := IsRnd.near32 h e h1 h2 (by rw [hB]; exact hv.1) (by rw [hB]; exact hv.2)
  rw [hd] at this
  exact this
theorem near16 {v : Rat} {w : Nat} (h : FR .f32 v w) (hv : InR v 16) : Num.fv .f32 w ≤ v + 1 / 1048576 ∧ v ≤ Num.fv .f32 w + 1 / 1048576 := near_by h 4 (by decide) (by decide) (by decide +kernel) (by decide +kernel) hv
theorem near8 {v : Rat} {w : Nat} (h : FR .f32 v w) (hv : InR v 8) : Num.fv .f32 w ≤ v + 1 / 2097152 ∧ v ≤ Num.fv .f32 w + 1 / 2097152 := near_by h 3 (by decide) (by decide) (by decide +kernel) (by decide +kernel) hv
theorem near2 {v : Rat} {w : Nat} (h : FR .f32 v w) (hv : InR v 2) : Num.fv .f32 w ≤ v + 1 / 8388608 ∧ v ≤ Num.fv .f32 w + 1 / 8388608 := near_by h 1 (by decide) (by decide) (by decide +kernel) (by decide +kernel) hv
theorem half_of {w : Nat} (h : GF 3 4 w) : InR (Num.fv .f32 w) (1 / 2) := by
  obtain ⟨m, e, h1, h2⟩ := h.gr
  have e2 : ((2 ^ 3 : Nat) : Rat) = 8 := by decide +kernel
  rw [e2] at e
  have h3 : (m : Rat) ≤ ((4 : Int) : Rat) := Rat.intCast_le_intCast.2 h2
  have h4 : ((-4 : Int) : Rat) ≤ (m : Rat) := Rat.intCast_le_intCast.2 h1
  have e4 : ((4 : Int) : Rat) = 4 := rfl
  have e5 : ((-4 : Int) : Rat) = -4 := rfl
  rw [e4] at h3
  rw [e5] at h4
  unfold InR
  constructor <;> grind
theorem one_of {w : Nat} (h : GF 2 4 w) : InR (Num.fv .f32 w) 1 := by
  have := h.gr.bound (C := 1) (by decide)
  exact this
/-- A number that is nearly the map's own rest, mapped: near to itself. -/
theorem still_num {N : Nat} {x : Sm} (hx : x.ok N) {u v : Nat} (hu : Fl .f32 u) (hv : Fl .f32 v) (hvl : v < 4294967296) (iu : InR (Num.fv .f32 u) 6) (iv : InR (Num.fv .f32 v) 6)
    (h1 : InR (Num.fv .f32 x.a * Num.fv .f32 u - Num.fv .f32 x.b * (if x.fl then -Num.fv .f32 v else Num.fv .f32 v) + Num.fv .f32 x.c - Num.fv .f32 u) (1 / 262144))
    (h2 : InR (Num.fv .f32 x.a * (if x.fl then -Num.fv .f32 v else Num.fv .f32 v) + Num.fv .f32 x.b * Num.fv .f32 u + Num.fv .f32 x.d - Num.fv .f32 v) (1 / 262144)) :
    ∃ s t, (∀ w : World, Calls Try.prog 45 #[smallV x.a x.b x.c x.d x.fl x.s, .complex .f32 u v] w fun e w' => e = .returned (.complex .f32 s t) ∧ Below w.heap.size w w') ∧ Fl .f32 s ∧ Fl .f32 t ∧
      InR (Num.fv .f32 s - Num.fv .f32 u) (1 / 131072) ∧ InR (Num.fv .f32 t - Num.fv .f32 v) (1 / 131072) := by
  have hf := flipN_num x.fl hv hvl
  obtain ⟨V, eV⟩ : ∃ V, (if x.fl then -Num.fv .f32 v else Num.fv .f32 v) = V := ⟨_, rfl⟩
  rw [eV] at h1 h2 hf
  have iV : InR V 6 := by
    rw [← eV]
    unfold InR at *
    split <;> grind
  have ha := half_of hx.a
  have hb := half_of hx.b
  have hc := one_of hx.c
  have hd := one_of hx.d
  obtain ⟨p, q, M, m1, m2⟩ := mul_num hx.a.fin hx.b.fin hu hf.1 (in_mono ha (by decide +kernel)) (in_mono hb (by decide +kernel)) (in_mono iu (by decide +kernel)) (by rw [hf.2.1]; exact in_mono iV (by decide +kernel))
  rw [hf.2.1] at m1 m2
  have k1 := prod_in ha iu (by decide +kernel)
  have k2 := prod_in hb iV (by decide +kernel)
  have k3 := prod_in ha iV (by decide +kernel)
  have k4 := prod_in hb iu (by decide +kernel)
  have e3 : (1 : Rat) / 2 * 6 = 3 := by decide +kernel
  rw [e3] at k1 k2 k3 k4
  unfold InR at k1 k2 k3 k4 hc hd iu iv
  have n1 := near8 m1 (by unfold InR; grind)
  have n2 := near8 m2 (by unfold InR; grind)
  have t16 : (16 : Rat) ≤ top := by decide +kernel
  obtain ⟨s, t, A, a1, a2⟩ := add_num m1.fin m2.fin hx.c.fin hx.d.fin (by unfold InR; grind) (by unfold InR; grind)
  have n3 := near16 a1 (by unfold InR; grind)
  have n4 := near16 a2 (by unfold InR; grind)
  refine ⟨s, t, maps_w x.fl M A, a1.fin, a2.fin, ?_, ?_⟩
  · unfold InR at h1 ⊢
    constructor <;> grind
  · unfold InR at h2 ⊢
    constructor <;> grind
/-- The rest of a map that does not flip. -/
theorem rest_plain_num {N : Nat} {x : Sm} (hN : 1 ≤ N) (hx : x.ok N) (hfl : x.fl = false) : ∃ u v, (∀ w : World, Calls Try.prog 13 #[smallV x.a x.b x.c x.d x.fl x.s] w fun e w' => e = .returned (.tuple #[.complex .f32 u v, .bool true]) ∧ Below w.heap.size w w') ∧
    Fl .f32 u ∧ Fl .f32 v ∧ v < 4294967296 ∧ InR (Num.fv .f32 u) 6 ∧ InR (Num.fv .f32 v) 6 ∧
    InR (Num.fv .f32 x.a * Num.fv .f32 u - Num.fv .f32 x.b * Num.fv .f32 v + Num.fv .f32 x.c - Num.fv .f32 u) (1 / 262144) ∧
    InR (Num.fv .f32 x.a * Num.fv .f32 v + Num.fv .f32 x.b * Num.fv .f32 u + Num.fv .f32 x.d - Num.fv .f32 v) (1 / 262144) := by
  have g0 : GF 3 0 0 := ⟨c0.1, by decide, by rw [c0.2]; exact ⟨0, by decide +kernel, by decide, by decide⟩⟩
  have g1 : GF 3 8 1065353216 := ⟨c1.1, by decide, by rw [c1.2]; exact ⟨8, by decide +kernel, by decide, by decide⟩⟩
  have g0' : GF 3 8 0 := g0.mono (by decide)
  obtain ⟨g, h, S, s1, s2, s3, s4⟩ := sub_exact g1 g0' hx.a hx.b (by decide) (by decide) (by decide)
  rw [c1.2] at s3
  rw [c0.2] at s4
  have ha := half_of hx.a
  have hb := half_of hx.b
  have hc := one_of hx.c
  have hd := one_of hx.d
  have ha1 := hx.a1
  obtain ⟨G, eG⟩ : ∃ G, Num.fv .f32 g = G := ⟨_, rfl⟩
  obtain ⟨H, eH⟩ : ∃ H, Num.fv .f32 h = H := ⟨_, rfl⟩
  have iG : 1 / 2 ≤ G ∧ G ≤ 1 := by unfold InR at ha; grind
  have iH : InR H (1 / 2) := by unfold InR at *; grind
  have hn : 1 / 4 ≤ G * G + H * H := by
    have k1 := Rat.mul_nonneg (show 0 ≤ G - 1 / 2 by grind) (show 0 ≤ G - 1 / 2 by grind)
    have k2 : 0 ≤ H * H := by
      rcases (Rat.le_total : 0 ≤ H ∨ H ≤ 0) with c | c
      · exact Rat.mul_nonneg c c
      · have := Rat.mul_nonneg (show 0 ≤ -H by grind) (show 0 ≤ -H by grind)
        grind
    grind
  have ht : tiny ≤ 1 / 4 := by decide +kernel
  obtain ⟨u, v, e1, e2, e3, k1, k2, k3, k4, k5, k6, k7⟩ := quot_num hx.c.fin hx.d.fin s1.fin s2.fin s2.lt (in_lowM (hx.c.low (by decide))) (in_lowM (hx.d.low (by decide))) (in_lowM (s1.low (by decide))) (in_lowM (s2.low (by decide))) (by rw [eG, eH]; grind)
  have q1 := ((hx.c.gr.mul s1.gr).add (hx.d.gr.mul s2.gr)).exact k2 (by decide) (by decide)
  have q2 := ((hx.d.gr.mul s1.gr).sub (hx.c.gr.mul s2.gr)).exact k3 (by decide) (by decide)
  have q3 := ((s1.gr.mul s1.gr).add (s2.gr.mul s2.gr)).exact k4 (by decide) (by decide)
  rw [eG, eH] at q1 q2 q3
  rw [q1, q3] at k6
  rw [q2, q3] at k7
  obtain ⟨C, eC⟩ : ∃ C, Num.fv .f32 x.c = C := ⟨_, rfl⟩
  obtain ⟨D, eD⟩ : ∃ D, Num.fv .f32 x.d = D := ⟨_, rfl⟩
  rw [eC, eD] at k6 k7
  rw [eC] at hc
  rw [eD] at hd
  have hn0 : G * G + H * H ≠ 0 := by grind
  have hnp : 0 < G * G + H * H := by grind
  obtain ⟨R, eR⟩ : ∃ R, (C * G + D * H) / (G * G + H * H) = R := ⟨_, rfl⟩
  obtain ⟨T, eT⟩ : ∃ T, (D * G - C * H) / (G * G + H * H) = T := ⟨_, rfl⟩
  have f1 : G * R - H * T = C := by rw [← eR, ← eT]; grind
  have f2 : H * R + G * T = D := by rw [← eR, ← eT]; grind
  have fR : R * (G * G + H * H) = C * G + D * H := by rw [← eR]; grind
  have fT : T * (G * G + H * H) = D * G - C * H := by rw [← eT]; grind
  rw [eR] at k6
  rw [eT] at k7
  have b1 := prod_in hc (show InR G 1 by unfold InR; grind) (by decide)
  have b2 := prod_in hd iH (by decide)
  have b3 := prod_in hd (show InR G 1 by unfold InR; grind) (by decide)
  have b4 := prod_in hc iH (by decide)
  have e5 : (1 : Rat) * 1 = 1 := by decide +kernel
  have e6 : (1 : Rat) * (1 / 2) = 1 / 2 := by decide +kernel
  rw [e5] at b1 b3
  rw [e6] at b2 b4
  -- the sizes of the true rest: at most 6
  have big : (3 : Rat) / 2 ≤ 6 * (G * G + H * H) := by grind
  have iR : InR R 6 := by
    unfold InR at b1 b2
    constructor
    · apply rat_cancel hnp; grind
    · apply rat_cancel hnp; grind
  have iT : InR T 6 := by
    unfold InR at b3 b4
    constructor
    · apply rat_cancel hnp; grind
    · apply rat_cancel hnp; grind
  have n1 := near8 k6 (in_mono iR (by decide +kernel))
  have n2 := near8 k7 (in_mono iT (by decide +kernel))
  have i6u : InR (Num.fv .f32 u) 6 := ⟨by have := k6.le_int 6 (by decide) (by exact iR.1); exact this, by have := k6.ge_int (-6) (by decide) (by have := iR.2; exact this); exact this⟩
  have i6v : InR (Num.fv .f32 v) 6 := ⟨by have := k7.le_int 6 (by decide) (by exact iT.1); exact this, by have := k7.ge_int (-6) (by decide) (by have := iT.2; exact this); exact this⟩
  have hs := s1.fin
  refine ⟨u, v, ?_, k6.fin, k7.fin, k7.lt, i6u, i6v, ?_, ?_⟩
  · rw [hfl]
    exact rest_plain (hx.okSmall hN) S k1 k6.fin k7.fin
  · rw [eC]
    have eA : Num.fv .f32 x.a = 1 - G := by grind
    have eB : Num.fv .f32 x.b = -H := by grind
    rw [eA, eB]
    obtain ⟨U, eU⟩ : ∃ U, Num.fv .f32 u = U := ⟨_, rfl⟩
    obtain ⟨V, eV⟩ : ∃ V, Num.fv .f32 v = V := ⟨_, rfl⟩
    rw [eU] at n1 ⊢
    rw [eV] at n2 ⊢
    have p1 := prod_in (show InR G 1 by unfold InR; grind) (show InR (U - R) (1 / 2097152) by unfold InR; grind) (by decide)
    have p2' := prod_in iH (show InR (V - T) (1 / 2097152) by unfold InR; grind) (by decide +kernel)
    unfold InR at p1 p2' ⊢
    constructor <;> grind
  · rw [eD]
    have eA : Num.fv .f32 x.a = 1 - G := by grind
    have eB : Num.fv .f32 x.b = -H := by grind
    rw [eA, eB]
    obtain ⟨U, eU⟩ : ∃ U, Num.fv .f32 u = U := ⟨_, rfl⟩
    obtain ⟨V, eV⟩ : ∃ V, Num.fv .f32 v = V := ⟨_, rfl⟩
    rw [eU] at n1 ⊢
    rw [eV] at n2 ⊢
    have p1 := prod_in (show InR G 1 by unfold InR; grind) (show InR (V - T) (1 / 2097152) by unfold InR; grind) (by decide)
    have p2' := prod_in iH (show InR (U - R) (1 / 2097152) by unfold InR; grind) (by decide +kernel)
    unfold InR at p1 p2' ⊢
    constructor <;> grind
end Go.Proofs.Ytbpgbplepebcjaa
