/- Plain law with the walks' contracts: what a flipping small map does not move stays, nearly. -/
import Derived.Test.YtbpgbplepebcjaaMs
namespace Go.Proofs.Ytbpgbplepebcjaa
open Go.RowKit
open Num Quick

/-- The rest of a map that flips. -/
theorem rest_flip_num {N : Nat} {x : Sm} (hN : 1 ≤ N) (hx : x.ok N) (hfl : x.fl = true) : ∃ u v, (∀ w : World, Calls Try.prog 13 #[smallV x.a x.b x.c x.d x.fl x.s] w fun e w' => e = .returned (.tuple #[.complex .f32 u v, .bool true]) ∧ Below w.heap.size w w') ∧
    Fl .f32 u ∧ Fl .f32 v ∧ v < 4294967296 ∧ InR (Num.fv .f32 u) 6 ∧ InR (Num.fv .f32 v) 6 ∧
    InR (Num.fv .f32 x.a * Num.fv .f32 u + Num.fv .f32 x.b * Num.fv .f32 v + Num.fv .f32 x.c - Num.fv .f32 u) (1 / 262144) ∧
    InR (Num.fv .f32 x.b * Num.fv .f32 u - Num.fv .f32 x.a * Num.fv .f32 v + Num.fv .f32 x.d - Num.fv .f32 v) (1 / 262144) := by
  have ha := half_of hx.a
  have hb := half_of hx.b
  have hc := one_of hx.c
  have hd := one_of hx.d
  have hf := hx.d.flip true
  have hfd : flipN true x.d = ng32 x.d := rfl
  rw [hfd] at hf
  obtain ⟨p, q, M, m1, m2, m3, m4⟩ := mul_exact hx.a hx.b hx.c hf.1 (by decide) (by decide) (by decide) (by decide)
  rw [hf.2] at m3 m4
  simp only [if_true] at m3 m4
  have hcu : GF (3 + 2) 32 x.c := by have := hx.c.up 3 (C := 32) (by decide); exact this
  have hdu : GF (3 + 2) 32 x.d := by have := hx.d.up 3 (C := 32) (by decide); exact this
  obtain ⟨r, s, A, a1, a2, a3, a4⟩ := add_exact hcu hdu m1 m2 (by decide) (by decide) (by decide)
  have okS := hx.okSmall hN
  obtain ⟨w0, PO, o1⟩ := powerOf_num hx.a.fin hx.b.fin (in_mono ha (by decide +kernel)) (in_mono hb (by decide +kernel))
  have gP := (hx.a.gr.mul hx.a.gr).add (hx.b.gr.mul hx.b.gr)
  have o2 := gP.exact o1 (by decide) (by decide)
  obtain ⟨a, eA⟩ : ∃ a, Num.fv .f32 x.a = a := ⟨_, rfl⟩
  obtain ⟨b, eB⟩ : ∃ b, Num.fv .f32 x.b = b := ⟨_, rfl⟩
  obtain ⟨c, eC⟩ : ∃ c, Num.fv .f32 x.c = c := ⟨_, rfl⟩
  obtain ⟨d, eD⟩ : ∃ d, Num.fv .f32 x.d = d := ⟨_, rfl⟩
  rw [eA] at ha m3 m4 o2
  rw [eB] at hb m3 m4 o2
  rw [eC] at hc m3 m4 a3
  rw [eD] at hd m3 m4 a4
  have q1 := prod_in ha ha (by decide +kernel)
  have q2 := prod_in hb hb (by decide +kernel)
  have e4 : (1 : Rat) / 2 * (1 / 2) = 1 / 4 := by decide +kernel
  rw [e4] at q1 q2
  have q3 : 0 ≤ a * a := by
    rcases (Rat.le_total : 0 ≤ a ∨ a ≤ 0) with c | c
    · exact Rat.mul_nonneg c c
    · have := Rat.mul_nonneg (show 0 ≤ -a by grind) (show 0 ≤ -a by grind)
      grind
  have q4 : 0 ≤ b * b := by
    rcases (Rat.le_total : 0 ≤ b ∨ b ≤ 0) with c | c
    · exact Rat.mul_nonneg c c
    · have := Rat.mul_nonneg (show 0 ≤ -b by grind) (show 0 ≤ -b by grind)
      grind
  unfold InR at q1 q2
  have t1 : (2 : Rat) ≤ top := by decide
  obtain ⟨t, y1, y2⟩ := fsub c1.1 o1.fin (by rw [c1.2, o2]; grind) (by rw [c1.2, o2]; grind)
  rw [c1.2, o2] at y2
  have gT : Gr 6 96 (1 - (a * a + b * b)) := by
    have g1 : Gr (3 + 3) 64 1 := ⟨64, by decide +kernel, by decide, by decide⟩
    rw [← eA, ← eB]
    exact (g1.sub gP).mono (by decide)
  have y3 := gT.exact y2 (by decide) (by decide)
  obtain ⟨τ, eτ⟩ : ∃ τ, 1 - (a * a + b * b) = τ := ⟨_, rfl⟩
  rw [eτ] at y3
  have hτ : 1 / 2 ≤ τ ∧ τ ≤ 1 := by grind
  have hτp : 0 < τ := by grind
  obtain ⟨ω, eω⟩ : ∃ ω, 1 / τ = ω := ⟨_, rfl⟩
  have hω : ω * τ = 1 := by rw [← eω]; grind
  have iω : 1 ≤ ω ∧ ω ≤ 2 := by
    constructor
    · apply rat_cancel hτp; grind
    · apply rat_cancel hτp; grind
  obtain ⟨o, z1, z2⟩ := fdiv c1.1 y2.fin (by rw [y3]; grind) (by rw [c1.2, y3, eω]; grind) (by rw [c1.2, y3, eω]; grind)
  rw [c1.2, y3, eω] at z2
  have n0 := near2 z2 (by unfold InR; grind)
  have io : 1 ≤ Num.fv .f32 o ∧ Num.fv .f32 o ≤ 2 := ⟨z2.ge_int 1 (by decide) iω.1, z2.le_int 2 (by decide) iω.2⟩
  -- what is scaled
  have b1 := prod_in ha hc (by decide +kernel)
  have b2 := prod_in hb hd (by decide +kernel)
  have b3 := prod_in ha hd (by decide +kernel)
  have b4 := prod_in hb hc (by decide +kernel)
  have e5 : (1 : Rat) / 2 * 1 = 1 / 2 := by decide +kernel
  rw [e5] at b1 b2 b3 b4
  obtain ⟨Pp, eP⟩ : ∃ P, Num.fv .f32 r = P := ⟨_, rfl⟩
  obtain ⟨Qq, eQ⟩ : ∃ Q, Num.fv .f32 s = Q := ⟨_, rfl⟩
  rw [eP] at a3
  rw [eQ] at a4
  have hP : Pp = c + (a * c + b * d) := by rw [a3, m3]; grind
  have hQ : Qq = d + (b * c - a * d) := by rw [a4, m4]; grind
  have iP : InR Pp 2 := by unfold InR at *; grind
  have iQ : InR Qq 2 := by unfold InR at *; grind
  obtain ⟨O, eO⟩ : ∃ O, Num.fv .f32 o = O := ⟨_, rfl⟩
  rw [eO] at n0 io
  have iO : InR O 2 := by unfold InR; grind
  have v1 := prod_in iP iO (by decide)
  have v2 := prod_in iQ iO (by decide)
  have e6 : (2 : Rat) * 2 = 4 := by decide +kernel
  rw [e6] at v1 v2
  have t4 : (4 : Rat) ≤ top := by decide +kernel
  obtain ⟨u, v, SC, u1, u2⟩ := scale_num a1.fin a2.fin z2.fin (by rw [eP, eO]; exact in_mono v1 t4) (by rw [eQ, eO]; exact in_mono v2 t4)
  rw [eP, eO] at u1
  rw [eQ, eO] at u2
  have n1 := near8 u1 (in_mono v1 (by decide +kernel))
  have n2 := near8 u2 (in_mono v2 (by decide +kernel))
  have i6u : InR (Num.fv .f32 u) 4 := ⟨by have := u1.le_int 4 (by decide) (by exact v1.1); exact this, by have := u1.ge_int (-4) (by decide) (by have := v1.2; exact this); exact this⟩
  have i6v : InR (Num.fv .f32 v) 4 := ⟨by have := u2.le_int 4 (by decide) (by exact v2.1); exact this, by have := u2.ge_int (-4) (by decide) (by have := v2.2; exact this); exact this⟩
  -- how far the scaled numbers are from the true ones
  have w1 := prod_in iP (show InR (O - ω) (1 / 8388608) by unfold InR; grind) (by decide)
  have w2 := prod_in iQ (show InR (O - ω) (1 / 8388608) by unfold InR; grind) (by decide)
  have e7 : (2 : Rat) * (1 / 8388608) = 1 / 4194304 := by decide +kernel
  rw [e7] at w1 w2
  obtain ⟨U, eU⟩ : ∃ U, Num.fv .f32 u = U := ⟨_, rfl⟩
  obtain ⟨V, eV⟩ : ∃ V, Num.fv .f32 v = V := ⟨_, rfl⟩
  rw [eU] at n1 i6u
  rw [eV] at n2 i6v
  have f1 : a * Pp + b * Qq + c * τ = Pp := by rw [hP, hQ, ← eτ]; grind
  have f2 : b * Pp - a * Qq + d * τ = Qq := by rw [hP, hQ, ← eτ]; grind
  have g1 : a * (Pp * ω) + b * (Qq * ω) + c = Pp * ω := by grind
  have g2 : b * (Pp * ω) - a * (Qq * ω) + d = Qq * ω := by grind
  obtain ⟨X, eX⟩ : ∃ X, Pp * ω = X := ⟨_, rfl⟩
  obtain ⟨Y, eY⟩ : ∃ Y, Qq * ω = Y := ⟨_, rfl⟩
  rw [eX, eY] at g1 g2
  have dU : InR (U - X) (1 / 1048576) := by unfold InR at *; grind
  have dV : InR (V - Y) (1 / 1048576) := by unfold InR at *; grind
  have x1 := prod_in ha dU (by decide +kernel)
  have x2 := prod_in hb dV (by decide +kernel)
  have x3 := prod_in hb dU (by decide +kernel)
  have x4 := prod_in ha dV (by decide +kernel)
  have e8 : (1 : Rat) / 2 * (1 / 1048576) = 1 / 2097152 := by decide +kernel
  rw [e8] at x1 x2 x3 x4
  refine ⟨u, v, ?_, u1.fin, u2.fin, u2.lt, by rw [eU]; exact in_mono i6u (by decide +kernel), by rw [eV]; exact in_mono i6v (by decide +kernel), ?_, ?_⟩
  · rw [hfl]
    exact rest_flip okS M A PO y1 z1 SC u1.fin u2.fin
  · rw [eA, eB, eC, eU, eV]
    unfold InR at *
    constructor <;> grind
  · rw [eA, eB, eD, eU, eV]
    unfold InR at *
    constructor <;> grind
/-- The rest of a map, and what the map makes of it. -/
theorem rest_all {N : Nat} {x : Sm} (hN : 1 ≤ N) (hx : x.ok N) : ∃ u v s t, (∀ w : World, Calls Try.prog 13 #[smallV x.a x.b x.c x.d x.fl x.s] w fun e w' => e = .returned (.tuple #[.complex .f32 u v, .bool true]) ∧ Below w.heap.size w w') ∧
    (∀ w : World, Calls Try.prog 45 #[smallV x.a x.b x.c x.d x.fl x.s, .complex .f32 u v] w fun e w' => e = .returned (.complex .f32 s t) ∧ Below w.heap.size w w') ∧ Fl .f32 u ∧ Fl .f32 v ∧ InR (Num.fv .f32 u) 6 ∧ InR (Num.fv .f32 v) 6 ∧ Fl .f32 s ∧ Fl .f32 t ∧
      InR (Num.fv .f32 s - Num.fv .f32 u) (1 / 131072) ∧ InR (Num.fv .f32 t - Num.fv .f32 v) (1 / 131072) := by
  cases hfl : x.fl with
  | true =>
    obtain ⟨u, v, R, h1, h2, h3, h4, h5, h6, h7⟩ := rest_flip_num hN hx hfl
    obtain ⟨s, t, M, k1, k2, k3, k4⟩ := still_num hx h1 h2 h3 h4 h5 (by rw [hfl]; simp only [if_true]; unfold InR at *; constructor <;> grind) (by rw [hfl]; simp only [if_true]; unfold InR at *; constructor <;> grind)
    rw [hfl] at R M
    exact ⟨u, v, s, t, R, M, h1, h2, h4, h5, k1, k2, k3, k4⟩
  | false =>
    obtain ⟨u, v, R, h1, h2, h3, h4, h5, h6, h7⟩ := rest_plain_num hN hx hfl
    obtain ⟨s, t, M, k1, k2, k3, k4⟩ := still_num hx h1 h2 h3 h4 h5 (by rw [hfl]; simp only [Bool.false_eq_true, if_false]; exact h6) (by rw [hfl]; simp only [Bool.false_eq_true, if_false]; exact h7)
    rw [hfl] at R M
    exact ⟨u, v, s, t, R, M, h1, h2, h4, h5, k1, k2, k3, k4⟩
end Go.Proofs.Ytbpgbplepebcjaa
