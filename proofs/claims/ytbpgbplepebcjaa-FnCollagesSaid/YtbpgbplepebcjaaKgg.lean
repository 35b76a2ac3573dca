/- Plain law: how near the turn, the shift and the images of a fit come. Conditions: at most 7 points. -/
import Derived.Test.YtbpgbplepebcjaaKgf
namespace Go.Proofs.Ytbpgbplepebcjaa
open Go.RowKit
open Num Quick

abbrev e36 : Rat := 1 / 68719476736
theorem near64_by {v : Rat} {w : Nat} (h : FR .f64 v w) (hv : InR v 131072) : InR (Num.fv .f64 w - v) e36 := by
  have e : p2 17 = 131072 := by decide +kernel
  have e2 : p2 (17 - 53) = e36 := by decide +kernel
  have := IsRnd.near64 h 17 (by decide) (by decide) (by rw [e]; exact hv.1) (by rw [e]; exact hv.2)
  rw [e2] at this
  unfold InR
  constructor <;> grind
theorem fit_low {R D b : Rat} (hR : 1 / 4 ≤ R) (hD1 : R * R / 4 ≤ D) (hb : InR (b - D) (315 * R / 8388608)) : R * R / 5 ≤ b ∧ 1 / 80 ≤ b := by
  have h := Rat.mul_nonneg (show 0 ≤ R - 1 / 4 by grind) (show 0 ≤ R by grind)
  unfold InR at hb
  constructor
  · grind
  · grind
theorem fit_quot {ta R D x b u n : Rat} (hR : 1 / 4 ≤ R) (hR2 : R ≤ 16) (hta : InR ta (1 / 2)) (hD1 : R * R / 4 ≤ D) (hx : InR (x - ta * D) (245 * R / 8388608)) (hb : InR (b - D) (315 * R / 8388608)) (hu : InR (u - x * b) e36) (hn : InR (n - b * b) e36) :
    0 < n ∧ InR ((u / n - ta) * R) (2052 / 8388608) := by
  obtain ⟨b1, b2⟩ := fit_low hR hD1 hb
  have q0 : (0 : Rat) ≤ 1 / 2 := by decide +kernel
  have R0 : 0 ≤ R := by grind
  have t1 := in_prod hta hb q0
  have h1 : InR (x - ta * b) (403 * R / 8388608) := by
    have e : x - ta * b = (x - ta * D) - ta * (b - D) := by grind
    rw [e]
    unfold InR at *
    constructor <;> grind
  have bb := Rat.mul_nonneg (show 0 ≤ b - 1 / 80 by grind) (show 0 ≤ b by grind)
  have bR := Rat.mul_nonneg (show 0 ≤ b - R * R / 5 by grind) (show 0 ≤ b by grind)
  have h2 := in_prod h1 (show InR (b * R) (b * R) by
    have := Rat.mul_nonneg (show 0 ≤ b by grind) R0
    unfold InR; constructor <;> grind) (by have := R0; grind)
  have t2 := in_prod hta hn q0
  have hn0 : 0 < n := by
    have c : e36 ≤ 1 / 6400 / 2 := by decide +kernel
    unfold InR at hn
    grind
  refine ⟨hn0, ?_⟩
  have e2 : (u - ta * n) * R = (u - x * b) * R + (x - ta * b) * (b * R) - ta * (n - b * b) * R := by grind
  have hW : InR ((u - ta * n) * R) (2052 / 8388608 * n) := by
    have k1 := in_prod hu (show InR R 16 by unfold InR; constructor <;> grind) (by decide +kernel)
    have k2 := in_prod t2 (show InR R 16 by unfold InR; constructor <;> grind) (by decide +kernel)
    have c : e36 * 16 + 1 / 2 * e36 * 16 + 2052 / 8388608 * e36 ≤ 37 / 8388608 / 6400 := by decide +kernel
    have k3 : 403 * R / 8388608 * (b * R) ≤ 2015 / 8388608 * (b * b) := by grind
    have k4 : 1 / 6400 ≤ b * b := by grind
    rw [e2]
    clear e2 h1 hx hb hD1 hu t1 t2 bb bR
    unfold InR at *
    obtain ⟨P, eP⟩ : ∃ P, (u - x * b) * R = P := ⟨_, rfl⟩
    obtain ⟨Q, eQ⟩ : ∃ Q, (x - ta * b) * (b * R) = Q := ⟨_, rfl⟩
    obtain ⟨T, eT⟩ : ∃ T, ta * (n - b * b) * R = T := ⟨_, rfl⟩
    obtain ⟨B, eB⟩ : ∃ B, b * b = B := ⟨_, rfl⟩
    obtain ⟨K, eK⟩ : ∃ K, 403 * R / 8388608 * (b * R) = K := ⟨_, rfl⟩
    rw [eP] at k1 ⊢
    rw [eQ] at h2 ⊢
    rw [eT] at k2 ⊢
    rw [eB] at hn k3 k4
    rw [eK] at h2 k3
    constructor <;> grind
  have e3 : (u / n - ta) * R * n = (u - ta * n) * R := by
    have : u / n * n = u := by grind
    grind
  unfold InR at *
  constructor
  · exact rat_cancel hn0 (by rw [e3]; exact hW.1)
  · exact rat_cancel hn0 (by rw [e3]; grind)
theorem near1 {v : Rat} {w : Nat} (h : FR .f32 v w) (hv : InR v 1) : InR (Num.fv .f32 w - v) (1 / 16777216) := by
  have := near_by h 0 (by decide) (by decide) (show p2 0 = 1 by decide +kernel) (show p2 (0 - 24) = 1 / 16777216 by decide +kernel) hv
  unfold InR; constructor <;> grind
theorem near4 {v : Rat} {w : Nat} (h : FR .f32 v w) (hv : InR v 4) : InR (Num.fv .f32 w - v) (1 / 4194304) := by
  have := near_by h 2 (by decide) (by decide) (show p2 2 = 4 by decide +kernel) (show p2 (2 - 24) = 1 / 4194304 by decide +kernel) hv
  unfold InR; constructor <;> grind
theorem near8' {v : Rat} {w : Nat} (h : FR .f32 v w) (hv : InR v 8) : InR (Num.fv .f32 w - v) (1 / 2097152) := by
  have := near8 h hv
  unfold InR; constructor <;> grind
theorem near16' {v : Rat} {w : Nat} (h : FR .f32 v w) (hv : InR v 16) : InR (Num.fv .f32 w - v) (1 / 1048576) := by
  have := near16 h hv
  unfold InR; constructor <;> grind
theorem in_scale {a R K d : Rat} (hR : 0 ≤ R) (h : InR (a * R) K) (hd : InR d R) : InR (a * d) K := by
  unfold InR at *
  rcases (Rat.le_total : 0 ≤ a ∨ a ≤ 0) with c | c
  · have h1 := Rat.mul_nonneg c (show 0 ≤ R - d by grind)
    have h2 := Rat.mul_nonneg c (show 0 ≤ R + d by grind)
    constructor <;> grind
  · have h1 := Rat.mul_nonneg (show 0 ≤ -a by grind) (show 0 ≤ R - d by grind)
    have h2 := Rat.mul_nonneg (show 0 ≤ -a by grind) (show 0 ≤ R + d by grind)
    constructor <;> grind
theorem of_R {a R K : Rat} (hR : 1 / 4 ≤ R) (h : InR (a * R) K) : InR a (4 * K) := by
  have := in_scale (by grind) h (show InR (1 / 4) R by unfold InR; constructor <;> grind)
  unfold InR at *
  constructor <;> grind
/-- The turn of a fit. -/
theorem fit_turn {ta R v : Rat} {w : Nat} (hR : 1 / 4 ≤ R) (hR2 : R ≤ 16) (hta : InR ta (1 / 2)) (hq : InR ((v - ta) * R) (2052 / 8388608)) (hw : FR .f32 v w) : InR ((Num.fv .f32 w - ta) * R) (2060 / 8388608) := by
  have h1 := of_R hR hq
  have iv : InR v 1 := by unfold InR at *; constructor <;> grind
  have h2 := near1 hw iv
  have h3 := in_prod h2 (show InR R 16 by unfold InR; constructor <;> grind) (by decide +kernel)
  have e : (Num.fv .f32 w - ta) * R = (Num.fv .f32 w - v) * R + (v - ta) * R := by grind
  rw [e]
  unfold InR at *
  constructor <;> grind
/-- The shift of a fit, and where it leads to: one part of each (the other one with tb for -tb). -/
theorem fit_part {ta tb R c dx dy mx my ux uy m1 m2 o1 ta' tb' : Rat} {g s h k q : Nat} (hR : 1 / 4 ≤ R) (hta : InR ta (1 / 2)) (htb : InR tb (1 / 2)) (hc : InR c 1) (hdx : InR dx R) (hdy : InR dy R) (hux : InR ux 2) (huy : InR uy 2) (hmx : InR mx 2) (hmy : InR my 2)
    (hd1 : ux - mx = dx) (hd2 : uy - my = dy) (h1 : InR (m1 - mx) (1 / 8388608)) (h2 : InR (m2 - my) (1 / 8388608)) (h3 : InR (o1 - (ta * mx - tb * my + c)) (1 / 4194304)) (ht1 : InR ((ta' - ta) * R) (2060 / 8388608)) (ht2 : InR ((tb' - tb) * R) (2060 / 8388608))
    (hg : FR .f32 (ta' * m1 - tb' * m2) g) (hs : FR .f32 (o1 - Num.fv .f32 g) s) (hh : FR .f32 (ta' * ux - tb' * uy) h) (hk : FR .f32 (Num.fv .f32 h + Num.fv .f32 s) k) (hq : FR .f32 (Num.fv .f32 k - (ta * ux - tb * uy + c)) q) :
    InR (Num.fv .f32 s - c) (1 / 200) ∧ InR (Num.fv .f32 q) (4142 / 8388608) ∧ InR (Num.fv .f32 s) 2 ∧ InR (Num.fv .f32 k) 8 := by
  have R0 : 0 ≤ R := by grind
  have a1 := of_R hR ht1
  have a2 := of_R hR ht2
  have b1 := in_scale R0 ht1 hdx
  have b2 := in_scale R0 ht2 hdy
  have ia : InR ta' (9 / 16) := by unfold InR at *; constructor <;> grind
  have ib : InR tb' (9 / 16) := by unfold InR at *; constructor <;> grind
  have q916 : (0 : Rat) ≤ 9 / 16 := by decide +kernel
  have qh : (0 : Rat) ≤ 1 / 2 := by decide +kernel
  have q0 : (0 : Rat) ≤ 4 * (2060 / 8388608) := by decide +kernel
  have im1 : InR m1 3 := by unfold InR at *; constructor <;> grind
  have im2 : InR m2 3 := by unfold InR at *; constructor <;> grind
  have p1 := in_prod ia im1 q916
  have p2' := in_prod ib im2 q916
  have p3 := in_prod ia hux q916
  have p4 := in_prod ib huy q916
  have p5 := in_prod hta hmx qh
  have p6 := in_prod htb hmy qh
  have p7 := in_prod hta hux qh
  have p8 := in_prod htb huy qh
  have c1 := in_prod a1 hmx q0
  have c2 := in_prod a2 hmy q0
  have d1 := in_prod ia h1 q916
  have d2 := in_prod ib h2 q916
  have ng := near4 hg (by unfold InR at *; constructor <;> grind)
  have io : InR o1 4 := by unfold InR at *; constructor <;> grind
  have ns := near8' hs (by unfold InR at *; constructor <;> grind)
  have nh := near4 hh (by unfold InR at *; constructor <;> grind)
  have e1 : o1 - Num.fv .f32 g - c = (o1 - (ta * mx - tb * my + c)) - (Num.fv .f32 g - (ta' * m1 - tb' * m2)) - ((ta' - ta) * mx - (tb' - tb) * my) - (ta' * (m1 - mx) - tb' * (m2 - my)) := by grind
  have hsc : InR (Num.fv .f32 s - c) (1 / 200) := by
    have e2 : Num.fv .f32 s - c = (Num.fv .f32 s - (o1 - Num.fv .f32 g)) + (o1 - Num.fv .f32 g - c) := by grind
    rw [e2, e1]
    clear e1 e2
    unfold InR at *
    constructor <;> grind
  have is2 : InR (Num.fv .f32 s) 2 := by unfold InR at *; constructor <;> grind
  have nk := near16' hk (by unfold InR at *; constructor <;> grind)
  have e3 : Num.fv .f32 k - (ta * ux - tb * uy + c) = (Num.fv .f32 k - (Num.fv .f32 h + Num.fv .f32 s)) + (Num.fv .f32 h - (ta' * ux - tb' * uy)) + (Num.fv .f32 s - (o1 - Num.fv .f32 g)) + (o1 - (ta * mx - tb * my + c)) - (Num.fv .f32 g - (ta' * m1 - tb' * m2)) + ((ta' - ta) * dx - (tb' - tb) * dy) - (ta' * (m1 - mx) - tb' * (m2 - my)) := by
    rw [← hd1, ← hd2]; grind
  have hv : InR (Num.fv .f32 k - (ta * ux - tb * uy + c)) (4141 / 8388608) := by
    rw [e3]
    clear e3 e1
    unfold InR at *
    constructor <;> grind
  have nq := near1 hq (by unfold InR at *; constructor <;> grind)
  refine ⟨hsc, ?_, is2, ?_⟩
  · unfold InR at *
    constructor <;> grind
  · unfold InR at *
    constructor <;> grind
end Go.Proofs.Ytbpgbplepebcjaa
