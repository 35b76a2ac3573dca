/- Plain law: the root of a complex number leads back to it, nearly. Conditions: its power is at most 33. -/
import Derived.Test.YthncniomobfoeaaEn
import Derived.Test.YthncniomobfoeaaNrm
import Derived.Test.YthncniomobfoeaaEh
namespace Go.Proofs.Ythncniomobfoeaa
open Go.RowKit
open Num Quick Circ

theorem af_of {α : Type} {o : Option Nat} {r : Nat} {k : Nat → Option α} (h : o = some r) : af o k = k r := by
  unfold af
  rw [h]
  exact fo_eq r k
theorem opg_of {α : Type} {op : BinOp} {x y r : Nat} {k : Nat → Option α} (h : floatBits op .f32 x y = some r) : opg op x y k = k r := by
  unfold opg
  rw [qbits_eq, h]
  exact fo_eq r k
/-- A root's square, by its last place. -/
theorem root_sq {v : Rat} {w : Nat} (h : IsRoot FloatKind.f32.format v w) (e : Int) (g : Rat) (h1 : -100 ≤ e) (h2 : e ≤ 70) (hg : p2 (e - 24) = g) (h0 : 0 ≤ v) (hv : v < p2 e * p2 e) : InR (Num.fv .f32 w * Num.fv .f32 w - v) (2 * (Num.fv .f32 w * g) + g * g) := by
  obtain ⟨a, b⟩ := root_near32 h e h1 h2 h0 hv
  have hg0 : 0 < g := by rw [← hg]; exact p2_pos _
  rw [hg] at a b
  have hn : 0 ≤ Num.fv .f32 w := h.nonneg
  obtain ⟨W, eW⟩ : ∃ W, Num.fv .f32 w = W := ⟨_, rfl⟩
  rw [eW] at a b hn ⊢
  have n1 : 0 ≤ W * g := Rat.mul_nonneg hn (Rat.le_of_lt hg0)
  have n2 : 0 ≤ g * g := Rat.mul_nonneg (Rat.le_of_lt hg0) (Rat.le_of_lt hg0)
  have ea : (W + g) * (W + g) = W * W + 2 * (W * g) + g * g := by grind
  rw [ea] at a
  constructor
  · by_cases c : W ≤ g
    · have := Rat.mul_le_mul_of_nonneg_left c hn
      grind
    · have hp : 0 < W - g := by grind
      by_cases d : (W - g) * (W - g) ≤ v
      · have e2 : (W - g) * (W - g) = W * W - 2 * (W * g) + g * g := by grind
        rw [e2] at d
        grind
      · obtain ⟨X, eX⟩ : ∃ X, W - g = X := ⟨_, rfl⟩
        rw [eX] at hp d
        have d' : v < X * X := Rat.not_le.1 d
        obtain ⟨t, et⟩ : ∃ t, (X * X - v) / (2 * X) = t := ⟨_, rfl⟩
        have t1 : t * (2 * X) = X * X - v := by rw [← et]; grind
        have t0 : 0 < t := by
          by_cases q : 0 < t
          · exact q
          · have := Rat.mul_le_mul_of_nonneg_right (Rat.not_lt.1 q) (show 0 ≤ 2 * X by grind)
            grind
        have tx : t ≤ X := by
          by_cases q : t ≤ X
          · exact q
          · have := Rat.mul_le_mul_of_nonneg_right (Rat.le_of_lt (Rat.not_le.1 q)) (show 0 ≤ 2 * X by grind)
            have hv0 := h0
            have : X * (2 * X) = 2 * (X * X) := by grind
            have hxx : 0 < X * X := Rat.mul_pos hp hp
            grind
        have tt : 0 ≤ t * t := Rat.mul_nonneg (Rat.le_of_lt t0) (Rat.le_of_lt t0)
        have := b (X - t) (by grind) (by
          have : (X - t) * (X - t) = X * X - t * (2 * X) + t * t := by grind
          rw [this, t1]
          grind)
        grind
  · grind
/-- A root of a single that is not too great. -/
theorem rootNum_num {x : Nat} (hx : Fl .f32 x) (h0 : 0 ≤ Num.fv .f32 x) (h1 : Num.fv .f32 x ≤ 100) : ∃ r, rootNum x = some r ∧ IsRoot FloatKind.f32.format (Num.fv .f32 x) r := by
  obtain ⟨y, y1, y2, y3, y4⟩ := fwide hx
  have t : (100 : Rat) ≤ top := by decide +kernel
  obtain ⟨s, s1, s2⟩ := fsqrt y2 (by rw [y4]; exact h0) (by rw [y4]; exact Rat.le_trans h1 t)
  have hs : Num.fv .f64 s ≤ top := by
    have hr : Rep FloatKind.f64.format (10 : Rat) := by
      have := rep_nat .f64 10 (by decide)
      exact this
    have := s2.le _ hr (by decide) (by rw [y4]; grind)
    have t2 : (10 : Rat) ≤ top := by decide +kernel
    exact Rat.le_trans this t2
  have hn : (-top : Rat) ≤ 0 := by decide +kernel
  obtain ⟨r, r1, r2⟩ := fnarrow s2.fin hs (Rat.le_trans hn s2.nonneg)
  refine ⟨r, ?_, ?_⟩
  · unfold rootNum wide narrow
    rw [af_of y1, af_of ((qsqrt_eq y).trans s1), af_of r1]
  · have hy : Num.FR .f64 (Num.fv .f32 x) y := ⟨y2, y3, fun u _ hu => by
      have : Num.fv .f64 y ≤ u := by rw [y4]; exact hu
      exact this, fun u _ hu => by
      have : u ≤ Num.fv .f64 y := by rw [y4]; exact hu
      exact this⟩
    exact IsRoot.twice hy s2 r2
theorem nearE {v B d : Rat} {w : Nat} (h : Num.FR .f32 v w) (e : Int) (h1 : -125 ≤ e) (h2 : e ≤ 100) (hB : p2 e = B) (hd : p2 (e - 24) = d) (hv : InR v B) : InR (Num.fv .f32 w - v) d := by
  have := h.near32 e h1 h2 (by rw [hB]; exact hv.1) (by rw [hB]; exact hv.2)
  rw [hd] at this
  unfold InR
  constructor <;> grind
/-- The half of a sum, its root, and the root's square. -/
theorem half_root {p : Nat} {S : Rat} (hp : Num.FR .f32 S p) (h0 : 0 ≤ S) (h1 : S ≤ 23 / 2) : ∃ u, rootPartC p = some u ∧ Fl .f32 u ∧ u < 4294967296 ∧ 0 ≤ Num.fv .f32 u ∧ Num.fv .f32 u ≤ 5 / 2 ∧ InR (2 * (Num.fv .f32 u * Num.fv .f32 u) - S) (44 / 10000000) := by
  have n1 := nearE hp 4 (by decide) (by decide) (show p2 4 = 16 by decide +kernel) (show p2 (4 - 24) = 1 / 1048576 by decide +kernel) ⟨by grind, by grind⟩
  have p0 : 0 ≤ Num.fv .f32 p := hp.ge_int 0 (by decide) h0
  have p1 : Num.fv .f32 p ≤ 23 / 2 := hp.le _ (repS (m := 23) (n := 1) (by decide) (by decide) rfl) h1
  obtain ⟨P, eP⟩ : ∃ P, Num.fv .f32 p = P := ⟨_, rfl⟩
  rw [eP] at n1 p0 p1
  have t : (100 : Rat) ≤ top := by decide +kernel
  obtain ⟨T, eT⟩ : ∃ T : Rat, top = T := ⟨_, rfl⟩
  rw [eT] at t
  obtain ⟨h, a1, a2⟩ := fmul half32.1 hp.fin (by rw [half32.2, eP, eT]; grind) (by rw [half32.2, eP, eT]; grind)
  rw [half32.2, eP] at a2
  have n2 := nearE a2 3 (by decide) (by decide) (show p2 3 = 8 by decide +kernel) (show p2 (3 - 24) = 1 / 2097152 by decide +kernel) ⟨by grind, by grind⟩
  have h0' : 0 ≤ Num.fv .f32 h := a2.ge_int 0 (by decide) (by have : ((0 : Int) : Rat) = 0 := rfl; rw [this]; grind)
  have h6 : Num.fv .f32 h ≤ 6 := a2.le_int 6 (by decide) (by have : ((6 : Int) : Rat) = 6 := rfl; rw [this]; grind)
  obtain ⟨u, u1, u2⟩ := rootNum_num a2.fin h0' (by grind)
  have s1 := root_sq u2 2 (1 / 4194304) (by decide) (by decide) (by decide +kernel) h0' (by rw [show p2 2 = 4 by decide +kernel]; grind)
  have u0 : 0 ≤ Num.fv .f32 u := u2.nonneg
  have u25 : Num.fv .f32 u ≤ 5 / 2 := u2.le _ (repS (m := 5) (n := 1) (by decide) (by decide) rfl) (by decide +kernel) (by grind)
  refine ⟨u, ?_, u2.fin, u2.lt, u0, u25, ?_⟩
  · unfold rootPartC
    rw [opg_of a1]
    have : lt32 h 0 = false := by rw [lt32_eq]; exact not_lt_cmp a2.fin c0.1 (by rw [c0.2]; exact h0')
    rw [if_neg (by rw [this]; exact Bool.false_ne_true)]
    exact u1
  · obtain ⟨U, eU⟩ : ∃ U, Num.fv .f32 u = U := ⟨_, rfl⟩
    obtain ⟨Hh, eH⟩ : ∃ Hh, Num.fv .f32 h = Hh := ⟨_, rfl⟩
    rw [eU] at s1 u0 u25 ⊢
    rw [eH] at s1 n2
    obtain ⟨Q, eQ⟩ : ∃ Q, U * U = Q := ⟨_, rfl⟩
    rw [eQ] at s1 ⊢
    unfold InR at *
    constructor <;> grind
theorem abs_near {X Y s : Rat} (hX : 0 ≤ X) (hY : 0 ≤ Y) (hs : 0 ≤ s) (h : InR (X * X - Y * Y) (s * s)) : InR (X - Y) s := by
  unfold InR at *
  constructor
  · by_cases c : X - Y ≤ s
    · exact c
    · have c' : s < X - Y := Rat.not_le.1 c
      have h1 := Rat.mul_le_mul_of_nonneg_left (show X - Y ≤ X + Y by grind) (show 0 ≤ X - Y by grind)
      have h2 := Rat.mul_lt_mul_of_pos_right c' (show 0 < X - Y by grind)
      have h3 := Rat.mul_le_mul_of_nonneg_left (Rat.le_of_lt c') hs
      have e : (X - Y) * (X + Y) = X * X - Y * Y := by grind
      grind
  · by_cases c : -s ≤ X - Y
    · exact c
    · have c' : s < Y - X := by grind
      have h1 := Rat.mul_le_mul_of_nonneg_left (show Y - X ≤ Y + X by grind) (show 0 ≤ Y - X by grind)
      have h2 := Rat.mul_lt_mul_of_pos_right c' (show 0 < Y - X by grind)
      have h3 := Rat.mul_le_mul_of_nonneg_left (Rat.le_of_lt c') hs
      have e : (Y - X) * (Y + X) = Y * Y - X * X := by grind
      grind
set_option maxHeartbeats 1000000 in
/-- The root of a complex number, squared, leads back to it, nearly. -/
theorem root_num {a b : Nat} (ha : Fl .f32 a) (hb : Fl .f32 b) (hD : Num.fv .f32 a * Num.fv .f32 a + Num.fv .f32 b * Num.fv .f32 b ≤ 33) :
    ∃ u v, rootC a b = some (u, v) ∧ Fl .f32 u ∧ Fl .f32 v ∧ u < 4294967296 ∧ v < 4294967296 ∧ InR (Num.fv .f32 u) (5 / 2) ∧ InR (Num.fv .f32 v) (5 / 2) ∧ Num.fv .f32 u * Num.fv .f32 u + Num.fv .f32 v * Num.fv .f32 v ≤ 6 ∧
      InR (Num.fv .f32 u * Num.fv .f32 u - Num.fv .f32 v * Num.fv .f32 v - Num.fv .f32 a) (1 / 100000) ∧ InR (2 * (Num.fv .f32 u * Num.fv .f32 v) - Num.fv .f32 b) (76 / 10000) := by
  obtain ⟨A, eA⟩ : ∃ A, Num.fv .f32 a = A := ⟨_, rfl⟩
  obtain ⟨B, eB⟩ : ∃ B, Num.fv .f32 b = B := ⟨_, rfl⟩
  rw [eA, eB] at hD
  have na := rsq_nn A
  have nb := rsq_nn B
  have big : ∀ X : Rat, X * X ≤ 33 → InR X 6 := fun X h => by
    constructor
    · by_cases c : X ≤ 6
      · exact c
      · have := Rat.mul_le_mul_of_nonneg_right (Rat.le_of_lt (Rat.not_le.1 c)) (show (0 : Rat) ≤ X by grind)
        grind
    · by_cases c : -6 ≤ X
      · exact c
      · have := Rat.mul_le_mul_of_nonneg_right (show (6 : Rat) ≤ -X by grind) (show (0 : Rat) ≤ -X by grind)
        grind
  have bA := big A (by grind)
  have bB := big B (by grind)
  have h6 : (6 : Rat) ≤ mid := by decide +kernel
  obtain ⟨x, y, p, q, w, s, l, f1, f2, f3, f4, f5, f6, f7, f8⟩ := flong ha hb (by rw [eA]; exact in_le bA h6) (by rw [eB]; exact in_le bB h6)
  rw [eA, eB] at f8
  have hl : longC a b = some l := by
    unfold longC wide narrow
    rw [af_of f1, af_of f2, opf_of f3, opf_of f4, opf_of f5, af_of ((qsqrt_eq w).trans f6), af_of f7]
  have s1 := root_sq f8 3 (1 / 2097152) (by decide) (by decide) (by decide +kernel) (by grind) (by rw [show p2 3 = 8 by decide +kernel]; grind)
  have l0 : 0 ≤ Num.fv .f32 l := f8.nonneg
  have l1 : Num.fv .f32 l ≤ 23 / 4 := f8.le _ (repS (m := 23) (n := 2) (by decide) (by decide) rfl) (by decide +kernel) (by grind)
  have lA : A ≤ Num.fv .f32 l ∧ -A ≤ Num.fv .f32 l := by
    have hr := rep_val FloatKind.f32.format ha
    have e : Ieee.Format.width FloatKind.f32.format = Ieee.Format.width FloatKind.f32.format := rfl
    rcases (Rat.le_total : 0 ≤ A ∨ A ≤ 0) with c | c
    · have := f8.ge A (by rw [← eA]; exact hr) c (by grind)
      have h2 : A ≤ Num.fv .f32 l := this
      constructor
      · exact h2
      · grind
    · have eneg : -A * -A = A * A := by grind
      have := f8.ge (-A) (by rw [← eA]; exact hr.neg) (by grind) (by rw [eneg]; grind)
      have h2 : -A ≤ Num.fv .f32 l := this
      constructor
      · grind
      · exact h2
  obtain ⟨L, eL⟩ : ∃ L, Num.fv .f32 l = L := ⟨_, rfl⟩
  rw [eL] at s1 l0 l1 lA
  have t : (100 : Rat) ≤ top := by decide +kernel
  obtain ⟨T, eT⟩ : ∃ T : Rat, top = T := ⟨_, rfl⟩
  rw [eT] at t
  obtain ⟨g, g1, g2⟩ := fadd f8.fin ha (by rw [eL, eA, eT]; grind) (by rw [eL, eA, eT]; grind)
  obtain ⟨h, h1, h2⟩ := fsub f8.fin ha (by rw [eL, eA, eT]; grind) (by rw [eL, eA, eT]; grind)
  rw [eL, eA] at g2 h2
  obtain ⟨u, u1, u2, u3, u4, u5, u6⟩ := half_root g2 (by grind) (by grind)
  obtain ⟨v, v1, v2, v3, v4, v5, v6⟩ := half_root h2 (by grind) (by grind)
  have hroot : rootC a b = some (u, if lt32 b 0 then ng32 v else v) := by
    unfold rootC
    rw [af_of hl, opg_of g1, af_of u1, opg_of h1, af_of v1]
  have hlt : lt32 b 0 = decide (B < 0) := by
    rw [lt32_eq]
    by_cases c : B < 0
    · rw [decide_eq_true c, cmp_lt' hb c0.1 (by rw [c0.2, eB]; exact c)]; decide
    · rw [decide_eq_false c]
      exact not_lt_cmp hb c0.1 (by rw [c0.2, eB]; exact Rat.not_lt.1 c)
  obtain ⟨U, eU⟩ : ∃ U, Num.fv .f32 u = U := ⟨_, rfl⟩
  obtain ⟨V, eV⟩ : ∃ V, Num.fv .f32 v = V := ⟨_, rfl⟩
  rw [eU] at u4 u5 u6
  rw [eV] at v4 v5 v6
  -- the products
  obtain ⟨a', ea'⟩ : ∃ a', 2 * (U * U) - (L + A) = a' := ⟨_, rfl⟩
  obtain ⟨b', eb'⟩ : ∃ b', 2 * (V * V) - (L - A) = b' := ⟨_, rfl⟩
  rw [ea'] at u6
  rw [eb'] at v6
  have c44 : (0 : Rat) ≤ 44 / 10000000 := by decide +kernel
  have p1 := prod_in v6 (show InR (L + A) (L + A) from ⟨Rat.le_refl, by grind⟩) c44
  have p2' := prod_in u6 (show InR (L - A) (L - A) from ⟨Rat.le_refl, by grind⟩) c44
  have p3 := prod_in u6 v6 c44
  have e44 : (44 / 10000000 : Rat) * (44 / 10000000) ≤ 1 / 1000000000 := by decide +kernel
  have eX : (2 * (U * V)) * (2 * (U * V)) = (2 * (U * U)) * (2 * (V * V)) := by grind
  have eUU : 2 * (U * U) = L + A + a' := by grind
  have eVV : 2 * (V * V) = L - A + b' := by grind
  have eP : (2 * (U * V)) * (2 * (U * V)) = L * L - A * A + b' * (L + A) + a' * (L - A) + a' * b' := by rw [eX, eUU, eVV]; grind
  have UV0 : 0 ≤ U * V := Rat.mul_nonneg u4 v4
  have key : ∀ Y : Rat, 0 ≤ Y → Y * Y = B * B → InR (2 * (U * V) - Y) (76 / 10000) := fun Y hY hYY => by
    refine abs_near (by grind) hY (by decide +kernel) ?_
    rw [eP, hYY]
    have e76 : (76 / 10000 : Rat) * (76 / 10000) = 5776 / 100000000 := by decide +kernel
    rw [e76]
    clear eX eP eUU eVV ea' eb'
    obtain ⟨P1, q1⟩ : ∃ P, b' * (L + A) = P := ⟨_, rfl⟩
    obtain ⟨P2, q2⟩ : ∃ P, a' * (L - A) = P := ⟨_, rfl⟩
    obtain ⟨P3, q3⟩ : ∃ P, a' * b' = P := ⟨_, rfl⟩
    obtain ⟨P4, q4⟩ : ∃ P, L * L = P := ⟨_, rfl⟩
    obtain ⟨P5, q5⟩ : ∃ P, A * A = P := ⟨_, rfl⟩
    obtain ⟨P6, q6⟩ : ∃ P, B * B = P := ⟨_, rfl⟩
    rw [q1] at p1 ⊢
    rw [q2] at p2' ⊢
    rw [q3] at p3 ⊢
    rw [q4] at s1 ⊢
    rw [q5] at s1 ⊢
    rw [q6] at s1 ⊢
    generalize (44 / 10000000 : Rat) * (44 / 10000000) = E at *
    unfold InR at *
    constructor <;> grind
  have UU5 : U * U + V * V ≤ 6 := by
    have e1 : U * U + V * V = L + (a' + b') / 2 := by grind
    rw [e1]
    unfold InR at *
    grind
  have UD : InR (U * U - V * V - A) (1 / 100000) := by
    have e1 : U * U - V * V - A = (a' - b') / 2 := by grind
    rw [e1]
    unfold InR at *
    constructor <;> grind
  by_cases c : B < 0
  · have hlt' : lt32 b 0 = true := by rw [hlt]; exact decide_eq_true c
    obtain ⟨n1, n2, n3⟩ := ng32_num v2 v3
    rw [if_pos hlt'] at hroot
    rw [eV] at n2
    have k := key (-B) (by grind) (by grind)
    refine ⟨u, ng32 v, hroot, u2, n1, u3, n3, ?_, ?_, ?_, ?_, ?_⟩
    · rw [eU]; unfold InR; constructor <;> grind
    · rw [n2]; unfold InR; constructor <;> grind
    · rw [eU, n2]
      have : U * U + -V * -V = U * U + V * V := by grind
      rw [this]
      exact UU5
    · rw [eU, n2, eA]
      have : U * U - -V * -V - A = U * U - V * V - A := by grind
      rw [this]
      exact UD
    · rw [eU, n2, eB]
      have : 2 * (U * -V) - B = -(2 * (U * V) - -B) := by grind
      rw [this]
      unfold InR at *
      constructor <;> grind
  · have hlt' : lt32 b 0 = false := by rw [hlt]; exact decide_eq_false c
    rw [if_neg (by rw [hlt']; exact Bool.false_ne_true)] at hroot
    have k := key B (Rat.not_lt.1 c) rfl
    refine ⟨u, v, hroot, u2, v2, u3, v3, ?_, ?_, ?_, ?_, ?_⟩
    · rw [eU]; unfold InR; constructor <;> grind
    · rw [eV]; unfold InR; constructor <;> grind
    · rw [eU, eV]; exact UU5
    · rw [eU, eV, eA]; exact UD
    · rw [eU, eV, eB]; exact k
end Go.Proofs.Ythncniomobfoeaa
