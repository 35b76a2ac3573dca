/- Plain law: lengths in the plane with rational numbers (triangles, products), roots that are near, the greater of two floats. -/
import Derived.Test.YtkldgcgijkfpaaaMe
namespace Go.Proofs.Ytkldgcgijkfpaaa
open Go.RowKit
open Num Quick

/-- The pair is not longer than A. -/
structure Le2 (x y A : Rat) : Prop where
  nn : 0 ≤ A
  sq : x * x + y * y ≤ A * A
theorem rsq_nn (x : Rat) : 0 ≤ x * x := by
  rcases (Rat.le_total : 0 ≤ x ∨ x ≤ 0) with c | c
  · exact Rat.mul_nonneg c c
  · have := Rat.mul_nonneg (show 0 ≤ -x by grind) (show 0 ≤ -x by grind)
    grind
theorem Le2.cs {x y A u v B : Rat} (h : Le2 x y A) (k : Le2 u v B) : x * u + y * v ≤ A * B := by
  have h0 := Rat.mul_nonneg h.nn k.nn
  refine sq_le h0 ?_
  have e : (x * u + y * v) * (x * u + y * v) + (x * v - y * u) * (x * v - y * u) = (x * x + y * y) * (u * u + v * v) := by grind
  have n1 := rsq_nn (x * v - y * u)
  have n2 : 0 ≤ u * u + v * v := by have := rsq_nn u; have := rsq_nn v; grind
  have n3 := rsq_nn A
  have m1 := Rat.mul_le_mul_of_nonneg_right h.sq n2
  have m2 := Rat.mul_le_mul_of_nonneg_left k.sq n3
  grind
theorem Le2.add {x y A u v B : Rat} (h : Le2 x y A) (k : Le2 u v B) : Le2 (x + u) (y + v) (A + B) := by
  refine ⟨by have := h.nn; have := k.nn; grind, ?_⟩
  have := h.cs k
  have := h.sq
  have := k.sq
  grind
theorem Le2.mul {x y A u v B : Rat} (h : Le2 x y A) (k : Le2 u v B) : Le2 (x * u - y * v) (x * v + y * u) (A * B) := by
  refine ⟨Rat.mul_nonneg h.nn k.nn, ?_⟩
  have n2 : 0 ≤ u * u + v * v := by have := rsq_nn u; have := rsq_nn v; grind
  have n3 := rsq_nn A
  have m1 := Rat.mul_le_mul_of_nonneg_right h.sq n2
  have m2 := Rat.mul_le_mul_of_nonneg_left k.sq n3
  grind
theorem Le2.conj {x y A : Rat} (h : Le2 x y A) : Le2 x (-y) A := ⟨h.nn, by have := h.sq; grind⟩
theorem Le2.neg {x y A : Rat} (h : Le2 x y A) : Le2 (-x) (-y) A := ⟨h.nn, by have := h.sq; grind⟩
theorem Le2.mono {x y A B : Rat} (h : Le2 x y A) (hB : A ≤ B) : Le2 x y B := ⟨by have := h.nn; grind, by have := le_sq h.nn hB; have := h.sq; grind⟩
theorem Le2.scale {x y A c : Rat} (h : Le2 x y A) (hc : 0 ≤ c) : Le2 (c * x) (c * y) (c * A) := by
  refine ⟨Rat.mul_nonneg hc h.nn, ?_⟩
  have := Rat.mul_le_mul_of_nonneg_left h.sq (rsq_nn c)
  grind
theorem abs_sq {x d : Rat} (h1 : x ≤ d) (h2 : -d ≤ x) : x * x ≤ d * d := by
  rcases (Rat.le_total : 0 ≤ x ∨ x ≤ 0) with c | c
  · exact le_sq c h1
  · have := le_sq (show 0 ≤ -x by grind) (show -x ≤ d by grind)
    grind
theorem Le2.small {x y d : Rat} (h1 : InR x d) (h2 : InR y d) : Le2 x y (2 * d) := by
  have a := abs_sq h1.1 h1.2
  have b := abs_sq h2.1 h2.2
  have c : 0 ≤ d := by have := h1.1; have := h1.2; grind
  exact ⟨by grind, by have := rsq_nn d; grind⟩
theorem Le2.fst {x y A : Rat} (h : Le2 x y A) : InR x A := by
  have a : x * x ≤ A * A := by have := h.sq; have := rsq_nn y; grind
  refine ⟨sq_le h.nn a, ?_⟩
  have := sq_le (a := -x) h.nn (by grind)
  grind
theorem Le2.snd {x y A : Rat} (h : Le2 x y A) : InR y A := by
  have a : y * y ≤ A * A := by have := h.sq; have := rsq_nn x; grind
  refine ⟨sq_le h.nn a, ?_⟩
  have := sq_le (a := -y) h.nn (by grind)
  grind
/-- A grid's point below a root. -/
theorem root_cell {v g : Rat} (hg : 0 ≤ g) (h0 : 0 ≤ v) : ∀ M : Nat, v < ((M : Rat) * g) * ((M : Rat) * g) → ∃ m : Nat, m < M ∧ ((m : Rat) * g) * ((m : Rat) * g) ≤ v ∧ v < (((m + 1 : Nat) : Rat) * g) * (((m + 1 : Nat) : Rat) * g)
  | 0, h => by exfalso; simp at h; grind
  | M + 1, h => by
    by_cases c : ((M : Rat) * g) * ((M : Rat) * g) ≤ v
    · exact ⟨M, by omega, c, h⟩
    · obtain ⟨m, h1, h2⟩ := root_cell hg h0 M (by grind)
      exact ⟨m, by omega, h2⟩
/-- A root in single precision is near. -/
theorem root_near32 {v : Rat} {w : Nat} (h : IsRoot FloatKind.f32.format v w) (e : Int) (h1 : -100 ≤ e) (h2 : e ≤ 70) (h0 : 0 ≤ v) (hv : v < p2 e * p2 e) :
    v ≤ (Num.fv .f32 w + p2 (e - 24)) * (Num.fv .f32 w + p2 (e - 24)) ∧ ∀ A : Rat, 0 ≤ A → v ≤ A * A → Num.fv .f32 w ≤ A + p2 (e - 24) := by
  have hg := p2_pos (e - 24)
  have hE : p2 e = ((16777216 : Nat) : Rat) * p2 (e - 24) := by
    have h := p2_add 24 (e - 24)
    rw [show 24 + (e - 24) = e by omega] at h
    rw [h]
    congr 1
  obtain ⟨m, m1, m2, m3⟩ := root_cell (g := p2 (e - 24)) (by grind) h0 16777216 (by rw [← hE]; exact hv)
  have r0 := rep_at .f32 (m : Int) (e - 24) (by omega) (by omega) (by omega)
  have r1 := rep_at .f32 ((m + 1 : Nat) : Int) (e - 24) (by omega) (by omega) (by omega)
  rw [Rat.intCast_natCast] at r0 r1
  have n0 : 0 ≤ (m : Rat) * p2 (e - 24) := Rat.mul_nonneg Rat.natCast_nonneg (by grind)
  have n1 : 0 ≤ ((m + 1 : Nat) : Rat) * p2 (e - 24) := Rat.mul_nonneg Rat.natCast_nonneg (by grind)
  have l0 := h.ge _ r0 n0 m2
  have l1 := h.le _ r1 n1 (by grind)
  have e1 : ((m + 1 : Nat) : Rat) * p2 (e - 24) = (m : Rat) * p2 (e - 24) + p2 (e - 24) := by
    rw [Rat.natCast_add]
    have : ((1 : Nat) : Rat) = 1 := rfl
    rw [this]
    grind
  rw [e1] at l1 m3
  have l0' : (m : Rat) * p2 (e - 24) ≤ Num.fv .f32 w := l0
  have l1' : Num.fv .f32 w ≤ (m : Rat) * p2 (e - 24) + p2 (e - 24) := l1
  constructor
  · have := le_sq (a := (m : Rat) * p2 (e - 24) + p2 (e - 24)) (b := Num.fv .f32 w + p2 (e - 24)) (by grind) (by grind)
    grind
  · intro A hA hvA
    have := sq_le hA (show ((m : Rat) * p2 (e - 24)) * ((m : Rat) * p2 (e - 24)) ≤ A * A by grind)
    grind
/-- The greater of two floats. -/
theorem fmax_num {k : FloatKind} {x y : Nat} (hx : Fl k x) (hy : Fl k y) : ∃ r, (r = x ∨ r = y) ∧ fv k x ≤ fv k r ∧ fv k y ≤ fv k r ∧ ∀ (ts : Array TypeId) (t : TypeId) (w : World), (Builtin.max_ ts t #[.float k x, .float k y]).run Try.prog w = .ok (.float k r) w := by
  obtain ⟨o, o1, o2, o3, o4⟩ := order_fin k.format hx hy
  cases o
  · refine ⟨y, .inr rfl, Rat.le_of_lt (o2.1 rfl), Rat.le_refl, fun ts t w => ?_⟩
    simp [Builtin.max_, Builtin.max2, o1]
  · have e := o3.1 rfl
    have e' : fv k x = fv k y := e
    by_cases c : (k.decode x).neg = true
    · refine ⟨y, .inr rfl, by grind, Rat.le_refl, fun ts t w => ?_⟩
      simp [Builtin.max_, Builtin.max2, o1, c]
    · refine ⟨x, .inl rfl, Rat.le_refl, by grind, fun ts t w => ?_⟩
      simp [Builtin.max_, Builtin.max2, o1, c]
  · refine ⟨x, .inl rfl, Rat.le_refl, Rat.le_of_lt (o4.1 rfl), fun ts t w => ?_⟩
    simp [Builtin.max_, Builtin.max2, o1]
end Go.Proofs.Ytkldgcgijkfpaaa
