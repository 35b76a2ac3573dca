/- Plain law: the error of a rounded single by its own size; bounds of cross products. Conditions: as stated at each. -/
import Derived.Test.YtkldgcgijkfpaaaNrm
namespace Go.Proofs.Ytkldgcgijkfpaaa
open Go.RowKit
open Num Quick

/-- The step of a single's rounding, as a share of the number. -/
abbrev rho : Rat := 1 / 8388608
abbrev tinr : Rat := 1 / 1000000000000
theorem p2_m23 : p2 (-23) = rho := by decide +kernel
theorem p2_m149 : p2 (-149) ≤ tinr := by decide +kernel
theorem rho_nn : (0 : Rat) ≤ rho := by decide +kernel
theorem tinr_nn : (0 : Rat) ≤ tinr := by decide +kernel
theorem rel_least {v : Rat} {w : Nat} (h : Num.FR .f32 v w) {V : Rat} (hv : InR v V) (hb : InR v (p2 (-125))) : InR (Num.fv .f32 w - v) (V * rho + tinr) := by
  have nr := h.near32 (-125) (by decide) (by decide) hb.1 hb.2
  have t := p2_m149
  rw [show (-125 : Int) - 24 = -149 by decide] at nr
  have V0 : 0 ≤ V := by have := hv.1; have := hv.2; grind
  have r0 : 0 ≤ V * rho := Rat.mul_nonneg V0 rho_nn
  generalize V * rho = R at *
  generalize p2 (-149) = e at *
  generalize tinr = T at *
  have n1 := nr.1
  have n2 := nr.2
  clear h hv hb nr
  unfold InR
  constructor <;> grind
theorem rel_more {v : Rat} {w : Nat} (h : Num.FR .f32 v w) {V : Rat} (hv : InR v V) (n : Nat) (hn : n < 165) (hb : InR v (p2 (((n + 1 : Nat) : Int) - 125))) (c : ¬ InR v (p2 ((n : Int) - 125))) : InR (Num.fv .f32 w - v) (V * rho + tinr) := by
  have nr := h.near32 (((n + 1 : Nat) : Int) - 125) (by omega) (by omega) hb.1 hb.2
  have e : p2 (((n + 1 : Nat) : Int) - 125 - 24) = p2 ((n : Int) - 125) * rho := by
    rw [← p2_m23, ← p2_add]
    congr 1
    omega
  rw [e] at nr
  have hV : p2 ((n : Int) - 125) ≤ V := by
    have h1 := hv.1
    have h2 := hv.2
    unfold InR at c
    generalize p2 ((n : Int) - 125) = g at *
    clear h hv hb nr e
    grind
  have m := Rat.mul_le_mul_of_nonneg_right hV rho_nn
  have n1 := nr.1
  have n2 := nr.2
  have t0 := tinr_nn
  generalize V * rho = R at *
  generalize p2 ((n : Int) - 125) * rho = g at *
  generalize tinr = T at *
  clear h hv hb nr e c hV
  unfold InR
  constructor <;> grind
theorem rel_step {v : Rat} {w : Nat} (h : Num.FR .f32 v w) {V : Rat} (hv : InR v V) (n : Nat) : n ≤ 165 → InR v (p2 ((n : Int) - 125)) → InR (Num.fv .f32 w - v) (V * rho + tinr) := by
  induction n with
  | zero => exact fun _ hb => rel_least h hv hb
  | succ n ih =>
    intro hn hb
    by_cases c : InR v (p2 ((n : Int) - 125))
    · exact ih (by omega) c
    · exact rel_more h hv n (by omega) hb c
/-- The error is a share of the number. -/
theorem rel32 {v : Rat} {w : Nat} (h : Num.FR .f32 v w) {V : Rat} (hv : InR v V) (hV : V ≤ 1099511627776) : InR (Num.fv .f32 w - v) (V * rho + tinr) := by
  refine rel_step h hv 165 (by omega) ?_
  have e : p2 (((165 : Nat) : Int) - 125) = 1099511627776 := by decide +kernel
  rw [e]
  unfold InR at *
  constructor <;> grind
theorem Le2.rot {x y A : Rat} (h : Le2 x y A) : Le2 y (-x) A := ⟨h.nn, by have := h.sq; grind⟩
/-- The cross product of two pairs. -/
theorem Le2.cross {x y A u v B : Rat} (h : Le2 x y A) (k : Le2 u v B) : InR (x * v - y * u) (A * B) := by
  have a := h.cs k.rot
  have b := h.cs k.rot.neg
  unfold InR
  constructor <;> grind
theorem Le2.small' {x y d : Rat} (h1 : InR x d) (h2 : InR y d) : Le2 x y (3 / 2 * d) := by
  have a := abs_sq h1.1 h1.2
  have b := abs_sq h2.1 h2.2
  have c : 0 ≤ d := by have := h1.1; have := h1.2; grind
  exact ⟨by grind, by have := rsq_nn d; grind⟩
end Go.Proofs.Ytkldgcgijkfpaaa
