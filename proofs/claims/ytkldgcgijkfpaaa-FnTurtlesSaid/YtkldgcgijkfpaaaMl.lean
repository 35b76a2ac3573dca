/- Plain law: numbers on a grid of powers of two are exact; what maps of the grid make. -/
import Derived.Test.YtkldgcgijkfpaaaMe
namespace Go.Proofs.Ytkldgcgijkfpaaa
open Go.RowKit
open Num Quick

/-- x is m over two to the power of n, with m at most B in size. -/
def Gr (n : Nat) (B : Int) (x : Rat) : Prop := ∃ m : Int, x = (m : Rat) / ((2 ^ n : Nat) : Rat) ∧ -B ≤ m ∧ m ≤ B
theorem pow_pos' (n : Nat) : (0 : Rat) < ((2 ^ n : Nat) : Rat) := Rat.natCast_pos.2 (Nat.two_pow_pos n)
theorem Gr.add {n : Nat} {B C : Int} {x y : Rat} (hx : Gr n B x) (hy : Gr n C y) : Gr n (B + C) (x + y) := by
  obtain ⟨m, e, h1, h2⟩ := hx
  obtain ⟨k, e', h3, h4⟩ := hy
  have hp := pow_pos' n
  refine ⟨m + k, ?_, by omega, by omega⟩
  rw [e, e', Rat.intCast_add]
  grind
theorem Gr.neg {n : Nat} {B : Int} {x : Rat} (hx : Gr n B x) : Gr n B (-x) := by
  obtain ⟨m, e, h1, h2⟩ := hx
  have hp := pow_pos' n
  refine ⟨-m, ?_, by omega, by omega⟩
  rw [e, Rat.intCast_neg]
  grind
theorem Gr.sub {n : Nat} {B C : Int} {x y : Rat} (hx : Gr n B x) (hy : Gr n C y) : Gr n (B + C) (x - y) := by
  have := hx.add hy.neg
  have e : x + -y = x - y := by grind
  rw [e] at this
  exact this
theorem mul_bound {m k B C : Int} (h1 : -B ≤ m) (h2 : m ≤ B) (h3 : -C ≤ k) (h4 : k ≤ C) : -(B * C) ≤ m * k ∧ m * k ≤ B * C := by
  have a := Int.mul_nonneg (show 0 ≤ B - m by omega) (show 0 ≤ C + k by omega)
  have b := Int.mul_nonneg (show 0 ≤ B + m by omega) (show 0 ≤ C - k by omega)
  have c := Int.mul_nonneg (show 0 ≤ B - m by omega) (show 0 ≤ C - k by omega)
  have d := Int.mul_nonneg (show 0 ≤ B + m by omega) (show 0 ≤ C + k by omega)
  constructor <;> grind
theorem Gr.mul {n l : Nat} {B C : Int} {x y : Rat} (hx : Gr n B x) (hy : Gr l C y) : Gr (n + l) (B * C) (x * y) := by
  obtain ⟨m, e, h1, h2⟩ := hx
  obtain ⟨k, e', h3, h4⟩ := hy
  have hp := pow_pos' n
  have hq := pow_pos' l
  have hb := mul_bound h1 h2 h3 h4
  refine ⟨m * k, ?_, hb.1, hb.2⟩
  have e2 : ((2 ^ (n + l) : Nat) : Rat) = ((2 ^ n : Nat) : Rat) * ((2 ^ l : Nat) : Rat) := by rw [Nat.pow_add, Rat.natCast_mul]
  rw [e, e', Rat.intCast_mul, e2]
  have h1 : (m : Rat) / ((2 ^ n : Nat) : Rat) * ((2 ^ n : Nat) : Rat) = (m : Rat) := by grind
  have h2 : (k : Rat) / ((2 ^ l : Nat) : Rat) * ((2 ^ l : Nat) : Rat) = (k : Rat) := by grind
  have hpq := Rat.mul_pos hp hq
  have h3 : (m : Rat) * (k : Rat) / (((2 ^ n : Nat) : Rat) * ((2 ^ l : Nat) : Rat)) * (((2 ^ n : Nat) : Rat) * ((2 ^ l : Nat) : Rat)) = (m : Rat) * (k : Rat) := by grind
  grind
theorem Gr.up {n : Nat} {B : Int} {x : Rat} (k : Nat) (hx : Gr n B x) : Gr (n + k) (B * 2 ^ k) x := by
  have h1 : Gr k (2 ^ k) 1 := by
    refine ⟨2 ^ k, ?_, by have := Int.pow_pos (n := 2) (m := k) (by decide); omega, Int.le_refl _⟩
    have hp := pow_pos' k
    have e : (((2 : Int) ^ k : Int) : Rat) = ((2 ^ k : Nat) : Rat) := by
      rw [Rat.natCast_pow, Rat.intCast_pow]; rfl
    rw [e]
    grind
  have := hx.mul h1
  rw [Rat.mul_one] at this
  exact this
theorem Gr.mono {n : Nat} {B C : Int} {x : Rat} (hx : Gr n B x) (h : B ≤ C) : Gr n C x := by
  obtain ⟨m, e, h1, h2⟩ := hx
  exact ⟨m, e, by omega, by omega⟩
theorem Gr.rep {n : Nat} {B : Int} {x : Rat} (k : FloatKind) (hx : Gr n B x) (hB : B ≤ 16777216) (hn : n ≤ 149) : Ieee.Format.width k.format = Ieee.Format.width k.format ∧ Rep k.format x := by
  obtain ⟨m, e, h1, h2⟩ := hx
  refine ⟨rfl, ?_⟩
  rw [e]
  exact rep_frac k m n (by omega) hn
theorem Gr.exact {n : Nat} {B : Int} {x : Rat} {k : FloatKind} {w : Nat} (hx : Gr n B x) (h : FR k x w) (hB : B ≤ 16777216) (hn : n ≤ 149) : Num.fv k w = x := IsRnd.exact _ h (hx.rep k hB hn).2
theorem Gr.bound {n : Nat} {B : Int} {x : Rat} (hx : Gr n B x) {C : Nat} (h : B ≤ C * 2 ^ n) : InR x (C : Rat) := by
  obtain ⟨m, e, h1, h2⟩ := hx
  have hp := pow_pos' n
  have e1 : x * ((2 ^ n : Nat) : Rat) = (m : Rat) := by rw [e]; grind
  have e2 : ((B : Int) : Rat) ≤ (C : Rat) * ((2 ^ n : Nat) : Rat) := by
    rw [← Rat.natCast_mul, ← Rat.intCast_natCast]
    apply Rat.intCast_le_intCast.2
    have : (((C * 2 ^ n : Nat)) : Int) = (C : Int) * 2 ^ n := by norm_cast
    omega
  have e3 : (m : Rat) ≤ ((B : Int) : Rat) := Rat.intCast_le_intCast.2 h2
  have e4 : -((B : Int) : Rat) ≤ (m : Rat) := by
    rw [← Rat.intCast_neg]
    exact Rat.intCast_le_intCast.2 h1
  constructor
  · apply rat_cancel hp
    grind
  · apply rat_cancel hp
    grind
end Go.Proofs.Ytkldgcgijkfpaaa
