/- Plain law: singles that are whole numbers over a power of two: sums, differences and products are exact. Conditions: at most 2^24 parts. -/
import Derived.Test.YtkldgcgijkfpaaaMl
namespace Go.Proofs.Ytkldgcgijkfpaaa
open Go.RowKit
open Num Quick

/-- A finite single that is m over two to the power of n. -/
structure Gn (n : Nat) (m : Int) (w : Nat) : Prop where
  fin : Fl .f32 w
  lt : w < 4294967296
  val : Num.fv .f32 w = (m : Rat) / ((2 ^ n : Nat) : Rat)
theorem frac_le {m : Int} (n : Nat) {B : Nat} (h : m.natAbs ≤ B) : InR ((m : Rat) / ((2 ^ n : Nat) : Rat)) (B : Rat) := by
  have : Gr n (B : Int) ((m : Rat) / ((2 ^ n : Nat) : Rat)) := ⟨m, rfl, by omega, by omega⟩
  refine this.bound (C := B) ?_
  have h1 : (1 : Int) ≤ 2 ^ n := by have := Int.pow_pos (n := 2) (m := n) (by decide); omega
  have := Int.mul_le_mul_of_nonneg_left h1 (show (0 : Int) ≤ (B : Int) by omega)
  omega
theorem frac_top {m : Int} (n : Nat) (h : m.natAbs ≤ 16777216) : (m : Rat) / ((2 ^ n : Nat) : Rat) ≤ top ∧ -top ≤ (m : Rat) / ((2 ^ n : Nat) : Rat) := by
  have := frac_le n h
  have t : ((16777216 : Nat) : Rat) ≤ top := by decide +kernel
  unfold InR at this
  generalize top = T at *
  constructor <;> grind
theorem Gn.of_rnd {n : Nat} {m : Int} {v : Rat} {w : Nat} (h : Num.FR .f32 v w) (hv : v = (m : Rat) / ((2 ^ n : Nat) : Rat)) (hm : m.natAbs ≤ 16777216) (hn : n ≤ 149) : Gn n m w := ⟨h.fin, h.lt, by rw [← hv]; exact h.num m n hv hm hn⟩
theorem Gn.add {n : Nat} {m k : Int} {x y : Nat} (hx : Gn n m x) (hy : Gn n k y) (hb : (m + k).natAbs ≤ 16777216) (hn : n ≤ 149) : ∃ r, floatBits .add .f32 x y = some r ∧ Gn n (m + k) r := by
  have e : Num.fv .f32 x + Num.fv .f32 y = ((m + k : Int) : Rat) / ((2 ^ n : Nat) : Rat) := by
    have hp := pow_pos' n
    rw [hx.val, hy.val, Rat.intCast_add]
    grind
  have t := frac_top n hb
  obtain ⟨r, h1, h2⟩ := fadd hx.fin hy.fin (by rw [e]; exact t.1) (by rw [e]; exact t.2)
  exact ⟨r, h1, Gn.of_rnd h2 e hb hn⟩
theorem Gn.sub {n : Nat} {m k : Int} {x y : Nat} (hx : Gn n m x) (hy : Gn n k y) (hb : (m - k).natAbs ≤ 16777216) (hn : n ≤ 149) : ∃ r, floatBits .sub .f32 x y = some r ∧ Gn n (m - k) r := by
  have e : Num.fv .f32 x - Num.fv .f32 y = ((m - k : Int) : Rat) / ((2 ^ n : Nat) : Rat) := by
    have hp := pow_pos' n
    rw [hx.val, hy.val, Rat.intCast_sub]
    grind
  have t := frac_top n hb
  obtain ⟨r, h1, h2⟩ := fsub hx.fin hy.fin (by rw [e]; exact t.1) (by rw [e]; exact t.2)
  exact ⟨r, h1, Gn.of_rnd h2 e hb hn⟩
theorem frac_mul (m k : Int) (n l : Nat) : (m : Rat) / ((2 ^ n : Nat) : Rat) * ((k : Rat) / ((2 ^ l : Nat) : Rat)) = ((m * k : Int) : Rat) / ((2 ^ (n + l) : Nat) : Rat) := by
  have hp := pow_pos' n
  have hq := pow_pos' l
  have e2 : ((2 ^ (n + l) : Nat) : Rat) = ((2 ^ n : Nat) : Rat) * ((2 ^ l : Nat) : Rat) := by rw [Nat.pow_add, Rat.natCast_mul]
  rw [Rat.intCast_mul, e2]
  have h1 : (m : Rat) / ((2 ^ n : Nat) : Rat) * ((2 ^ n : Nat) : Rat) = (m : Rat) := by grind
  have h2 : (k : Rat) / ((2 ^ l : Nat) : Rat) * ((2 ^ l : Nat) : Rat) = (k : Rat) := by grind
  have hpq := Rat.mul_pos hp hq
  have h3 : (m : Rat) * (k : Rat) / (((2 ^ n : Nat) : Rat) * ((2 ^ l : Nat) : Rat)) * (((2 ^ n : Nat) : Rat) * ((2 ^ l : Nat) : Rat)) = (m : Rat) * (k : Rat) := by grind
  grind
theorem Gn.mul {n l : Nat} {m k : Int} {x y : Nat} (hx : Gn n m x) (hy : Gn l k y) (hb : (m * k).natAbs ≤ 16777216) (hn : n + l ≤ 149) : ∃ r, floatBits .mul .f32 x y = some r ∧ Gn (n + l) (m * k) r := by
  have e : Num.fv .f32 x * Num.fv .f32 y = ((m * k : Int) : Rat) / ((2 ^ (n + l) : Nat) : Rat) := by
    rw [hx.val, hy.val, frac_mul]
  have t := frac_top (n + l) hb
  obtain ⟨r, h1, h2⟩ := fmul hx.fin hy.fin (by rw [e]; exact t.1) (by rw [e]; exact t.2)
  exact ⟨r, h1, Gn.of_rnd h2 e hb hn⟩
theorem Gn.up {n : Nat} {m : Int} {w : Nat} (k : Nat) (h : Gn n m w) : Gn (n + k) (m * 2 ^ k) w := by
  refine ⟨h.fin, h.lt, ?_⟩
  rw [h.val]
  have := frac_mul m (2 ^ k) n k
  rw [← this]
  have hp := pow_pos' k
  have e : (((2 : Int) ^ k : Int) : Rat) = ((2 ^ k : Nat) : Rat) := by
    rw [Rat.natCast_pow, Rat.intCast_pow]; rfl
  rw [e]
  have : ((2 ^ k : Nat) : Rat) / ((2 ^ k : Nat) : Rat) = 1 := by grind
  rw [this, Rat.mul_one]
theorem frac_lt (n : Nat) (m k : Int) : (m : Rat) / ((2 ^ n : Nat) : Rat) < (k : Rat) / ((2 ^ n : Nat) : Rat) ↔ m < k := by
  have hp := pow_pos' n
  rw [← Rat.intCast_lt_intCast (a := m) (b := k)]
  have h1 : (m : Rat) / ((2 ^ n : Nat) : Rat) * ((2 ^ n : Nat) : Rat) = (m : Rat) := by grind
  have h2 : (k : Rat) / ((2 ^ n : Nat) : Rat) * ((2 ^ n : Nat) : Rat) = (k : Rat) := by grind
  constructor
  · intro h
    have := Rat.mul_lt_mul_of_pos_right h hp
    rw [h1, h2] at this
    exact this
  · intro h
    rw [← h1, ← h2] at h
    exact Rat.lt_of_mul_lt_mul_right h (Rat.le_of_lt hp)
theorem Gn.inR {n : Nat} {m : Int} {w B : Nat} (h : Gn n m w) (hb : m.natAbs ≤ B) : InR (Num.fv .f32 w) (B : Rat) := by rw [h.val]; exact frac_le n hb
/-- How two of one grid stand to each other. -/
theorem Gn.order {n : Nat} {m k : Int} {x y : Nat} (hx : Gn n m x) (hy : Gn n k y) : ∃ o, FloatKind.f32.format.order x y = some o ∧ (o = .lt ↔ m < k) ∧ (o = .gt ↔ k < m) ∧ (o = .eq ↔ m = k) := by
  obtain ⟨o, h1, h2, h3, h4⟩ := order_fin FloatKind.f32.format hx.fin hy.fin
  have e1 := hx.val
  have e2 := hy.val
  unfold Num.fv at e1 e2
  rw [e1, e2, frac_lt] at h2 h4
  refine ⟨o, h1, h2, h4, ?_⟩
  constructor
  · intro h
    have := fun q => (h2.2 q).symm.trans h
    have := fun q => (h4.2 q).symm.trans h
    rcases Int.lt_trichotomy m k with c | c | c
    · have := (h2.2 c).symm.trans h; cases this
    · exact c
    · have := (h4.2 c).symm.trans h; cases this
  · intro h
    subst h
    cases o
    · exact absurd (h2.1 rfl) (Int.lt_irrefl _)
    · rfl
    · exact absurd (h4.1 rfl) (Int.lt_irrefl _)
theorem Gn.gt {n : Nat} {m k : Int} {x y : Nat} (hx : Gn n m x) (hy : Gn n k y) : (FloatKind.f32.format.order x y == some .gt) = decide (k < m) := by
  obtain ⟨o, h, h1, h2, h3⟩ := hx.order hy
  rw [h]
  by_cases c : k < m
  · rw [h2.2 c]; simp [c]
  · cases o
    · simp [c]
    · simp [c]
    · exact absurd (h2.1 rfl) c
theorem Gn.lt' {n : Nat} {m k : Int} {x y : Nat} (hx : Gn n m x) (hy : Gn n k y) : (FloatKind.f32.format.order x y == some .lt) = decide (m < k) := by
  obtain ⟨o, h, h1, h2, h3⟩ := hx.order hy
  rw [h]
  by_cases c : m < k
  · rw [h1.2 c]; simp [c]
  · cases o
    · exact absurd (h1.1 rfl) c
    · simp [c]
    · simp [c]
theorem Gn.eq' {n : Nat} {m k : Int} {x y : Nat} (hx : Gn n m x) (hy : Gn n k y) : (FloatKind.f32.format.order x y == some .eq) = decide (m = k) := by
  obtain ⟨o, h, h1, h2, h3⟩ := hx.order hy
  rw [h]
  by_cases c : m = k
  · rw [h3.2 c]; simp [c]
  · cases o
    · simp [c]
    · exact absurd (h3.1 rfl) c
    · simp [c]
theorem Gn.zero (n : Nat) : Gn n 0 0 := by
  refine ⟨c0.1, by decide, ?_⟩
  rw [c0.2]
  have hp := pow_pos' n
  have : ((0 : Int) : Rat) = 0 := rfl
  rw [this]
  grind
/-- A whole number over a power of two, as the program writes it. -/
theorem gn_quo (m : Int) (n c : Nat) (hc : Fl .f32 c) (hv : Num.fv .f32 c = ((2 ^ n : Nat) : Rat)) (hm : m.natAbs ≤ 100) (hn : n ≤ 149) : ∃ w, floatBits .quo .f32 (floatOfInt .f32 m) c = some w ∧ Gn n m w := by
  obtain ⟨i1, i2, i3⟩ := fint .f32 m (by omega)
  have t := frac_top (m := m) n (by omega)
  have hp := pow_pos' n
  obtain ⟨w, w1, w2⟩ := fdiv i1 hc (by rw [hv]; grind) (by rw [i2, hv]; exact t.1) (by rw [i2, hv]; exact t.2)
  rw [i2, hv] at w2
  exact ⟨w, w1, Gn.of_rnd w2 rfl (by omega) hn⟩
theorem c4 : Fl .f32 1082130432 ∧ Num.fv .f32 1082130432 = ((2 ^ 2 : Nat) : Rat) := by
  refine ⟨?_, ?_⟩
  · show (1082130432 : Nat) % FloatKind.f32.format.signWeight < FloatKind.f32.format.infRung
    decide +kernel
  · unfold Num.fv val rv p2
    decide +kernel
theorem c8 : Fl .f32 1090519040 ∧ Num.fv .f32 1090519040 = ((2 ^ 3 : Nat) : Rat) := by
  refine ⟨?_, ?_⟩
  · show (1090519040 : Nat) % FloatKind.f32.format.signWeight < FloatKind.f32.format.infRung
    decide +kernel
  · unfold Num.fv val rv p2
    decide +kernel
theorem c32 : Fl .f32 1107296256 ∧ Num.fv .f32 1107296256 = ((2 ^ 5 : Nat) : Rat) := by
  refine ⟨?_, ?_⟩
  · show (1107296256 : Nat) % FloatKind.f32.format.signWeight < FloatKind.f32.format.infRung
    decide +kernel
  · unfold Num.fv val rv p2
    decide +kernel
end Go.Proofs.Ytkldgcgijkfpaaa
