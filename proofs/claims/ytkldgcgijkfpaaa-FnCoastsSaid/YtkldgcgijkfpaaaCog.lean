/- Walk: the point that is farthest from a line. Conditions: numbers of at most 32 in their parts. -/
import Derived.Test.YtkldgcgijkfpaaaCof
namespace Go.Proofs.Ytkldgcgijkfpaaa
open Go.RowKit
open Num Quick
attribute [local go_sem] run_store_fl run_store_cx

theorem single_bounds {x : Nat} {s : Bool} {m : Nat} {i : Int} (h : FloatKind.f32.format.read x = .number s m i) : m < 16777216 ∧ -149 ≤ i ∧ i ≤ 104 := by
  have hb : FloatKind.f32.format.binade = 8388608 := by decide
  have hi : FloatKind.f32.format.infRung = 2139095040 := by decide
  have hl : FloatKind.f32.format.leastPlace = -149 := by decide
  unfold Ieee.Format.read at h
  rw [hb, hi, hl] at h
  generalize x % FloatKind.f32.format.signWeight = q at h
  simp only at h
  split at h
  · injection h with _ h1 h2
    omega
  · split at h
    · injection h with _ h1 h2
      omega
    · split at h <;> cases h
/-- A finite single is a whole number of least places, times a power of two. -/
theorem single_form {x : Nat} (h : Fl .f32 x) : ∃ (m : Int) (i : Int), m.natAbs < 16777216 ∧ -149 ≤ i ∧ i ≤ 104 ∧ Num.fv .f32 x = (m : Rat) * p2 i := by
  obtain ⟨s, m, i, e1, v⟩ := read_fin FloatKind.f32.format h
  obtain ⟨b1, b2, b3⟩ := single_bounds e1
  cases s with
  | false => exact ⟨(m : Int), i, by omega, b2, b3, by rw [show Num.fv .f32 x = val FloatKind.f32.format x from rfl, v]; rfl⟩
  | true => exact ⟨-(m : Int), i, by omega, b2, b3, by rw [show Num.fv .f32 x = val FloatKind.f32.format x from rfl, v]; simp only [if_true]; rw [Rat.intCast_neg, Rat.neg_mul]; rfl⟩
theorem p2_one_le {i : Int} (h : 0 ≤ i) : 1 ≤ p2 i := by
  have := p2_le h
  have e : p2 0 = 1 := by decide +kernel
  rwa [e] at this
/-- 512 times a middling single is a single. -/
theorem rep512 {x : Nat} (h : Fl .f32 x) (hb : InR (Num.fv .f32 x) 16777216) : Rep FloatKind.f32.format (512 * Num.fv .f32 x) := by
  obtain ⟨m, i, m1, i1, i2, e⟩ := single_form h
  by_cases h0 : m = 0
  · have : 512 * Num.fv .f32 x = ((0 : Int) : Rat) := by rw [e, h0, Rat.intCast_zero]; grind
    rw [this]
    exact rep_nat .f32 0 (by decide)
  · have hi : i ≤ 24 := by
      apply Int.not_lt.1
      intro hlt
      have h25 : p2 25 ≤ p2 i := p2_le (by omega)
      have e25 : p2 25 = 33554432 := by decide +kernel
      rw [e25] at h25
      have hp := p2_pos i
      rw [e] at hb
      rcases (by omega : 1 ≤ m ∨ m ≤ -1) with hm | hm
      · have hm' : (1 : Rat) ≤ (m : Rat) := by
          have : (((1 : Int)) : Rat) ≤ (m : Rat) := Rat.intCast_le_intCast.2 hm
          exact this
        have := Rat.mul_le_mul_of_nonneg_right hm' (Rat.le_of_lt hp)
        have := hb.1
        grind
      · have hm' : (m : Rat) ≤ -1 := by
          have : (m : Rat) ≤ (((-1 : Int)) : Rat) := Rat.intCast_le_intCast.2 hm
          exact this
        have := Rat.mul_le_mul_of_nonneg_right hm' (Rat.le_of_lt hp)
        have := hb.2
        grind
    have e9 : p2 9 = 512 := by decide +kernel
    have : 512 * Num.fv .f32 x = (m : Rat) * p2 (i + 9) := by rw [e, p2_add, e9]; grind
    rw [this]
    exact rep_at .f32 m (i + 9) (by omega) (by omega) (by omega)
/-- Where two singles differ their difference, rounded, is not zero. -/
theorem diff_nz {x y w : Nat} (hx : Fl .f32 x) (hy : Fl .f32 y) (h : Num.FR .f32 (Num.fv .f32 x - Num.fv .f32 y) w) (hne : Num.fv .f32 x ≠ Num.fv .f32 y) : Num.fv .f32 w ≠ 0 := by
  obtain ⟨m, i, m1, i1, i2, e⟩ := single_form hx
  obtain ⟨k, j, k1, j1, j2, e'⟩ := single_form hy
  obtain ⟨a, ha⟩ : ∃ a : Nat, i = -149 + (a : Int) := ⟨(i + 149).toNat, by omega⟩
  obtain ⟨b, hb⟩ : ∃ b : Nat, j = -149 + (b : Int) := ⟨(j + 149).toNat, by omega⟩
  have hp := p2_pos (-149)
  obtain ⟨d, hd⟩ : ∃ d : Int, m * (2 ^ a : Nat) - k * (2 ^ b : Nat) = d := ⟨_, rfl⟩
  have ed : Num.fv .f32 x - Num.fv .f32 y = (d : Rat) * p2 (-149) := by
    rw [e, e', ha, hb, p2_add, p2_add, p2_nat, p2_nat, ← hd, Rat.intCast_sub, Rat.intCast_mul, Rat.intCast_mul]
    have c1 : (((2 ^ a : Nat) : Int) : Rat) = ((2 ^ a : Nat) : Rat) := rfl
    have c2 : (((2 ^ b : Nat) : Int) : Rat) = ((2 ^ b : Nat) : Rat) := rfl
    rw [c1, c2]
    grind
  have hd0 : d ≠ 0 := fun h0 => by
    rw [h0, Rat.intCast_zero] at ed
    exact hne (by grind)
  rw [ed] at h
  have r1 := rep_at .f32 1 (-149) (by decide) (by decide) (by decide)
  have r2 := rep_at .f32 (-1) (-149) (by decide) (by decide) (by decide)
  have e1 : ((1 : Int) : Rat) = 1 := rfl
  have e2 : ((-1 : Int) : Rat) = -1 := rfl
  rw [e1] at r1
  rw [e2] at r2
  rcases (by omega : 1 ≤ d ∨ d ≤ -1) with hm | hm
  · have hm' : (1 : Rat) ≤ (d : Rat) := by
      have : (((1 : Int)) : Rat) ≤ (d : Rat) := Rat.intCast_le_intCast.2 hm
      exact this
    have := h.ge _ r1 (Rat.mul_le_mul_of_nonneg_right hm' (Rat.le_of_lt hp))
    intro hz
    have hz' : val FloatKind.f32.format w = 0 := hz
    grind
  · have hm' : (d : Rat) ≤ -1 := by
      have : (d : Rat) ≤ (((-1 : Int)) : Rat) := Rat.intCast_le_intCast.2 hm
      exact this
    have := h.le _ r2 (Rat.mul_le_mul_of_nonneg_right hm' (Rat.le_of_lt hp))
    intro hz
    have hz' : val FloatKind.f32.format w = 0 := hz
    grind
/-- How far a point is from a line: what the program meets. -/
structure Dst (a b p : Nat × Nat) (d : Nat) : Prop where
  fin : Fl .f32 d
  nn : 0 ≤ Num.fv .f32 d
  le : Num.fv .f32 d ≤ 1000
  walk : ∃ w1 w2 q1 q2 d0, floatBits .sub .f32 b.1 a.1 = some w1 ∧ floatBits .sub .f32 b.2 a.2 = some w2 ∧ floatBits .sub .f32 p.1 a.1 = some q1 ∧ floatBits .sub .f32 p.2 a.2 = some q2 ∧ (∀ w : World, Calls Try.prog 18 #[.complex .f32 q1 q2] w fun e w' => e = .returned (.float .f32 d0) ∧ w' = w) ∧
    (((FloatKind.f32.format.order a.1 b.1 == some .eq && FloatKind.f32.format.order a.2 b.2 == some .eq) = true ∧ d = d0) ∨
     ((FloatKind.f32.format.order a.1 b.1 == some .eq && FloatKind.f32.format.order a.2 b.2 == some .eq) = false ∧ ∃ m1 m2 s l, (∀ w : World, Calls Try.prog 46 #[.complex .f32 w1 (ng32 w2), .complex .f32 q1 q2] w fun e w' => e = .returned (.complex .f32 m1 m2) ∧ w' = w) ∧
      (∀ w : World, Calls Try.prog 76 #[.float .f32 m2] w fun e w' => e = .returned (.float .f32 s) ∧ w' = w) ∧ (∀ w : World, Calls Try.prog 18 #[.complex .f32 w1 w2] w fun e w' => e = .returned (.float .f32 l) ∧ w' = w) ∧ floatBits .quo .f32 s l = some d))
theorem abs_le_root {l w1 w2 : Nat} (h : IsRoot FloatKind.f32.format (Num.fv .f32 w1 * Num.fv .f32 w1 + Num.fv .f32 w2 * Num.fv .f32 w2) l) (f1 : Fl .f32 w1) : InR (Num.fv .f32 w1) (Num.fv .f32 l) := by
  have s2 := rsq_nn (Num.fv .f32 w2)
  have r := rep_val FloatKind.f32.format f1
  rcases (Rat.le_total : 0 ≤ Num.fv .f32 w1 ∨ Num.fv .f32 w1 ≤ 0) with c | c
  · have := h.ge _ r c (by grind)
    have h1 : Num.fv .f32 w1 ≤ Num.fv .f32 l := this
    exact ⟨h1, by grind⟩
  · have := h.ge _ r.neg (by show 0 ≤ -Num.fv .f32 w1; grind) (by show -Num.fv .f32 w1 * -Num.fv .f32 w1 ≤ _; grind)
    have h1 : -Num.fv .f32 w1 ≤ Num.fv .f32 l := this
    exact ⟨by grind, by grind⟩
theorem root_int {l u v B : Nat} (h : IsRoot FloatKind.f32.format (Num.fv .f32 u * Num.fv .f32 u + Num.fv .f32 v * Num.fv .f32 v) l) (hu : InR (Num.fv .f32 u) ((2 * B : Nat) : Rat)) (hv : InR (Num.fv .f32 v) ((2 * B : Nat) : Rat)) (hB : B ≤ 1000) : Num.fv .f32 l ≤ ((3 * B : Nat) : Rat) :=
  h.le _ (rep_nat .f32 ((3 * B : Nat) : Int) (by omega)) Rat.natCast_nonneg (sq_le3 hu hv)
theorem dst_ex {a b p : Nat × Nat} (ha : Cb ((32 : Nat) : Rat) a) (hb : Cb ((32 : Nat) : Rat) b) (hp : Cb ((32 : Nat) : Rat) p) : ∃ d, Dst a b p d := by
  have sub : ∀ {x y : Nat}, Fl .f32 x → Fl .f32 y → InR (Num.fv .f32 x) ((32 : Nat) : Rat) → InR (Num.fv .f32 y) ((32 : Nat) : Rat) → ∃ u, floatBits .sub .f32 x y = some u ∧ Num.FR .f32 (Num.fv .f32 x - Num.fv .f32 y) u ∧ InR (Num.fv .f32 u) ((2 * 32 : Nat) : Rat) := fun {x y} fx fy ix iy => by
    have s := in_sub ix iy
    rw [nat_add] at s
    obtain ⟨u, u1, u2⟩ := fsub fx fy (small_top s (by omega)).1 (small_top s (by omega)).2
    exact ⟨u, u1, u2, in_rnd u2 s (by omega)⟩
  obtain ⟨w1, ew1, rw1, iw1⟩ := sub hb.1 ha.1 hb.2.2.1 ha.2.2.1
  obtain ⟨w2, ew2, rw2, iw2⟩ := sub hb.2.1 ha.2.1 hb.2.2.2 ha.2.2.2
  obtain ⟨q1, eq1, rq1, iq1⟩ := sub hp.1 ha.1 hp.2.2.1 ha.2.2.1
  obtain ⟨q2, eq2, rq2, iq2⟩ := sub hp.2.1 ha.2.1 hp.2.2.2 ha.2.2.2
  have mm : ∀ {x : Nat}, InR (Num.fv .f32 x) ((2 * 32 : Nat) : Rat) → InR (Num.fv .f32 x) mid := fun h => small_mid h (by omega)
  obtain ⟨d0, L0, R0⟩ := long_num rq1.fin rq2.fin (mm iq1) (mm iq2)
  have d0n : 0 ≤ Num.fv .f32 d0 := R0.nonneg
  have d0l : Num.fv .f32 d0 ≤ 1000 := by
    have h1 := root_int R0 iq1 iq2 (by omega)
    have e : ((3 * 32 : Nat) : Rat) = 96 := rfl
    rw [e] at h1
    grind
  by_cases hab : (FloatKind.f32.format.order a.1 b.1 == some .eq && FloatKind.f32.format.order a.2 b.2 == some .eq) = true
  · exact ⟨d0, R0.fin, d0n, d0l, w1, w2, q1, q2, d0, ew1, ew2, eq1, eq2, L0, .inl ⟨hab, rfl⟩⟩
  · have hab' : (FloatKind.f32.format.order a.1 b.1 == some .eq && FloatKind.f32.format.order a.2 b.2 == some .eq) = false := by simpa using hab
    obtain ⟨l, L1, R1⟩ := long_num rw1.fin rw2.fin (mm iw1) (mm iw2)
    have l0 : 0 ≤ Num.fv .f32 l := R1.nonneg
    have R1' : IsRoot FloatKind.f32.format (Num.fv .f32 w2 * Num.fv .f32 w2 + Num.fv .f32 w1 * Num.fv .f32 w1) l := by rw [Rat.add_comm]; exact R1
    have b1 := abs_le_root R1 rw1.fin
    have b2 := abs_le_root R1' rw2.fin
    have lpos : 0 < Num.fv .f32 l := by
      apply Rat.not_le.1
      intro hle
      have hz1 : Num.fv .f32 w1 = 0 := by unfold InR at b1; grind
      have hz2 : Num.fv .f32 w2 = 0 := by unfold InR at b2; grind
      apply hab
      have v1 : Num.fv .f32 b.1 = Num.fv .f32 a.1 := Classical.byContradiction fun h => diff_nz hb.1 ha.1 rw1 h hz1
      have v2 : Num.fv .f32 b.2 = Num.fv .f32 a.2 := Classical.byContradiction fun h => diff_nz hb.2.1 ha.2.1 rw2 h hz2
      rw [cmp_eq' ha.1 hb.1 v1.symm, cmp_eq' ha.2.1 hb.2.1 v2.symm]
      decide
    obtain ⟨g1, g2, _⟩ := ng32_num rw2.fin rw2.lt
    have ig : InR (Num.fv .f32 (ng32 w2)) mid := by
      rw [g2]
      have := mm iw2
      generalize mid = M at *
      unfold InR at *
      constructor <;> grind
    obtain ⟨m1, m2, M1, _, rm2⟩ := mul_num rw1.fin g1 rq1.fin rq2.fin (mm iw1) ig (mm iq1) (mm iq2)
    rw [g2] at rm2
    obtain ⟨s, S1, S2, S3⟩ := size_num rm2.fin
    -- the numerator is at most 512 times the length
    have ll : InR (Num.fv .f32 l) 16777216 := by
      have h1 := root_int R1 iw1 iw2 (by omega)
      have e : ((3 * 32 : Nat) : Rat) = 96 := rfl
      rw [e] at h1
      unfold InR
      constructor <;> grind
    have hrep := rep512 R1.fin ll
    have e64 : ((2 * 32 : Nat) : Rat) = 64 := rfl
    rw [e64] at iq1 iq2
    have hprod : ∀ {x y L : Rat}, InR x L → InR y 64 → 0 ≤ L → InR (x * y) (L * 64) := fun hx hy hL => prod_in hx hy hL
    have P1 := hprod b1 iq2 l0
    have P2 := hprod b2 iq1 l0
    have V : InR (Num.fv .f32 w1 * Num.fv .f32 q2 + -Num.fv .f32 w2 * Num.fv .f32 q1) (512 * Num.fv .f32 l) := by
      have e : -Num.fv .f32 w2 * Num.fv .f32 q1 = -(Num.fv .f32 w2 * Num.fv .f32 q1) := Rat.neg_mul _ _
      rw [e]
      generalize Num.fv .f32 w1 * Num.fv .f32 q2 = x at *
      generalize Num.fv .f32 w2 * Num.fv .f32 q1 = y at *
      unfold InR at *
      constructor <;> grind
    have n1 := rm2.le _ hrep V.1
    have n2 := rm2.ge _ hrep.neg V.2
    have hs : InR (Num.fv .f32 s) (512 * Num.fv .f32 l) := by
      have k1 : Num.fv .f32 m2 ≤ 512 * Num.fv .f32 l := n1
      have k2 : -(512 * Num.fv .f32 l) ≤ Num.fv .f32 m2 := n2
      rw [S3]
      unfold InR
      split <;> constructor <;> grind
    have hs0 : 0 ≤ Num.fv .f32 s := by
      rw [S3]
      split <;> grind
    have lne : Num.fv .f32 l ≠ 0 := by grind
    have q0 : 0 ≤ Num.fv .f32 s / Num.fv .f32 l := by
      rw [Rat.div_def]
      exact Rat.mul_nonneg hs0 (Rat.le_of_lt (Rat.inv_pos.2 lpos))
    have q512 : Num.fv .f32 s / Num.fv .f32 l ≤ 512 := by
      have h1 := Rat.mul_le_mul_of_nonneg_right hs.1 (Rat.le_of_lt (Rat.inv_pos.2 lpos))
      have h2 : 512 * Num.fv .f32 l * (Num.fv .f32 l)⁻¹ = 512 := by
        rw [Rat.mul_assoc, Rat.mul_inv_cancel _ lne, Rat.mul_one]
      rw [h2] at h1
      rw [Rat.div_def]
      exact h1
    have t : (1000 : Rat) ≤ top := by decide +kernel
    obtain ⟨T, eT⟩ : ∃ T : Rat, top = T := ⟨_, rfl⟩
    rw [eT] at t
    obtain ⟨d, d1, d2⟩ := fdiv S2 R1.fin lne (by rw [eT]; grind) (by rw [eT]; grind)
    have e512 : ((512 : Int) : Rat) = 512 := rfl
    have k1 := d2.le_int 512 (by decide) (by rw [e512]; exact q512)
    have k0 := d2.ge_int 0 (by decide) (by rw [Rat.intCast_zero]; exact q0)
    rw [e512] at k1
    rw [Rat.intCast_zero] at k0
    exact ⟨d, d2.fin, k0, by grind, w1, w2, q1, q2, d0, ew1, ew2, eq1, eq2, L0, .inr ⟨hab', m1, m2, s, l, M1, S1, L1, d1⟩⟩
end Go.Proofs.Ytkldgcgijkfpaaa
