/- Plain law: the floor of a double, and a whole double as an integer. -/
import Derived.Test.YtbpgbplepebcjaaMa
namespace Go.Proofs.Ytbpgbplepebcjaa.Num
open Go
open Ieee (Format Datum signed)
open Go.Proofs.Ytbpgbplepebcjaa.Rnd Go.Proofs.Ytbpgbplepebcjaa.Quick

theorem p2_split (d : Nat) (m : Nat) : ∃ ρ : Rat, (m : Rat) * p2 (-(d : Int)) = ((m / 2 ^ d : Nat) : Rat) + ρ ∧ 0 ≤ ρ ∧ ρ < 1 ∧ (ρ = 0 ↔ m % 2 ^ d = 0) := by
  have hd := Nat.div_add_mod m (2 ^ d)
  have hr := Nat.mod_lt m (Nat.two_pow_pos d)
  have hp := p2_pos (-(d : Int))
  have e : ((2 ^ d : Nat) : Rat) * p2 (-(d : Int)) = 1 := by
    rw [← p2_nat, ← p2_add]
    have : (d : Int) + -(d : Int) = 0 := by omega
    rw [this]
    rfl
  have hm : (m : Rat) = ((2 ^ d : Nat) : Rat) * ((m / 2 ^ d : Nat) : Rat) + ((m % 2 ^ d : Nat) : Rat) := by
    rw [← Rat.natCast_mul, ← Rat.natCast_add, hd]
  have h0 : 0 ≤ ((m % 2 ^ d : Nat) : Rat) := Rat.natCast_nonneg
  have h1 : ((m % 2 ^ d : Nat) : Rat) < ((2 ^ d : Nat) : Rat) := Rat.natCast_lt_natCast.2 hr
  refine ⟨((m % 2 ^ d : Nat) : Rat) * p2 (-(d : Int)), ?_, Rat.mul_nonneg h0 (Rat.le_of_lt hp), ?_, ?_, ?_⟩
  · rw [hm]
    grind
  · have := Rat.mul_pos (show 0 < ((2 ^ d : Nat) : Rat) - ((m % 2 ^ d : Nat) : Rat) by grind) hp
    grind
  · intro h
    rcases Rat.mul_eq_zero.1 h with h2 | h2
    · exact Rat.natCast_eq_zero_iff.1 h2
    · exact absurd h2 (by grind)
  · intro h
    rw [h]
    exact Rat.zero_mul _
theorem p2_up (k m : Nat) : (m : Rat) * p2 (k : Int) = ((m * 2 ^ k : Nat) : Rat) := by rw [p2_nat, Rat.natCast_mul]
/-- The floor of a double of middling size. -/
theorem floor_num {x : Nat} (hx : Fl .f64 x) (h1 : fv .f64 x ≤ 1048576) (h2 : -1048576 ≤ fv .f64 x) : ∃ (r : Nat) (k : Int), floorP x = some r ∧ Fl .f64 r ∧ r < 18446744073709551616 ∧ fv .f64 r = (k : Rat) ∧ (k : Rat) ≤ fv .f64 x ∧ fv .f64 x < (k : Rat) + 1 := by
  obtain ⟨s, m, i, e1, v1⟩ := read_fin _ hx
  obtain ⟨V, hV⟩ : ∃ V, Ieee.Toward.down.cut s (m <<< i.toNat) (-i).toNat = V := ⟨_, rfl⟩
  -- the whole number and the number
  have key : ((if s then -(V : Int) else (V : Int) : Int) : Rat) ≤ fv .f64 x ∧ fv .f64 x < ((if s then -(V : Int) else (V : Int) : Int) : Rat) + 1 := by
    rw [cut_down] at hV
    have hv1 : fv .f64 x = if s then -((m : Rat) * p2 i) else (m : Rat) * p2 i := v1
    rw [hv1]
    rcases Int.lt_or_le i 0 with hi | hi
    · obtain ⟨d, rfl⟩ : ∃ d : Nat, i = -(d : Int) := ⟨(-i).toNat, by omega⟩
      have ea : (-(d : Int)).toNat = 0 := by omega
      have eb : (-(-(d : Int))).toNat = d := by omega
      rw [ea, eb, Nat.shiftLeft_zero] at hV
      obtain ⟨ρ, p1, p2', p3, p4⟩ := p2_split d m
      rw [p1]
      cases s
      · simp only [Bool.false_and, Bool.toNat_false, Nat.add_zero] at hV
        simp only [Bool.false_eq_true, if_false]
        rw [← hV, Rat.intCast_natCast]
        grind
      · simp only [Bool.true_and] at hV
        simp only [if_true]
        rw [Rat.intCast_neg, Rat.intCast_natCast, ← hV, Rat.natCast_add]
        by_cases c : m % 2 ^ d = 0
        · have hρ := p4.2 c
          rw [c]
          have e0 : (((0 : Nat) != 0).toNat : Rat) = 0 := rfl
          rw [e0]
          grind
        · have hρ : ρ ≠ 0 := fun h => c (p4.1 h)
          have e0 : (((m % 2 ^ d) != 0).toNat : Rat) = 1 := by rw [bne_iff_ne.2 c]; rfl
          rw [e0]
          grind
    · obtain ⟨d, rfl⟩ : ∃ d : Nat, i = (d : Int) := ⟨i.toNat, by omega⟩
      have ea : ((d : Int)).toNat = d := by omega
      have eb : (-(d : Int)).toNat = 0 := by omega
      rw [ea, eb, Nat.pow_zero, Nat.mod_one, Nat.div_one, Nat.shiftLeft_eq] at hV
      have hV2 : m * 2 ^ d = V := by
        rw [← hV]
        cases s <;> rfl
      rw [p2_up, hV2]
      cases s
      · simp only [Bool.false_eq_true, if_false]
        rw [Rat.intCast_natCast]
        grind
      · simp only [if_true]
        rw [Rat.intCast_neg, Rat.intCast_natCast]
        grind
  have hVb : V ≤ 16777216 := by
    have hq : (V : Rat) ≤ ((16777216 : Nat) : Rat) := by
      have e0 : ((16777216 : Nat) : Rat) = 16777216 := rfl
      rw [e0]
      obtain ⟨k1, k2⟩ := key
      cases s
      · simp only [Bool.false_eq_true, if_false] at k1 k2
        rw [Rat.intCast_natCast] at k1 k2
        grind
      · simp only [if_true] at k1 k2
        rw [Rat.intCast_neg, Rat.intCast_natCast] at k1 k2
        grind
    exact Rat.natCast_le_natCast.1 hq
  have hrep := rep_nat .f64 (V : Int) (by omega)
  rw [Rat.intCast_natCast] at hrep
  have hpos : (0 : Rat) ≤ (V : Rat) := Rat.natCast_nonneg
  have hr := nearest_rnd FloatKind.f64.format s V 0 (x := if s then -(V : Rat) else (V : Rat)) (by rw [show p2 0 = 1 from rfl, Rat.mul_one]) ⟨(V : Rat), hrep, by split <;> grind, by split <;> grind⟩
  have hk : ((if s then -(V : Int) else (V : Int) : Int) : Rat) = if s then -(V : Rat) else (V : Rat) := by
    cases s
    · simp only [Bool.false_eq_true, if_false, Rat.intCast_natCast]
    · simp only [if_true, Rat.intCast_neg, Rat.intCast_natCast]
  refine ⟨FloatKind.f64.format.nearest s V 0, if s then -(V : Int) else (V : Int), ?_, hr.fin, hr.lt, ?_, key.1, key.2⟩
  · unfold floorP FloatKind.decode FloatKind.encode
    rw [e1]
    show some (FloatKind.f64.format.nearest s (Ieee.Toward.down.cut s (m <<< i.toNat) (-i).toNat) 0) = _
    rw [hV]
  · rw [hk]
    exact hr.exact _ (by split <;> first | exact hrep.neg | exact hrep)
/-- A whole double as an integer. -/
theorem toInt_num {x : Nat} (hx : Fl .f64 x) {k : Int} (hk : fv .f64 x = (k : Rat)) (h1 : -1048576 ≤ k) (h2 : k ≤ 1048576) : floatToIntVal .f64 x .i64 = some k := by
  obtain ⟨s, m, i, e1, v1⟩ := read_fin _ hx
  have hv1 : fv .f64 x = if s then -((m : Rat) * p2 i) else (m : Rat) * p2 i := v1
  rw [hk] at hv1
  have key : (if s then -(((m <<< i.toNat) / 2 ^ (-i).toNat : Nat) : Int) else (((m <<< i.toNat) / 2 ^ (-i).toNat : Nat) : Int)) = k := by
    rcases Int.lt_or_le i 0 with hi | hi
    · obtain ⟨d, rfl⟩ : ∃ d : Nat, i = -(d : Int) := ⟨(-i).toNat, by omega⟩
      have ea : (-(d : Int)).toNat = 0 := by omega
      have eb : (-(-(d : Int))).toNat = d := by omega
      rw [ea, eb, Nat.shiftLeft_zero]
      obtain ⟨ρ, p1, p2', p3, p4⟩ := p2_split d m
      rw [p1] at hv1
      cases s
      · simp only [Bool.false_eq_true, if_false] at hv1 ⊢
        have a1 : (((m / 2 ^ d : Nat) : Int) : Rat) ≤ (k : Rat) := by rw [Rat.intCast_natCast]; grind
        have a2 : (k : Rat) < ((((m / 2 ^ d : Nat) : Int) + 1 : Int) : Rat) := by rw [Rat.intCast_add, Rat.intCast_natCast, Rat.intCast_one]; grind
        have b1 := Rat.intCast_le_intCast.1 a1
        have b2 := Rat.intCast_lt_intCast.1 a2
        omega
      · simp only [if_true] at hv1 ⊢
        have a1 : (k : Rat) ≤ ((-((m / 2 ^ d : Nat) : Int) : Int) : Rat) := by rw [Rat.intCast_neg, Rat.intCast_natCast]; grind
        have a2 : ((-((m / 2 ^ d : Nat) : Int) - 1 : Int) : Rat) < (k : Rat) := by rw [Rat.intCast_sub, Rat.intCast_neg, Rat.intCast_natCast, Rat.intCast_one]; grind
        have b1 := Rat.intCast_le_intCast.1 a1
        have b2 := Rat.intCast_lt_intCast.1 a2
        omega
    · obtain ⟨d, rfl⟩ : ∃ d : Nat, i = (d : Int) := ⟨i.toNat, by omega⟩
      have ea : ((d : Int)).toNat = d := by omega
      have eb : (-(d : Int)).toNat = 0 := by omega
      rw [ea, eb, Nat.pow_zero, Nat.div_one, Nat.shiftLeft_eq]
      rw [p2_up] at hv1
      cases s
      · simp only [Bool.false_eq_true, if_false] at hv1 ⊢
        rw [← Rat.intCast_natCast] at hv1
        exact (Rat.intCast_inj.1 hv1).symm
      · simp only [if_true] at hv1 ⊢
        rw [← Rat.intCast_natCast, ← Rat.intCast_neg] at hv1
        exact (Rat.intCast_inj.1 hv1).symm
  have hlow : ((IntKind.i64).min : Int) = -9223372036854775808 := by decide +kernel
  have hhigh : ((IntKind.i64).max : Int) = 9223372036854775807 := by decide +kernel
  unfold floatToIntVal FloatKind.decode
  rw [e1]
  have e2 : (Datum.number s m i).toInt .zero = some k := by
    unfold Datum.toInt Datum.integral
    simp only [cut_zero]
    rw [signed_eq, key]
  rw [e2, hlow, hhigh]
  show (if _ then some k else none) = _
  rw [if_pos (by omega)]
end Go.Proofs.Ytbpgbplepebcjaa.Num
