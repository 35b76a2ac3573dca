/- Plain facts: a finite single-precision number as a whole multiple of the least one; the order of numbers is that of these. Conditions: none. -/
import Derived.Test.YtbkacmklgkgamaaFf
namespace Go.Proofs.Ytbkacmklgkgamaa

theorem signed_shift (s : Bool) (m p r : Nat) : Ieee.signed s m (p + r) = Ieee.signed s m p * (2 ^ r : Nat) := by
  unfold Ieee.signed
  cases s <;> simp [Nat.shiftLeft_eq, Nat.pow_add, Int.mul_assoc, Int.neg_mul]
theorem compare_scale (a b : Int) (r : Nat) : compare (a * (2 ^ r : Nat)) (b * (2 ^ r : Nat)) = compare a b := by
  have hp : (0 : Int) < ((2 ^ r : Nat) : Int) := by exact_mod_cast Nat.two_pow_pos r
  simp only [compare, compareOfLessAndEq]
  have h1 : a * ((2 ^ r : Nat) : Int) < b * ((2 ^ r : Nat) : Int) ↔ a < b := ⟨fun h => Int.lt_of_mul_lt_mul_right h (Int.le_of_lt hp), fun h => Int.mul_lt_mul_of_pos_right h hp⟩
  have h2 : a * ((2 ^ r : Nat) : Int) = b * ((2 ^ r : Nat) : Int) ↔ a = b := ⟨fun h => Int.eq_of_mul_eq_mul_right (by omega) h, fun h => by rw [h]⟩
  simp only [h1, h2]
/-- A finite number in units of the least one. -/
def fval (x : Nat) : Int := match Ieee.single.read x with | .number s m i => Ieee.signed s m (i - Ieee.single.leastPlace).toNat | _ => 0
theorem read_place {x : Nat} {s : Bool} {m : Nat} {i : Int} (h : Ieee.single.read x = .number s m i) : Ieee.single.leastPlace ≤ i := by
  unfold Ieee.Format.read at h
  simp only at h
  split at h
  · injection h with _ _ h; omega
  · split at h
    · injection h with _ _ h; omega
    · split at h <;> cases h
theorem order_fval {x y : Nat} (hx : finW x = true) (hy : finW y = true) : Ieee.single.order x y = some (compare (fval x) (fval y)) := by
  obtain ⟨s, m, i, ex⟩ := finW_iff.1 hx
  obtain ⟨t, n, j, ey⟩ := finW_iff.1 hy
  have hi := read_place ex
  have hj := read_place ey
  unfold Ieee.Format.order fval
  rw [ex, ey]
  simp only [Ieee.Datum.order, Option.some.injEq]
  obtain ⟨p, hp⟩ : ∃ p : Nat, i = Ieee.single.leastPlace + p := ⟨(i - Ieee.single.leastPlace).toNat, by omega⟩
  obtain ⟨q, hq⟩ : ∃ q : Nat, j = Ieee.single.leastPlace + q := ⟨(j - Ieee.single.leastPlace).toNat, by omega⟩
  obtain ⟨r, hr⟩ : ∃ r, min p q = r := ⟨_, rfl⟩
  have e1 : (i - min i j).toNat = p - r := by omega
  have e2 : (j - min i j).toNat = q - r := by omega
  have e3 : (i - Ieee.single.leastPlace).toNat = p - r + r := by omega
  have e4 : (j - Ieee.single.leastPlace).toNat = q - r + r := by omega
  rw [e1, e2, e3, e4, signed_shift, signed_shift, compare_scale]
theorem cmp_lt {a b : Int} (h : a < b) : compare a b = .lt := by simp [compare, compareOfLessAndEq, h]
theorem cmp_eq {a b : Int} (h : a = b) : compare a b = .eq := by simp [compare, compareOfLessAndEq, h]
theorem cmp_gt {a b : Int} (h : b < a) : compare a b = .gt := by
  have h1 : ¬ a < b := by omega
  have h2 : ¬ a = b := by omega
  simp only [compare, compareOfLessAndEq, if_neg h1, if_neg h2]
theorem ord_lt {x y : Nat} (hx : finW x = true) (hy : finW y = true) : (FloatKind.f32.format.order x y == some .lt) = decide (fval x < fval y) := by
  show (Ieee.single.order x y == some .lt) = _
  rw [order_fval hx hy]
  rcases Int.lt_trichotomy (fval x) (fval y) with h | h | h
  · rw [cmp_lt h]; symm; first | (exact decide_eq_true (by omega)) | (exact decide_eq_false (by omega))
  · rw [cmp_eq h]; symm; first | (exact decide_eq_true (by omega)) | (exact decide_eq_false (by omega))
  · rw [cmp_gt h]; symm; first | (exact decide_eq_true (by omega)) | (exact decide_eq_false (by omega))
theorem ord_gt {x y : Nat} (hx : finW x = true) (hy : finW y = true) : (FloatKind.f32.format.order x y == some .gt) = decide (fval y < fval x) := by
  show (Ieee.single.order x y == some .gt) = _
  rw [order_fval hx hy]
  rcases Int.lt_trichotomy (fval x) (fval y) with h | h | h
  · rw [cmp_lt h]; symm; first | (exact decide_eq_true (by omega)) | (exact decide_eq_false (by omega))
  · rw [cmp_eq h]; symm; first | (exact decide_eq_true (by omega)) | (exact decide_eq_false (by omega))
  · rw [cmp_gt h]; symm; first | (exact decide_eq_true (by omega)) | (exact decide_eq_false (by omega))
theorem ord_le {x y : Nat} (hx : finW x = true) (hy : finW y = true) : (FloatKind.f32.format.order x y == some .lt || FloatKind.f32.format.order x y == some .eq) = decide (fval x ≤ fval y) := by
  show (Ieee.single.order x y == some .lt || Ieee.single.order x y == some .eq) = _
  rw [order_fval hx hy]
  rcases Int.lt_trichotomy (fval x) (fval y) with h | h | h
  · rw [cmp_lt h]; symm; first | (exact decide_eq_true (by omega)) | (exact decide_eq_false (by omega))
  · rw [cmp_eq h]; symm; first | (exact decide_eq_true (by omega)) | (exact decide_eq_false (by omega))
  · rw [cmp_gt h]; symm; first | (exact decide_eq_true (by omega)) | (exact decide_eq_false (by omega))
theorem ord_ge {x y : Nat} (hx : finW x = true) (hy : finW y = true) : (FloatKind.f32.format.order x y == some .gt || FloatKind.f32.format.order x y == some .eq) = decide (fval y ≤ fval x) := by
  show (Ieee.single.order x y == some .gt || Ieee.single.order x y == some .eq) = _
  rw [order_fval hx hy]
  rcases Int.lt_trichotomy (fval x) (fval y) with h | h | h
  · rw [cmp_lt h]; symm; first | (exact decide_eq_true (by omega)) | (exact decide_eq_false (by omega))
  · rw [cmp_eq h]; symm; first | (exact decide_eq_true (by omega)) | (exact decide_eq_false (by omega))
  · rw [cmp_gt h]; symm; first | (exact decide_eq_true (by omega)) | (exact decide_eq_false (by omega))
theorem ord_eq {x y : Nat} (hx : finW x = true) (hy : finW y = true) : (FloatKind.f32.format.order x y == some .eq) = decide (fval x = fval y) := by
  show (Ieee.single.order x y == some .eq) = _
  rw [order_fval hx hy]
  rcases Int.lt_trichotomy (fval x) (fval y) with h | h | h
  · rw [cmp_lt h]; symm; first | (exact decide_eq_true (by omega)) | (exact decide_eq_false (by omega))
  · rw [cmp_eq h]; symm; first | (exact decide_eq_true (by omega)) | (exact decide_eq_false (by omega))
  · rw [cmp_gt h]; symm; first | (exact decide_eq_true (by omega)) | (exact decide_eq_false (by omega))
theorem ord_ne {x y : Nat} (hx : finW x = true) (hy : finW y = true) : (FloatKind.f32.format.order x y != some .eq) = decide (¬ fval x = fval y) := by
  show (Ieee.single.order x y != some .eq) = _
  rw [order_fval hx hy]
  rcases Int.lt_trichotomy (fval x) (fval y) with h | h | h
  · rw [cmp_lt h]; symm; first | (exact decide_eq_true (by omega)) | (exact decide_eq_false (by omega))
  · rw [cmp_eq h]; symm; first | (exact decide_eq_true (by omega)) | (exact decide_eq_false (by omega))
  · rw [cmp_gt h]; symm; first | (exact decide_eq_true (by omega)) | (exact decide_eq_false (by omega))
end Go.Proofs.Ytbkacmklgkgamaa
