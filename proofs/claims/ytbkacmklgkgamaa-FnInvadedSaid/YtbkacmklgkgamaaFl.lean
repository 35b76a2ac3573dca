/- Plain facts on floats (no program): a number compared with itself; what equals zero. Conditions: none. -/
import Derived.WalkKit
import Derived.WalkLawsBesides
namespace Go.Proofs.Ytbkacmklgkgamaa
open Go.RowKit

theorem order_self (f : Ieee.Format) (x : Nat) : f.order x x = some .eq ∨ f.order x x = none := by
  unfold Ieee.Format.order
  cases h : f.read x with
  | number s m e => left; simp [Ieee.Datum.order]
  | infinity s => left; simp [Ieee.Datum.order]
  | nan s t => right; simp [Ieee.Datum.order]

theorem signed_zero {s : Bool} {m k j : Nat} (h : Ieee.signed s m k = Ieee.signed false 0 j) : m = 0 := by
  unfold Ieee.signed at h
  have hk : 0 < 2 ^ k := Nat.pow_pos (by omega)
  have hm : m * 2 ^ k = 0 := by
    simp only [Nat.shiftLeft_eq, Nat.zero_mul] at h
    generalize m * 2 ^ k = z at h
    cases s <;> simp at h <;> omega
  rcases Nat.mul_eq_zero.1 hm with h' | h' <;> omega

theorem double_zero {x : Nat} (hx : x < 2 ^ 64) (h : Ieee.double.order x 0 = some .eq) : x = 0 ∨ x = 9223372036854775808 := by
  have h0 : Ieee.double.read 0 = .number false 0 Ieee.double.leastPlace := by decide
  have hr : x % Ieee.double.signWeight = 0 := by
    unfold Ieee.Format.order at h
    rw [h0] at h
    unfold Ieee.Format.read at h
    simp only at h
    split at h
    · simp only [Ieee.Datum.order, Option.some.injEq] at h
      have h := signed_zero (by simpa using h)
      omega
    · split at h
      · simp only [Ieee.Datum.order, Option.some.injEq] at h
        have h := signed_zero (by simpa using h)
        have hb : 0 < Ieee.double.binade := by decide
        omega
      · split at h
        · cases hs : (x / Ieee.double.signWeight % 2 == 1) <;> simp [Ieee.Datum.order, hs] at h
        · simp [Ieee.Datum.order] at h
  have hw : Ieee.double.signWeight = 9223372036854775808 := by decide
  rw [hw] at hr
  omega
end Go.Proofs.Ytbkacmklgkgamaa
