/- Plain law: points, their middle and how far they are spread. Conditions: 1 to 7 points as the reference draws them. -/
import Derived.Test.YtbpgbplepebcjaaKgh
namespace Go.Proofs.Ytbpgbplepebcjaa
open Go.RowKit
open Num Quick

theorem sumR_congr {f g : Nat → Rat} : ∀ {n : Nat}, (∀ i < n, f i = g i) → sumR f n = sumR g n
  | 0, _ => rfl
  | n + 1, h => by
    show sumR f n + f n = sumR g n + g n
    rw [sumR_congr (n := n) (fun i hi => h i (by omega)), h n (by omega)]
theorem sumR_lin (f g : Nat → Rat) (a b c : Rat) : ∀ n : Nat, sumR (fun i => a * f i - b * g i + c) n = a * sumR f n - b * sumR g n + (((n : Nat) : Int) : Rat) * c
  | 0 => by
    have e : (((0 : Nat) : Int) : Rat) = 0 := rfl
    rw [e]
    show (0 : Rat) = a * 0 - b * 0 + 0 * c
    grind
  | n + 1 => by
    have e : (((n + 1 : Nat) : Int) : Rat) = (((n : Nat) : Int) : Rat) + 1 := by rw [show ((n + 1 : Nat) : Int) = (n : Int) + 1 from by simp, Rat.intCast_add]; rfl
    show sumR _ n + (a * f n - b * g n + c) = a * (sumR f n + f n) - b * (sumR g n + g n) + _
    rw [sumR_lin f g a b c n, e]
    grind
theorem sumR_nn {f : Nat → Rat} : ∀ {n : Nat}, (∀ i < n, 0 ≤ f i) → 0 ≤ sumR f n
  | 0, _ => Rat.le_refl
  | n + 1, h => by
    show 0 ≤ sumR f n + f n
    have := sumR_nn (f := f) (n := n) (fun i hi => h i (by omega))
    have := h n (by omega)
    grind
theorem sumR_mono {f : Nat → Rat} {n : Nat} (h : ∀ i < n, 0 ≤ f i) : ∀ {k : Nat}, k ≤ n → sumR f k ≤ sumR f n := by
  induction n with
  | zero => intro k hk; rw [show k = 0 by omega]; exact Rat.le_refl
  | succ n ih =>
    intro k hk
    by_cases e : k = n + 1
    · rw [e]; exact Rat.le_refl
    · have h1 := ih (fun i hi => h i (by omega)) (k := k) (by omega)
      have h2 := h n (by omega)
      show sumR f k ≤ sumR f n + f n
      grind
theorem sumR_one {f : Nat → Rat} {n i : Nat} (h : ∀ i < n, 0 ≤ f i) (hi : i < n) : f i ≤ sumR f n := by
  have h1 := sumR_mono h (k := i + 1) (by omega)
  have h2 := sumR_nn (f := f) (n := i) (fun j hj => h j (by omega))
  have e : sumR f (i + 1) = sumR f i + f i := rfl
  grind
theorem sumR_two {f : Nat → Rat} {n i : Nat} (h : ∀ i < n, 0 ≤ f i) (hi : i < n) (h0 : 0 < i) : f 0 + f i ≤ sumR f n := by
  have h1 := sumR_mono h (k := i + 1) (by omega)
  have h2 := sumR_one (f := f) (n := i) (i := 0) (fun j hj => h j (by omega)) h0
  have e : sumR f (i + 1) = sumR f i + f i := rfl
  grind
theorem sumR_zero {f : Nat → Rat} : ∀ {n : Nat}, (∀ i < n, f i = 0) → sumR f n = 0
  | 0, _ => rfl
  | n + 1, h => by
    show sumR f n + f n = 0
    rw [sumR_zero (n := n) (fun i hi => h i (by omega)), h n (by omega)]
    grind
/-- What a fit works with: n points u, their middle m. -/
structure Pts (ux uy : Nat → Rat) (n : Nat) : Prop where
  n1 : 1 ≤ n
  n7 : n ≤ 7
  ix : ∀ i < n, InR (ux i) 2
  iy : ∀ i < n, InR (uy i) 2
def midR (f : Nat → Rat) (n : Nat) : Rat := sumR f n / (((n : Nat) : Int) : Rat)
def sprR (ux uy : Nat → Rat) (n k : Nat) : Rat := sumR (fun i => (ux i - midR ux n) * (ux i - midR ux n) + (uy i - midR uy n) * (uy i - midR uy n)) k
theorem mid_lin {f g : Nat → Rat} {a b c : Rat} {n : Nat} (hn : 1 ≤ n) : midR (fun i => a * f i - b * g i + c) n = a * midR f n - b * midR g n + c := by
  unfold midR
  rw [sumR_lin]
  have hp := count_pos hn
  generalize (((n : Nat) : Int) : Rat) = N at *
  have h : N ≠ 0 := by grind
  grind
section
variable {ux uy : Nat → Rat} {n : Nat}
theorem Pts.mx (h : Pts ux uy n) : InR (midR ux n) 2 := mean_in h.n1 (by decide +kernel) h.ix
theorem Pts.my (h : Pts ux uy n) : InR (midR uy n) 2 := mean_in h.n1 (by decide +kernel) h.iy
theorem sq2_nn (x y : Rat) : 0 ≤ x * x + y * y := by have := rsq_nn x; have := rsq_nn y; grind
theorem Pts.nn (_ : Pts ux uy n) : ∀ i < n, 0 ≤ (ux i - midR ux n) * (ux i - midR ux n) + (uy i - midR uy n) * (uy i - midR uy n) := fun i _ => sq2_nn _ _
theorem Pts.top (h : Pts ux uy n) : sprR ux uy n n ≤ 256 := by
  have h1 := sumR_in (f := fun i => (ux i - midR ux n) * (ux i - midR ux n) + (uy i - midR uy n) * (uy i - midR uy n)) (C := 32) (n := n) (by decide +kernel) fun i hi => by
    have a := h.mx
    have b := h.my
    have c := h.ix i hi
    have d := h.iy i hi
    have p := abs_sq (x := ux i - midR ux n) (d := 4) (by unfold InR at *; grind) (by unfold InR at *; grind)
    have q := abs_sq (x := uy i - midR uy n) (d := 4) (by unfold InR at *; grind) (by unfold InR at *; grind)
    have nn := sq2_nn (ux i - midR ux n) (uy i - midR uy n)
    unfold InR
    constructor <;> grind
  have hq : (((n : Nat) : Int) : Rat) ≤ ((7 : Int) : Rat) := Rat.intCast_le_intCast.2 (by have := h.n7; omega)
  have e7 : ((7 : Int) : Rat) = 7 := rfl
  unfold InR at h1
  unfold sprR
  grind
theorem Pts.dx_in (h : Pts ux uy n) {R : Rat} (hR : 0 ≤ R) (hD : sprR ux uy n n ≤ R * R) : ∀ i < n, InR (ux i - midR ux n) R ∧ InR (uy i - midR uy n) R := by
  intro i hi
  have h1 : (ux i - midR ux n) * (ux i - midR ux n) + (uy i - midR uy n) * (uy i - midR uy n) ≤ R * R := Rat.le_trans (sumR_one h.nn hi) hD
  have root : ∀ v : Rat, v * v ≤ R * R → InR v R := by
    intro v hv
    unfold InR
    constructor
    · rcases (Rat.le_total : v ≤ R ∨ R ≤ v) with c | c
      · exact c
      · have := Rat.mul_nonneg (show 0 ≤ v - R by grind) (show 0 ≤ v + R by grind)
        have e : v * v = R * R := by grind
        have e2 : (v - R) * (v + R) = 0 := by grind
        rcases Rat.mul_eq_zero.1 e2 with e3 | e3 <;> grind
    · rcases (Rat.le_total : -R ≤ v ∨ v ≤ -R) with c | c
      · exact c
      · have := Rat.mul_nonneg (show 0 ≤ -v - R by grind) (show 0 ≤ -v + R by grind)
        have e2 : (-v - R) * (-v + R) = 0 := by grind
        rcases Rat.mul_eq_zero.1 e2 with e3 | e3 <;> grind
  have nx := rsq_nn (ux i - midR ux n)
  have ny := rsq_nn (uy i - midR uy n)
  exact ⟨root _ (by grind), root _ (by grind)⟩
/-- A power of four next above. -/
theorem pick_F {D : Rat} (h1 : 1 / 32 ≤ D) (h2 : D ≤ 256) : ∃ F : Int, -2 ≤ F ∧ F ≤ 4 ∧ D ≤ p2 F * p2 F ∧ p2 F * p2 F / 4 ≤ D := by
  have a0 : p2 (-2) = 1 / 4 := by decide +kernel
  have a1 : p2 (-1) = 1 / 2 := by decide +kernel
  have a2 : p2 0 = 1 := by decide +kernel
  have a3 : p2 1 = 2 := by decide +kernel
  have a4 : p2 2 = 4 := by decide +kernel
  have a5 : p2 3 = 8 := by decide +kernel
  have a6 : p2 4 = 16 := by decide +kernel
  by_cases c0 : D ≤ 1 / 16
  · exact ⟨-2, by decide, by decide, by rw [a0]; grind, by rw [a0]; grind⟩
  · by_cases c1 : D ≤ 1 / 4
    · exact ⟨-1, by decide, by decide, by rw [a1]; grind, by rw [a1]; grind⟩
    · by_cases c2 : D ≤ 1
      · exact ⟨0, by decide, by decide, by rw [a2]; grind, by rw [a2]; grind⟩
      · by_cases c3 : D ≤ 4
        · exact ⟨1, by decide, by decide, by rw [a3]; grind, by rw [a3]; grind⟩
        · by_cases c4 : D ≤ 16
          · exact ⟨2, by decide, by decide, by rw [a4]; grind, by rw [a4]; grind⟩
          · by_cases c5 : D ≤ 64
            · exact ⟨3, by decide, by decide, by rw [a5]; grind, by rw [a5]; grind⟩
            · exact ⟨4, by decide, by decide, by rw [a6]; grind, by rw [a6]; grind⟩
/-- Two points that are apart. -/
theorem Pts.apart (h : Pts ux uy n) {i : Nat} (hi : i < n) (hd : 1 / 16 ≤ (ux i - ux 0) * (ux i - ux 0) + (uy i - uy 0) * (uy i - uy 0)) : 1 / 32 ≤ sprR ux uy n n := by
  have h0 : 0 < i := by
    rcases Nat.eq_zero_or_pos i with e | e
    · subst e
      exfalso
      have e1 : ux 0 - ux 0 = 0 := by grind
      have e2 : uy 0 - uy 0 = 0 := by grind
      rw [e1, e2] at hd
      exact absurd hd (by decide +kernel)
    · exact e
  have h2 := sumR_two h.nn hi h0
  have a := rsq_nn ((ux i - midR ux n) + (ux 0 - midR ux n))
  have b := rsq_nn ((uy i - midR uy n) + (uy 0 - midR uy n))
  unfold sprR
  have h2' : (ux 0 - midR ux n) * (ux 0 - midR ux n) + (uy 0 - midR uy n) * (uy 0 - midR uy n) + ((ux i - midR ux n) * (ux i - midR ux n) + (uy i - midR uy n) * (uy i - midR uy n)) ≤ sumR (fun i => (ux i - midR ux n) * (ux i - midR ux n) + (uy i - midR uy n) * (uy i - midR uy n)) n := h2
  generalize sumR (fun i => (ux i - midR ux n) * (ux i - midR ux n) + (uy i - midR uy n) * (uy i - midR uy n)) n = s at *
  generalize midR ux n = mx at *
  generalize midR uy n = my at *
  generalize ux i = p at *
  generalize ux 0 = q at *
  generalize uy i = r at *
  generalize uy 0 = t at *
  grind
/-- Points that are all the same. -/
theorem mid_same {f : Nat → Rat} {n : Nat} (hn : 1 ≤ n) (h : ∀ i < n, f i = f 0) : midR f n = f 0 := by
  have e : sumR f n = (((n : Nat) : Int) : Rat) * f 0 := by
    have h1 := sumR_lin (fun _ => 0) (fun _ => 0) 0 0 (f 0) n
    have h2 : sumR (fun i => 0 * (0 : Rat) - 0 * 0 + f 0) n = sumR f n := sumR_congr fun i hi => by rw [h i hi]; grind
    rw [h2] at h1
    rw [h1]; grind
  unfold midR
  rw [e]
  have hp := count_pos hn
  generalize (((n : Nat) : Int) : Rat) = N at *
  have h : N ≠ 0 := by grind
  grind
end
end Go.Proofs.Ytbpgbplepebcjaa
