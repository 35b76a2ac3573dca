/- Walk: the fraction and the sine of turns. Conditions: the plain function gives a number. -/
import Derived.Test.YtflcjmgenfmhkaaCa
import Derived.WalkKit
import Derived.WalkLawsBesides
import Derived.Lib.Hide
import Derived.Deep.LoopGhost
namespace Go.Proofs.Ytflcjmgenfmhkaa
open Go.RowKit
open Circ

section
variable (w : World)
theorem run64 {op : BinOp} {x y r : Nat} (h : floatBits op .f64 x y = some r) : ∀ w : World, (binOp op 27 (.float .f64 x) (.float .f64 y)).run Try.prog w = .ok (.float .f64 r) w := fun w => run_float_arith w op _ .f64 _ _ _ h
theorem run_int {x : Nat} {n : Int} (h : floatToIntVal .f64 x .i64 = some n) : ∀ w : World, (convert 27 2 (.float .f64 x)).run Try.prog w = .ok (.int .i64 n) w := fun w => run_convert_float_int w _ _ _ _ _ _ (by rw [Try.underlying27]; rfl) Try.underlying2 h
theorem run_wide (n : Int) : ∀ w : World, (convert 2 27 (.int .i64 n)).run Try.prog w = .ok (.float .f64 (fi n)) w := fun w => run_convert_int_float w _ _ _ _ _ (by rw [Try.underlying2]; rfl) Try.underlying27
set_option maxHeartbeats 1000000 in
theorem fraction_calls {x f : Nat} (h : fraction x = some f) : Calls Try.prog 17 #[.float .f64 x] w fun e w' => e = .returned (.float .f64 f) ∧ w' = w := by
  unfold fraction at h
  obtain ⟨m, h1, h⟩ := af_some h
  cases h0 : floatToIntVal .f64 x .i64 with
  | none => rw [h0] at h1; cases h1
  | some n =>
    rw [h0] at h1
    obtain rfl : fi n = m := by simpa using h1
    obtain ⟨g, h2, h⟩ := opf_some h
    have q1 := run_int h0
    have q2 := run_wide n
    have q3 := run64 h2
    clear h0 h1 h2
    by_cases c : lt g 0 = true
    · rw [if_pos c] at h
      obtain ⟨k, h3, h⟩ := opf_some h
      obtain rfl : k = f := by simpa using h
      have q4 := run64 h3
      rw [lt_eq] at c
      clear h3 h
      go_enter Try.func17, Try.ntmps17
      go_wp2
      go_ret
      exact ⟨rfl, rfl⟩
    · rw [if_neg c] at h
      obtain rfl : g = f := by simpa using h
      rw [lt_eq] at c
      clear h
      go_enter Try.func17, Try.ntmps17
      go_wp2
      go_ret
      exact ⟨rfl, rfl⟩

theorem unary_ng (b : Nat) : Op.unary .neg (.float .f64 b) = pure (.float .f64 (ng b)) := rfl
/-- The loop's own numbers. -/
theorem hor_steps : ∀ j : Nat, j < 9 → (FloatKind.f64.format.order (fi j) one == some .gt || FloatKind.f64.format.order (fi j) one == some .eq) = decide (1 ≤ j) ∧
    floatBits .mul .f64 4611686018427387904 (fi j) = some (fi (2 * (j : Int))) ∧ floatBits .add .f64 (fi (2 * (j : Int))) one = some (fi (2 * (j : Int) + 1)) ∧
    floatBits .mul .f64 (fi (2 * (j : Int))) (fi (2 * (j : Int) + 1)) = some (fi (2 * (j : Int) * (2 * (j : Int) + 1))) ∧ (1 ≤ j → floatBits .sub .f64 (fi j) one = some (fi ((j - 1 : Nat) : Int))) := by decide +kernel
theorem cond_some {c : Bool} {op : BinOp} {x y z r : Nat} (h : (if c then opf op x y some else some z) = some r) : (c = true ∧ floatBits op .f64 x y = some r) ∨ (c = false ∧ z = r) := by
  cases c
  · exact .inr ⟨rfl, by simpa using h⟩
  · obtain ⟨q, h1, h2⟩ := opf_some h
    cases h2
    exact .inl ⟨rfl, h1⟩
theorem ge_true {x y : Nat} (h : ge x y = true) : ((FloatKind.f64.format.order x y == some .gt) = true ∧ (FloatKind.f64.format.order x y == some .eq) = false) ∨ ((FloatKind.f64.format.order x y == some .gt) = false ∧ (FloatKind.f64.format.order x y == some .eq) = true) := by
  rw [ge_eq] at h
  cases e : FloatKind.f64.format.order x y with
  | none => rw [e] at h; cases h
  | some o => rw [e] at h; cases o <;> first | (cases h; done) | decide
theorem ge_false {x y : Nat} (h : ge x y = false) : (FloatKind.f64.format.order x y == some .gt) = false ∧ (FloatKind.f64.format.order x y == some .eq) = false := by
  rw [ge_eq] at h
  exact Bool.or_eq_false_iff.1 h
end
end Go.Proofs.Ytflcjmgenfmhkaa
