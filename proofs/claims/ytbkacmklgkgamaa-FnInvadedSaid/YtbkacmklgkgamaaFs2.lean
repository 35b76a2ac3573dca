/- Walks: whether a sheet and a drop's rule are valid, by the program and by the reference. Conditions: as each says. -/
import Derived.Test.YtbkacmklgkgamaaIb
import Derived.Test.YtbkacmklgkgamaaFv
namespace Go.Proofs.Ytbkacmklgkgamaa
open Go.RowKit

def okSheet (W H : Int) (xs : List Nat) : Bool := inB W 1 17 && inB H 1 17 && decide ((xs.length : Int) = W * H) && xs.all finW
def geF (x c : Nat) : Bool := FloatKind.f32.format.order x c == some Ordering.gt || FloatKind.f32.format.order x c == some Ordering.eq
def leF (x c : Nat) : Bool := FloatKind.f32.format.order x c == some Ordering.lt || FloatKind.f32.format.order x c == some Ordering.eq
def okShare (x : Nat) : Bool := geF x 0 && leF x 1065353216
def okTake (x : Nat) : Bool := geF x 0 && leF x 1056964608
theorem inB_iff {n l h : Int} : inB n l h = true ↔ l ≤ n ∧ n ≤ h := by unfold inB; simp

set_option maxHeartbeats 400000 in
theorem within_any (n l h : Int) (w : World) : Calls Try.prog 39 #[.int .i64 n, .int .i64 l, .int .i64 h] w fun e w' => e = .returned (.bool (inB n l h)) ∧ w' = w := by
  by_cases h1 : l ≤ n
  · by_cases h2 : n ≤ h
    · go_enter Try.func39, Try.ntmps39
      go_wp2
      go_ret
      exact ⟨ret_bool (by unfold inB; symm; simp; omega), rfl⟩
    · go_enter Try.func39, Try.ntmps39
      go_wp2
      go_ret
      exact ⟨ret_bool (by unfold inB; symm; simp; omega), rfl⟩
  · go_enter Try.func39, Try.ntmps39
    go_wp2
    go_ret
    exact ⟨ret_bool (by unfold inB; symm; simp; omega), rfl⟩
set_option maxHeartbeats 400000 in
theorem l00In_any (n l h : Int) (w : World) : Calls Try.prog 75 #[.int .i64 n, .int .i64 l, .int .i64 h] w fun e w' => e = .returned (.bool (inB n l h)) ∧ w' = w := by
  by_cases h1 : l ≤ n
  · by_cases h2 : n ≤ h
    · go_enter Try.func75, Try.ntmps75
      go_wp2
      go_ret
      exact ⟨ret_bool (by unfold inB; symm; simp; omega), rfl⟩
    · go_enter Try.func75, Try.ntmps75
      go_wp2
      go_ret
      exact ⟨ret_bool (by unfold inB; symm; simp; omega), rfl⟩
  · go_enter Try.func75, Try.ntmps75
    go_wp2
    go_ret
    exact ⟨ret_bool (by unfold inB; symm; simp; omega), rfl⟩
theorem prod_in {W H : Int} (hW : inB W 1 17 = true) (hH : inB H 1 17 = true) : ∃ p : Int, W * H = p ∧ 1 ≤ p ∧ p ≤ 289 := by
  rw [inB_iff] at hW hH
  refine ⟨_, rfl, ?_, ?_⟩
  · have := Int.mul_le_mul hW.1 hH.1 (by omega) (by omega)
    omega
  · have := Int.mul_le_mul hW.2 hH.2 (by omega) (by omega)
    omega
end Go.Proofs.Ytbkacmklgkgamaa
