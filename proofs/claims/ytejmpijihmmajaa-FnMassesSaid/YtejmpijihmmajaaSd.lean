/- Walk: the program's sides of a cell. Conditions: the field's sides are from 1 to 16, the cell is in it. -/
import Derived.Test.YtejmpijihmmajaaNb
namespace Go.Proofs.Ytejmpijihmmajaa
open Go.RowKit

set_option maxHeartbeats 400000 in
theorem sides_any (W H i : Nat) (x : Value) (w : World) (hx : x.oneCell' = true) (hW : 1 ≤ W) (hW' : W ≤ 16) (hH : 1 ≤ H) (hH' : H ≤ 16) (hi : i < W * H) :
    Calls Try.prog 31 #[.agg #[.int .i64 W, .int .i64 H, x], .int .i64 i] w fun e w' => ∃ A n c, e = .returned (.slice A n c) ∧ w'.ownsRow w.heap.size 2 1 (.slice A n c) n ((nbs W H i).map nv) ∧ Below w.heap.size w w' := by
  have hb0 : ∀ o, Below w.heap.size w (w.alloc o) := fun o => (Below.refl _ _).alloc (Nat.le_refl _) _
  have H0 := Lib.hid hb0
  clear hb0
  go_enter Try.func31, Try.ntmps31
  go_wp2_with fail
  refine (neighbours_any W H i _ hW hW' hH hH' hi).mono ?_
  rintro e w1 ⟨A, n, c, rfl, ho, hb⟩
  go_wp2
  go_ret
  exact ⟨A, n, c, rfl, own_base ho (by simp), (H0.out _).trans (hb.mono (by simp))⟩
end Go.Proofs.Ytejmpijihmmajaa
