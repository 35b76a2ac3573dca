/- Walks: drawn numbers, whether a side of a cell is full, moves: of the program and of the reference. Conditions: the field's sides are from 1 to 16, the cell is in it, seeds are below 2147483648. -/
import Derived.Test.YtejmpijihmmajaaSd
import Derived.Test.YtejmpijihmmajaaVd
import Derived.Test.YtejmpijihmmajaaIp
import Derived.Test.YtejmpijihmmajaaPk
namespace Go.Proofs.Ytejmpijihmmajaa
open Go.RowKit

theorem nxt_cast (s : Nat) : ((1103515245 * (s : Int) + 12345) % 2147483648) = ((nxt s : Nat) : Int) := by unfold nxt; omega
theorem drw_cast (s n : Nat) : ((nxt s : Nat) : Int) / 65536 % (n : Int) = ((drw s n : Nat) : Int) := by unfold drw; simp

theorem ret_int {k : IntKind} {a b : Int} (h : a = b) : Ending.returned (.int k a) = .returned (.int k b) := by rw [h]
theorem ret_two {k : IntKind} {a b c d : Int} (h : a = c) (h' : b = d) : Ending.returned (.tuple #[.int k a, .int k b]) = .returned (.tuple #[.int k c, .int k d]) := by rw [h, h']

set_option maxHeartbeats 400000 in
theorem nextSeed_any (s : Nat) (w : World) (hs : s ≤ 2147483647) :
    Calls Try.prog 47 #[.int .i64 (s : Int)] w fun e w' => e = .returned (.int .i64 (nxt s : Nat)) ∧ w' = w := by
  have e1 := nxt_cast s
  obtain ⟨x, ex⟩ : ∃ x, nxt s = x := ⟨_, rfl⟩
  rw [ex] at e1 ⊢
  clear ex
  go_enter Try.func47, Try.ntmps47
  go_wp2
  go_ret
  exact ⟨ret_int e1, rfl⟩
set_option maxHeartbeats 400000 in
theorem drawBelow_any (s n : Nat) (w : World) (hs : s ≤ 2147483647) (hn : 1 ≤ n) :
    Calls Try.prog 34 #[.int .i64 (s : Int), .int .i64 (n : Int)] w fun e w' => e = .returned (.tuple #[.int .i64 (nxt s : Nat), .int .i64 (drw s n : Nat)]) ∧ ∃ m, w' = w.drewN m := by
  have e2 := drw_cast s n
  have hx := nxt_lt s
  have NS := Lib.hid (nextSeed_any s w hs)
  obtain ⟨x, ex⟩ : ∃ x, nxt s = x := ⟨_, rfl⟩
  obtain ⟨d, ed⟩ : ∃ d, drw s n = d := ⟨_, rfl⟩
  rw [ed] at e2 ⊢
  rw [ex] at e2 hx NS ⊢
  clear ex ed
  go_enter Try.func34, Try.ntmps34
  go_wp2_with fail
  refine NS.out.mono ?_
  rintro e w5 ⟨rfl, h5⟩
  obtain rfl := h5.symm
  go_wp2
  go_quiet (fail)
  go_wp2
  go_ret2
  exact ⟨ret_two rfl e2, _, rfl⟩


end Go.Proofs.Ytejmpijihmmajaa
