/- Plain: the sides of a valid field are natural numbers. -/
import Derived.Test.YtbkacmklgkgamaaVd
namespace Go.Proofs.Ytbkacmklgkgamaa
theorem valid_nat {wd hi : Int} {n : Nat} (h : validB wd hi n = true) : ∃ W H : Nat, wd = (W : Int) ∧ hi = (H : Int) ∧ 1 ≤ W ∧ W ≤ 16 ∧ 1 ≤ H ∧ H ≤ 16 ∧ W * H = n := by
  unfold validB at h
  simp at h
  refine ⟨wd.toNat, hi.toNat, by omega, by omega, by omega, by omega, by omega, by omega, ?_⟩
  have h1 : ((wd.toNat * hi.toNat : Nat) : Int) = (n : Int) := by
    rw [Int.natCast_mul, Int.toNat_of_nonneg (by omega), Int.toNat_of_nonneg (by omega)]
    exact h.2.2.2.2.symm
  exact Int.ofNat.inj h1
end Go.Proofs.Ytbkacmklgkgamaa
