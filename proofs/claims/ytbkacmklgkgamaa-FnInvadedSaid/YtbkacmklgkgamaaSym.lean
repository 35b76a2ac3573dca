/- Plain: sides of cells go both ways. -/
import Derived.Test.YtbkacmklgkgamaaNb
namespace Go.Proofs.Ytbkacmklgkgamaa

theorem mod_succ {W i : Nat} (h : i % W + 1 < W) : (i + 1) % W = i % W + 1 := by
  have e : i + 1 = W * (i / W) + (i % W + 1) := by have := Nat.div_add_mod i W; omega
  conv => lhs; rw [e]
  rw [Nat.mul_add_mod, Nat.mod_eq_of_lt h]
theorem mod_pred {W i : Nat} (hW : 0 < W) (h : 0 < i % W) : (i - 1) % W = i % W - 1 := by
  have h0 := Nat.mod_lt i hW
  have e : i - 1 = W * (i / W) + (i % W - 1) := by have := Nat.div_add_mod i W; omega
  conv => lhs; rw [e]
  rw [Nat.mul_add_mod, Nat.mod_eq_of_lt (by omega)]
theorem nbs_sym {W H i b : Nat} (hW : 0 < W) (hi : i < W * H) (hb : b ∈ nbs W H i) : i ∈ nbs W H b := by
  have h0 := Nat.mod_lt i hW
  unfold nbs nb1 nb2 nb3 nb4 at hb ⊢
  simp only [List.mem_append] at hb ⊢
  rcases hb with ((hb | hb) | hb) | hb
  · split at hb
    · simp at hb
      subst hb
      right
      rw [if_pos (by omega)]
      simp; omega
    · simp at hb
  · split at hb
    · rename_i h
      simp at hb
      subst hb
      have hi1 : 1 ≤ i := by
        rcases Nat.eq_zero_or_pos i with e | e
        · subst e; simp at h
        · exact e
      left; right
      rw [if_pos (by rw [mod_pred hW h]; omega)]
      simp; omega
    · simp at hb
  · split at hb
    · rename_i h
      simp at hb
      subst hb
      left; left; right
      rw [if_pos (by rw [mod_succ h]; omega)]
      simp
    · simp at hb
  · split at hb
    · simp at hb
      subst hb
      left; left; left
      rw [if_pos (by omega)]
      simp
    · simp at hb
end Go.Proofs.Ytbkacmklgkgamaa
