/- Walk: how many bytes the shape has with which a text begins, by the reference. Condition: the text is shorter than 2^63. -/
import Derived.Test.YtlklpfjcnbkhlaaLd
namespace Go.Proofs.Ytlklpfjcnbkhlaa
open Go.RowKit

theorem getD_nums {s : ByteArray} {k : Nat} (h : k < s.size) : (nums s).getD k 0 = s[k].toNat := by
  rw [List.getD_eq_getElem?_getD, nums_get h]; rfl
set_option maxRecDepth 100000 in
set_option maxHeartbeats 2000000 in
theorem l07Long_any (s : ByteArray) (w : World) (hs : s.size ≤ maxLen) : Calls Try.prog 30 #[.string s] w fun e w' => e = .returned (.int .i64 ((longL (nums s) : Nat) : Int)) ∧ ∃ m, w' = w.drewN m := by
  unfold maxLen at hs
  by_cases h5 : s.size < 5
  · have HE : Hid (longL (nums s) = 0) := by unfold Hid longL; rw [nums_len, if_pos h5]
    go_enter Try.func30, Try.ntmps30
    go_wp2
    go_ret
    exact ⟨by rw [HE.out]; rfl, 0, rfl⟩
  · have h4 : 4 < s.size := by omega
    have b4 : s[4].toNat ≤ 255 := by have := s[4].toNat_lt; omega
    have g4 := getD_nums h4
    obtain ⟨x, ex⟩ : ∃ x, s[4].toNat = x := ⟨_, rfl⟩
    rw [ex] at b4 g4
    by_cases h9 : s.size < 5 + x + 4
    · have HE : Hid (longL (nums s) = 0) := by unfold Hid longL; rw [nums_len, if_neg h5, g4, if_pos h9]
      clear g4
      go_enter Try.func30, Try.ntmps30
      go_wp2
      go_ret
      exact ⟨by rw [HE.out]; rfl, 0, rfl⟩
    · have k2 : 5 + x + 2 < s.size := by omega
      have k3 : 5 + x + 3 < s.size := by omega
      have b2 : s[5 + x + 2].toNat ≤ 255 := by have := s[5 + x + 2].toNat_lt; omega
      have b3 : s[5 + x + 3].toNat ≤ 255 := by have := s[5 + x + 3].toNat_lt; omega
      have g2 := getD_nums k2
      have g3 := getD_nums k3
      obtain ⟨y, ey⟩ : ∃ y, s[5 + x + 2].toNat = y := ⟨_, rfl⟩
      obtain ⟨z, ez⟩ : ∃ z, s[5 + x + 3].toNat = z := ⟨_, rfl⟩
      rw [ey] at b2 g2
      rw [ez] at b3 g3
      have i2 : (0 : Int) ≤ 5 + (x : Int) + 2 ∧ 5 + (x : Int) + 2 < (s.size : Int) := by omega
      have i3 : (0 : Int) ≤ 5 + (x : Int) + 3 ∧ 5 + (x : Int) + 3 < (s.size : Int) := by omega
      by_cases hn : s.size < 5 + x + 6 + y + 256 * z
      · have HE : Hid (longL (nums s) = 0) := by unfold Hid longL; rw [nums_len, if_neg h5, g4, if_neg h9, g2, g3, if_pos hn]
        clear g4 g2 g3
        go_enter Try.func30, Try.ntmps30
        go_wp2
        go_quiet (fail)
        go_wp2
        go_ret
        exact ⟨by rw [HE.out]; rfl, _, rfl⟩
      · have HE : Hid (longL (nums s) = 5 + x + 6 + y + 256 * z) := by unfold Hid longL; rw [nums_len, if_neg h5, g4, if_neg h9, g2, g3, if_neg hn]
        clear g4 g2 g3
        go_enter Try.func30, Try.ntmps30
        go_wp2
        go_quiet (fail)
        go_wp2
        go_ret
        exact ⟨by rw [HE.out]; go_num, _, rfl⟩
end Go.Proofs.Ytlklpfjcnbkhlaa
