/- Walks: the bytes' lengths and numbers, two bytes' draws, seeds out of bytes. Conditions: at most 2^20 bytes. -/
import Derived.Test.YtbkacmklgkgamaaIo
import Derived.Test.YtbkacmklgkgamaaVd
namespace Go.Proofs.Ytbkacmklgkgamaa
open Go.RowKit

set_option maxRecDepth 100000 in
theorem b10Long_any (A A' : Option Addr) (n c n' c' : Nat) (w : World) (hn : n ≤ maxLen) (hn' : n' ≤ maxLen) :
    Calls Try.prog 6 #[.slice A n c, .slice A' n' c'] w fun e w' => e = .returned (.bool (decide (1048576 < n) || decide (1048576 < n'))) ∧ w' = w := by
  unfold maxLen at hn hn'
  by_cases h1 : 1048576 < n
  · go_enter Try.func6, Try.ntmps6
    go_wp2
    go_ret
    exact ⟨ret_bool (by simp [h1]), rfl⟩
  · by_cases h2 : 1048576 < n'
    · go_enter Try.func6, Try.ntmps6
      go_wp2
      go_ret
      exact ⟨ret_bool (by rw [Bool.eq_iff_iff]; simp; omega), rfl⟩
    · go_enter Try.func6, Try.ntmps6
      go_wp2
      go_ret
      exact ⟨ret_bool (by rw [Bool.eq_iff_iff]; simp; omega), rfl⟩
set_option maxRecDepth 100000 in
set_option maxHeartbeats 1000000 in
theorem b10At_val (A : Option Addr) (n c i k : Nat) (bs : List Nat) (hl : bs.length = n) (hn : n ≤ 1048576) (hi : i ≤ 1000) (hk : 2 ≤ k) (hk2 : k ≤ 256) (hb : ∀ x ∈ bs, x < 256) : ∃ y : Nat, y < k ∧ ∀ (B : Nat) (w : World), Rd w B 1 A n (bs.map u8v) →
    Calls Try.prog 16 #[.slice A n c, .int .i64 (i : Int), .int .i64 (k : Int)] w fun e w' => e = .returned (.int .i64 (y : Int)) ∧ w' = w := by
  have hki : decide ((k : Int) ≤ 1) = false := by simp; omega
  by_cases h : i < n
  · obtain ⟨x, hx⟩ : ∃ x, bs[i]? = some x := ⟨_, List.getElem?_eq_getElem (by omega)⟩
    have hx256 := hb x (List.mem_of_getElem? hx)
    have hm : (x : Int) % (k : Int) = ((x % k : Nat) : Int) := by simp
    have hmk : x % k < k := Nat.mod_lt _ (by omega)
    obtain ⟨y, ey⟩ : ∃ y, x % k = y := ⟨_, rfl⟩
    rw [ey] at hm hmk
    refine ⟨y, hmk, fun B w hA => ?_⟩
    obtain ⟨b, off, rfl, _, hc⟩ := hA.2 (by omega)
    have cx : w.cell? ⟨b, off + i, none⟩ = some (.int .u8 (x : Int)) := hc i _ (by rw [List.getElem?_map, hx]; rfl)
    clear hc hx ey hb hA hmk hl
    go_enter Try.func16, Try.ntmps16
    go_wp2
    go_ret
    exact ⟨ret_i hm, rfl⟩
  · have hm : ((i : Int) * 37 + 11) % (k : Int) = (((i * 37 + 11) % k : Nat) : Int) := by simp
    have hmk : (i * 37 + 11) % k < k := Nat.mod_lt _ (by omega)
    obtain ⟨y, ey⟩ : ∃ y, (i * 37 + 11) % k = y := ⟨_, rfl⟩
    rw [ey] at hm hmk
    refine ⟨y, hmk, fun B w hA => ?_⟩
    clear ey hb hA hmk hl
    go_enter Try.func16, Try.ntmps16
    go_wp2
    go_ret
    exact ⟨ret_i hm, rfl⟩
set_option maxRecDepth 100000 in
set_option maxHeartbeats 1000000 in
/-- A number drawn out of two bytes. -/
theorem pick2_any (g n c at_ k : Nat) (A : Option Addr) (bs : List Nat) (w : World) (hat : at_ ≤ 1099511627775) (hk : 200 < k) (hk2 : k ≤ 65536) (h : Src w g A n c at_ bs) :
    Calls Try.prog 26 #[.pointer (some ⟨g, 0, none⟩), .int .i64 (k : Int)] w fun e w' => ∃ x : Nat, e = .returned (.int .i64 (x : Int)) ∧ x < k ∧ Src w' g A n c (at_ + 2) bs ∧ w.grownBy w' (some g) := by
  have NC := Lib.hid (next_any g n c at_ A bs w (by omega) h)
  have hki : decide ((k : Int) ≤ 1) = false := by simp; omega
  have hki2 : decide ((200 : Int) < (k : Int)) = true := by simp; omega
  clear h
  go_enter Try.func26, Try.ntmps26
  go_wp2_with fail
  refine NC.out.mono ?_
  rintro e w1 ⟨x, rfl, hx, hs, hg⟩
  have HG := Lib.hid hg
  have NC2 := Lib.hid (next_any g n c (at_ + 1) A bs w1 (by omega) hs)
  clear hs hg NC
  go_wp2_with fail
  refine NC2.out.mono ?_
  rintro e w2 ⟨y, rfl, hy, hs, hg⟩
  have HS := Lib.hid hs
  have HG2 := Lib.hid (grown_trans' HG.out hg)
  have hm : ((x : Int) * 256 + (y : Int)) % (k : Int) = (((x * 256 + y) % k : Nat) : Int) := by simp
  have hmk : (x * 256 + y) % k < k := Nat.mod_lt _ (by omega)
  obtain ⟨z, ez⟩ : ∃ z, (x * 256 + y) % k = z := ⟨_, rfl⟩
  rw [ez] at hm hmk
  clear hs hg ez NC2
  go_wp2
  go_ret
  exact ⟨z, ret_i hm, hmk, HS.out, HG2.out⟩
end Go.Proofs.Ytbkacmklgkgamaa
