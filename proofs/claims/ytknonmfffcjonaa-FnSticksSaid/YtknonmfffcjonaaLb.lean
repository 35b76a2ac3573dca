/- Walks: the bytes' lengths and numbers, two bytes' draws, seeds out of bytes. Conditions: at most 2^20 bytes. -/
import Derived.Test.YtknonmfffcjonaaIo
import Derived.Test.YtknonmfffcjonaaVd
namespace Go.Proofs.Ytknonmfffcjonaa
open Go.RowKit

set_option maxRecDepth 100000 in
theorem b10Long_any (A A' : Option Addr) (n c n' c' : Nat) (w : World) (hn : n ≤ maxLen) (hn' : n' ≤ maxLen) :
    Calls Try.prog 5 #[.slice A n c, .slice A' n' c'] w fun e w' => e = .returned (.bool (decide (1048576 < n) || decide (1048576 < n'))) ∧ w' = w := by
  unfold maxLen at hn hn'
  by_cases h1 : 1048576 < n
  · go_enter Try.func5, Try.ntmps5
    go_wp2
    go_ret
    exact ⟨ret_bool (by simp [h1]), rfl⟩
  · by_cases h2 : 1048576 < n'
    · go_enter Try.func5, Try.ntmps5
      go_wp2
      go_ret
      exact ⟨ret_bool (by rw [Bool.eq_iff_iff]; simp; omega), rfl⟩
    · go_enter Try.func5, Try.ntmps5
      go_wp2
      go_ret
      exact ⟨ret_bool (by rw [Bool.eq_iff_iff]; simp; omega), rfl⟩
set_option maxRecDepth 100000 in
set_option maxHeartbeats 1000000 in
theorem b10At_val (A : Option Addr) (n c i k : Nat) (bs : List Nat) (hl : bs.length = n) (hn : n ≤ 1048576) (hi : i ≤ 1000) (hk : 2 ≤ k) (hk2 : k ≤ 256) (hb : ∀ x ∈ bs, x < 256) : ∃ y : Nat, y < k ∧ ∀ (B : Nat) (w : World), Rd w B 1 A n (bs.map u8v) →
    Calls Try.prog 14 #[.slice A n c, .int .i64 (i : Int), .int .i64 (k : Int)] w fun e w' => e = .returned (.int .i64 (y : Int)) ∧ w' = w := by
  have hki : decide ((k : Int) ≤ 1) = false := by simp; omega
  by_cases h : i < n
  · obtain ⟨x, hx⟩ : ∃ x, bs[i]? = some x := ⟨_, List.getElem?_eq_getElem (by omega)⟩
    have hx256 := hb x (List.mem_of_getElem? hx)
    have hm : (x : Int) % (k : Int) = ((x % k : Nat) : Int) := by simp
    have hmk : x % k < k := Nat.mod_lt _ (by omega)
    obtain ⟨y, ey⟩ : ∃ y, x % k = y := ⟨_, rfl⟩
    rw [ey] at hm hmk
    refine ⟨y, hmk, fun B w hA => ?_⟩
    obtain ⟨b, off, rfl, _, hc⟩ := hA.2 (by omega)
    have cx : w.cell? ⟨b, off + i, none⟩ = some (.int .u8 (x : Int)) := hc i _ (by rw [List.getElem?_map, hx]; rfl)
    clear hc hx ey hb hA hmk hl
    go_enter Try.func14, Try.ntmps14
    go_wp2
    go_ret
    exact ⟨ret_i hm, rfl⟩
  · have hm : ((i : Int) * 37 + 11) % (k : Int) = (((i * 37 + 11) % k : Nat) : Int) := by simp
    have hmk : (i * 37 + 11) % k < k := Nat.mod_lt _ (by omega)
    obtain ⟨y, ey⟩ : ∃ y, (i * 37 + 11) % k = y := ⟨_, rfl⟩
    rw [ey] at hm hmk
    refine ⟨y, hmk, fun B w hA => ?_⟩
    clear ey hb hA hmk hl
    go_enter Try.func14, Try.ntmps14
    go_wp2
    go_ret
    exact ⟨ret_i hm, rfl⟩
set_option maxRecDepth 100000 in
set_option maxHeartbeats 1000000 in
/-- A number drawn out of two bytes. -/
theorem pick2_any (g n c at_ k : Nat) (A : Option Addr) (bs : List Nat) (w : World) (hat : at_ ≤ 1099511627775) (hk : 200 < k) (hk2 : k ≤ 65536) (h : Src w g A n c at_ bs) :
    Calls Try.prog 31 #[.pointer (some ⟨g, 0, none⟩), .int .i64 (k : Int)] w fun e w' => ∃ x : Nat, e = .returned (.int .i64 (x : Int)) ∧ x < k ∧ Src w' g A n c (at_ + 2) bs ∧ w.grownBy w' (some g) := by
  have NC := Lib.hid (next_any g n c at_ A bs w (by omega) h)
  have hki : decide ((k : Int) ≤ 1) = false := by simp; omega
  have hki2 : decide ((200 : Int) < (k : Int)) = true := by simp; omega
  clear h
  go_enter Try.func31, Try.ntmps31
  go_wp2_with fail
  refine NC.out.mono ?_
  rintro e w1 ⟨x, rfl, hx, hs, hg⟩
  have HG := Lib.hid hg
  have NC2 := Lib.hid (next_any g n c (at_ + 1) A bs w1 (by omega) hs)
  clear hs hg NC
  go_wp2_with fail
  refine NC2.out.mono ?_
  rintro e w2 ⟨y, rfl, hy, hs, hg⟩
  have HS := Lib.hid hs
  have HG2 := Lib.hid (grown_trans' HG.out hg)
  have hm : ((x : Int) * 256 + (y : Int)) % (k : Int) = (((x * 256 + y) % k : Nat) : Int) := by simp
  have hmk : (x * 256 + y) % k < k := Nat.mod_lt _ (by omega)
  obtain ⟨z, ez⟩ : ∃ z, (x * 256 + y) % k = z := ⟨_, rfl⟩
  rw [ez] at hm hmk
  clear hs hg ez NC2
  go_wp2
  go_ret
  exact ⟨z, ret_i hm, hmk, HS.out, HG2.out⟩
set_option maxRecDepth 100000 in
set_option maxHeartbeats 1000000 in
theorem B10Seed_any (n c : Nat) (A : Option Addr) (bs : List Nat) (w : World) (hn : n ≤ 1048576) (hc : n ≤ c) (hb : ∀ x ∈ bs, x < 256) (hA : Rd w w.heap.size 1 A n (bs.map u8v)) :
    Calls Try.prog 13 #[.slice A n c] w fun e w' => ∃ s : Nat, e = .returned (.int .i64 (s : Int)) ∧ s ≤ 2147483647 ∧ Below w.heap.size w w' := by
  obtain ⟨u, eu⟩ : ∃ u, u = w.alloc (.cells #[.slice A n c, .int .i64 0, .int .u64 0] 73) := ⟨_, rfl⟩
  have V0 : Hid (Below w.heap.size w u) := by rw [eu]; exact (Below.refl _ _).alloc (Nat.le_refl _) _
  have S0 : Hid (Src u w.heap.size A n c 0 bs) := by
    rw [eu]
    exact ⟨⟨0, by omega, by omega, Blk.new _ _ _⟩, hA.below ((Below.refl _ _).alloc (Nat.le_refl _) _), hb, hn, hc⟩
  have FC : Hid (Calls Try.prog 23 #[.slice A n c] w fun e w' => e = .returned (.pointer (some ⟨w.heap.size, 0, none⟩)) ∧ w' = u) := by rw [eu]; exact l00From_any A n c w
  have P1 := Lib.hid (pick2_any w.heap.size n c 0 32768 A bs u (by omega) (by omega) (by omega) S0.out)
  clear eu hA S0
  go_enter Try.func13, Try.ntmps13
  go_wp2_with fail
  refine FC.out.mono ?_
  rintro e u' ⟨rfl, hu⟩
  obtain rfl := hu.symm
  go_wp2_with fail
  refine P1.out.mono ?_
  rintro e w1 ⟨x, rfl, hx, hs, hg⟩
  have V1 := Lib.hid (V0.out.grown hg V0.out.size (fun k e => by injection e with e; omega))
  have P2 := Lib.hid (pick2_any w.heap.size n c 2 65536 A bs w1 (by omega) (by omega) (by omega) hs)
  clear hs hg P1 V0
  go_wp2_with fail
  refine P2.out.mono ?_
  rintro e w2 ⟨y, rfl, hy, hs, hg⟩
  have V2 := Lib.hid (V1.out.grown hg V1.out.size (fun k e => by injection e with e; omega))
  clear hs hg P2 V1
  go_wp2
  go_ret
  exact ⟨x * 65536 + y, ret_i (by omega), by omega, V2.out⟩
end Go.Proofs.Ytknonmfffcjonaa
