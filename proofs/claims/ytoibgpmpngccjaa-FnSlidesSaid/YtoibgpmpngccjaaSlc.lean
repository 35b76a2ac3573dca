/- Walks: two bytes' draws, seeds out of bytes. Conditions: at most 2^20 bytes. -/
import Derived.Test.YtoibgpmpngccjaaIn
import Derived.Test.YtoibgpmpngccjaaIs
import Derived.Test.YtoibgpmpngccjaaLc
namespace Go.Proofs.Ytoibgpmpngccjaa
open Go.RowKit

set_option maxRecDepth 100000 in
set_option maxHeartbeats 1000000 in
/-- A number drawn out of two bytes. -/
theorem pick2_any (g n c at_ k : Nat) (A : Option Addr) (bs : List Nat) (w : World) (hat : at_ ≤ 1099511627775) (hk : 200 < k) (hk2 : k ≤ 65536) (h : Src w g A n c at_ bs) :
    Calls Try.prog 20 #[.pointer (some ⟨g, 0, none⟩), .int .i64 (k : Int)] w fun e w' => ∃ x : Nat, e = .returned (.int .i64 (x : Int)) ∧ x < k ∧ Src w' g A n c (at_ + 2) bs ∧ w.grownBy w' (some g) := by
  have NC := Lib.hid (next_any g n c at_ A bs w (by omega) h)
  have hki : decide ((k : Int) ≤ 1) = false := by simp; omega
  have hki2 : decide ((200 : Int) < (k : Int)) = true := by simp; omega
  clear h
  go_enter Try.func20, Try.ntmps20
  go_wp2_with fail
  refine NC.out.mono ?_
  rintro e w1 ⟨x, rfl, hx, hs, hg⟩
  have HG := Lib.hid hg
  have NC2 := Lib.hid (next_any g n c (at_ + 1) A bs w1 (by omega) hs)
  clear hs hg NC
  go_wp2_with fail
  refine NC2.out.mono ?_
  rintro e w2 ⟨y, rfl, hy, hs, hg⟩
  have HS := Lib.hid hs
  have HG2 := Lib.hid (grown_trans' HG.out hg)
  have hm : ((x : Int) * 256 + (y : Int)) % (k : Int) = (((x * 256 + y) % k : Nat) : Int) := by simp
  have hmk : (x * 256 + y) % k < k := Nat.mod_lt _ (by omega)
  obtain ⟨z, ez⟩ : ∃ z, (x * 256 + y) % k = z := ⟨_, rfl⟩
  rw [ez] at hm hmk
  clear hs hg ez NC2
  go_wp2
  go_ret
  exact ⟨z, ret_i hm, hmk, HS.out, HG2.out⟩
set_option maxRecDepth 100000 in
set_option maxHeartbeats 1000000 in
theorem B10Seed_any (n c : Nat) (A : Option Addr) (bs : List Nat) (w : World) (hn : n ≤ 1048576) (hc : n ≤ c) (hb : ∀ x ∈ bs, x < 256) (hA : Rd w w.heap.size 1 A n (bs.map u8v)) :
    Calls Try.prog 10 #[.slice A n c] w fun e w' => ∃ s : Nat, e = .returned (.int .i64 (s : Int)) ∧ s ≤ 2147483647 ∧ Below w.heap.size w w' := by
  obtain ⟨u, eu⟩ : ∃ u, u = w.alloc (.cells #[.slice A n c, .int .i64 0, .int .u64 0] 74) := ⟨_, rfl⟩
  have V0 : Hid (Below w.heap.size w u) := by rw [eu]; exact (Below.refl _ _).alloc (Nat.le_refl _) _
  have S0 : Hid (Src u w.heap.size A n c 0 bs) := by
    rw [eu]
    exact ⟨⟨0, by omega, by omega, Blk.new _ _ _⟩, hA.below ((Below.refl _ _).alloc (Nat.le_refl _) _), hb, hn, hc⟩
  have FC : Hid (Calls Try.prog 19 #[.slice A n c] w fun e w' => e = .returned (.pointer (some ⟨w.heap.size, 0, none⟩)) ∧ w' = u) := by rw [eu]; exact l00From_any A n c w
  have P1 := Lib.hid (pick2_any w.heap.size n c 0 32768 A bs u (by omega) (by omega) (by omega) S0.out)
  clear eu hA S0
  go_enter Try.func10, Try.ntmps10
  go_wp2_with fail
  refine FC.out.mono ?_
  rintro e u' ⟨rfl, hu⟩
  obtain rfl := hu.symm
  go_wp2_with fail
  refine P1.out.mono ?_
  rintro e w1 ⟨x, rfl, hx, hs, hg⟩
  have V1 := Lib.hid (V0.out.grown hg V0.out.size (fun k e => by injection e with e; omega))
  have P2 := Lib.hid (pick2_any w.heap.size n c 2 65536 A bs w1 (by omega) (by omega) (by omega) hs)
  clear hs hg P1 V0
  go_wp2_with fail
  refine P2.out.mono ?_
  rintro e w2 ⟨y, rfl, hy, hs, hg⟩
  have V2 := Lib.hid (V1.out.grown hg V1.out.size (fun k e => by injection e with e; omega))
  clear hs hg P2 V1
  go_wp2
  go_ret
  exact ⟨x * 65536 + y, ret_i (by omega), by omega, V2.out⟩
end Go.Proofs.Ytoibgpmpngccjaa
