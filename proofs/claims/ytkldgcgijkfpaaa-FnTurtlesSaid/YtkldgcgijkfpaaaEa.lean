/- Walk: a point of eighths that the reference draws out of bytes. Conditions: at most 2^20 bytes. -/
import Derived.Test.YtkldgcgijkfpaaaSlb
import Derived.Test.YtkldgcgijkfpaaaIs
import Derived.Test.YtkldgcgijkfpaaaLc
namespace Go.Proofs.Ytkldgcgijkfpaaa
open Go.RowKit
open Num Quick

/-- The word of m eighths. -/
def ew (m : Int) : Nat := (floatBits .quo .f32 (floatOfInt .f32 m) 1090519040).getD 0
theorem ew_ok {m : Int} (h : m.natAbs ≤ 16) : floatBits .quo .f32 (floatOfInt .f32 m) 1090519040 = some (ew m) ∧ Gn 3 m (ew m) := by
  obtain ⟨w, w1, w2⟩ := gn_quo m 3 _ c8.1 c8.2 (by omega) (by omega)
  have e : ew m = w := by unfold ew; rw [w1]; rfl
  rw [e]
  exact ⟨w1, w2⟩
theorem pick33_any (g n c at_ : Nat) (A : Option Addr) (bs : List Nat) (w : World) (hat : at_ ≤ 1000) (h : Src w g A n c at_ bs) :
    Calls Try.prog 29 #[.pointer (some ⟨g, 0, none⟩), .int .i64 33] w fun e w' => ∃ z : Int, z.natAbs ≤ 16 ∧ (∃ x : Int, e = .returned (.int .i64 x) ∧ x - 16 = z ∧ 0 ≤ x ∧ x ≤ 32) ∧ Src w' g A n c (at_ + 1) bs ∧ w.grownBy w' (some g) := by
  refine (pick_any g n c at_ 33 A bs w (by omega) (by omega) (by omega) h).mono ?_
  rintro e w' ⟨x, rfl, hx, hs, hg⟩
  exact ⟨(x : Int) - 16, by omega, ⟨(x : Int), rfl, rfl, by omega, by omega⟩, hs, hg⟩
set_option maxRecDepth 100000 in
set_option maxHeartbeats 1000000 in
theorem l08DrawPoint_any (g n c : Nat) (A : Option Addr) (bs : List Nat) (w : World) (h : Src w g A n c 0 bs) :
    Calls Try.prog 37 #[.pointer (some ⟨g, 0, none⟩)] w fun e w' => ∃ x y : Int, x.natAbs ≤ 16 ∧ y.natAbs ≤ 16 ∧ e = .returned (.complex .f32 (ew x) (ew y)) ∧ w.grownBy w' (some g) := by
  have P0 := Lib.hid (pick33_any g n c 0 A bs w (by omega) h)
  clear h
  go_enter Try.func37, Try.ntmps37
  go_wp2_with fail
  refine P0.out.mono ?_
  rintro e w1 ⟨z, hz, ⟨x, rfl, hxz, hx0, hx1⟩, hs, hg⟩
  have q1 := r32 (ew_ok hz).1
  have q2 := rInt32 z
  have P1 := Lib.hid (pick33_any g n c 1 A bs w1 (by omega) hs)
  have HG := Lib.hid hg
  have wz : IntKind.i64.wrap z = z := IntWalk.i64_in _ (by omega)
  clear hs hg P0
  go_wp2_with fail
  refine P1.out.mono ?_
  rintro e w2 ⟨z', hz', ⟨x', rfl, hxz', hx0', hx1'⟩, hs, hg⟩
  have q1' := r32 (ew_ok hz').1
  have q2' := rInt32 z'
  have wz' : IntKind.i64.wrap z' = z' := IntWalk.i64_in _ (by omega)
  have HG2 := Lib.hid (grown_trans' HG.out hg)
  clear hs hg P1
  go_wp2
  go_ret
  exact ⟨z, z', hz, hz', rfl, HG2.out⟩
set_option maxRecDepth 100000 in
set_option maxHeartbeats 1000000 in
theorem R8Point_any (n c : Nat) (A : Option Addr) (bs : List Nat) (w : World) (hn : n ≤ 1048576) (hc : n ≤ c) (hb : ∀ x ∈ bs, x < 256) (hA : Rd w w.heap.size 1 A n (bs.map u8v)) :
    Calls Try.prog 13 #[.slice A n c] w fun e w' => ∃ x y : Int, x.natAbs ≤ 16 ∧ y.natAbs ≤ 16 ∧ e = .returned (.complex .f32 (ew x) (ew y)) ∧ Below w.heap.size w w' := by
  obtain ⟨u, eu⟩ : ∃ u, u = w.alloc (.cells #[.slice A n c, .int .i64 0, .int .u64 0] 86) := ⟨_, rfl⟩
  have V0 : Hid (Below w.heap.size w u) := by rw [eu]; exact (Below.refl _ _).alloc (Nat.le_refl _) _
  have S0 : Hid (Src u w.heap.size A n c 0 bs) := by
    rw [eu]
    exact ⟨⟨0, by omega, by omega, Blk.new _ _ _⟩, hA.below ((Below.refl _ _).alloc (Nat.le_refl _) _), hb, hn, hc⟩
  have FC : Hid (Calls Try.prog 28 #[.slice A n c] w fun e w' => e = .returned (.pointer (some ⟨w.heap.size, 0, none⟩)) ∧ w' = u) := by rw [eu]; exact l00From_any A n c w
  have P1 := Lib.hid (l08DrawPoint_any w.heap.size n c A bs u S0.out)
  clear eu hA S0
  go_enter Try.func13, Try.ntmps13
  go_wp2_with fail
  refine FC.out.mono ?_
  rintro e u' ⟨rfl, hu⟩
  obtain rfl := hu.symm
  go_wp2_with fail
  refine P1.out.mono ?_
  rintro e w1 ⟨x, y, hx, hy, rfl, hg⟩
  have V1 := Lib.hid (V0.out.grown hg V0.out.size (fun k e => by injection e with e; omega))
  clear hg P1 V0
  go_wp2
  go_ret
  exact ⟨x, y, hx, hy, rfl, V1.out⟩
end Go.Proofs.Ytkldgcgijkfpaaa
