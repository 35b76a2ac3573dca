/- Walk: the law on CountOutputs. Conditions: the text is shorter than 2^63; the library's own size variable holds a number. -/
import Derived.Test.YthgdikdcbkhgjaaDoorCx
namespace Go.Proofs.YthgdikdcbkhgjaaDoor
open Go.RowKit

set_option maxRecDepth 100000 in
set_option maxHeartbeats 1000000 in
theorem lawCo_any (s : ByteArray) (w : World) (hs : s.size ≤ maxLen) (m0 : Int) (hm : w.cell? ⟨0, 0, none⟩ = some (.int .i64 m0)) :
    Calls Tryd.prog 4 #[.string s] w fun e w' => e = .returned (.bool true) ∧ Below w.heap.size w w' := by
  unfold maxLen at hs
  by_cases hbig : 1048576 < s.size
  · clear hm
    go_enter Tryd.func4, Tryd.ntmps4
    go_wp2
    go_ret
    exact ⟨rfl, Below.refl _ _⟩
  have hs20 : s.size ≤ 1048576 := by omega
  have SC := Lib.hid (specCount_any s w hs20)
  have hlt := World.block_lt_of_cell? w _ hm
  have IC := Lib.hid (fun w1 (hb : Below w.heap.size w w1) => implCount_any s w1 hs20 m0 ((hb.cell hlt).trans hm))
  obtain ⟨a, b, ok, hc⟩ : ∃ (a b : Int) (ok : Bool), cntT s = .returned (.tuple #[.int .i64 a, .int .i64 b, .bool ok]) := by
    unfold cntT
    split
    · exact ⟨_, _, _, rfl⟩
    · exact ⟨_, _, _, rfl⟩
  rw [hc] at SC IC
  have ha : (!(a == a)) = false := by simp
  have hb' : (!(b == b)) = false := by simp
  clear hm hc hlt
  cases ok
  all_goals
    go_enter Tryd.func4, Tryd.ntmps4
    go_wp2_with fail
    refine SC.out.mono ?_
    rintro e w1 ⟨rfl, hb1⟩
    have B1 := Lib.hid hb1
    have IC1 := Lib.hid (IC.out w1 hb1)
    clear hb1
    go_wp2_with fail
    refine IC1.out.mono ?_
    rintro e w2 ⟨rfl, hb2⟩
    have B2 := Lib.hid (B1.out.trans (hb2.mono B1.out.size))
    clear hb2
    go_wp2
    go_ret
    exact ⟨rfl, B2.out⟩
end Go.Proofs.YthgdikdcbkhgjaaDoor
