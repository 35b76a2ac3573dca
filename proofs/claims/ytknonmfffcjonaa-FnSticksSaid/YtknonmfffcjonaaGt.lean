/- Walks: GroupsOf of the program and of the reference give the same. Condition: none but that the cells can be read. -/
import Derived.Test.YtknonmfffcjonaaGi
import Derived.Test.YtknonmfffcjonaaVal
namespace Go.Proofs.Ytknonmfffcjonaa
open Go.RowKit

/-- What GroupsOf gives: the numbers, the sizes, and whether the field is valid. -/
def GrpRes (T Z : List Int) (ok : Bool) (w : World) (e : Ending) (w' : World) : Prop :=
  ∃ A' c' As cz, e = .returned (.tuple #[.slice A' T.length c', .slice As Z.length cz, .bool ok]) ∧ w'.ownsRow w.heap.size 2 1 (.slice A' T.length c') T.length (T.map iv) ∧ w'.ownsRow w.heap.size 2 1 (.slice As Z.length cz) Z.length (Z.map iv) ∧
    Dis (.slice A' T.length c') (.slice As Z.length cz) ∧ Below w.heap.size w w'

theorem grpRes_nil {w w' : World} (hb : Below w.heap.size w w') : GrpRes [] [] false w (.returned (.tuple #[.slice none 0 0, .slice none 0 0, .bool false])) w' :=
  ⟨none, 0, none, 0, rfl, World.ownsRow_nil _ _ _ _, World.ownsRow_nil _ _ _ _, Dis.nil _, hb⟩



set_option maxRecDepth 100000 in
set_option maxHeartbeats 400000 in
theorem implGroups_no (wd hi : Int) (A : Option Addr) (n c : Nat) (w : World) (h : validB wd hi n = false) : Calls Try.prog 7 #[fieldV wd hi A n c] w (GrpRes [] [] false w) := by
  have HW : Hid (Below w.heap.size w (w.alloc (.cells #[.int .i64 wd, .int .i64 hi, .slice A n c] 26))) := (Below.refl _ _).alloc (Nat.le_refl _) _
  have HH := Lib.hid h
  clear h
  unfold fieldV
  go_enter Try.func7, Try.ntmps7
  go_wp2_with fail
  refine (ValidField_any wd hi A n c _).mono ?_
  rintro e w1 ⟨rfl, hb1⟩
  rw [HH.out]
  go_wp2
  go_ret3
  exact grpRes_nil (HW.out.trans (hb1.mono (by simp)))

set_option maxRecDepth 100000 in
set_option maxHeartbeats 400000 in
theorem implGroups_ok (W H N : Nat) (A : Option Addr) (c : Nat) (cs : List Bool) (w : World) (hW : 1 ≤ W) (hW' : W ≤ 16) (hH : 1 ≤ H) (hH' : H ≤ 16) (hl : cs.length = N) (hP : W * H = N) (h : validB W H N = true)
    (hA : Rd w w.heap.size 1 A N (cs.map bv)) :
    Calls Try.prog 7 #[fieldV W H A N c] w fun e w' => ∃ T Z, Grp cs N (nbs W H) N T Z ∧ GrpRes T Z true w e w' := by
  have HW : Hid (Below w.heap.size w (w.alloc (.cells #[.int .i64 W, .int .i64 H, .slice A N c] 26))) := (Below.refl _ _).alloc (Nat.le_refl _) _
  have hbk : Hid (Blk (w.alloc (.cells #[.int .i64 W, .int .i64 H, .slice A N c] 26)) w.heap.size 26 #[.int .i64 W, .int .i64 H, .slice A N c]) := Blk.new _ _ _
  have HH := Lib.hid h
  have HL := Lib.hid hl
  have HP := Lib.hid hP
  clear h hl hP
  unfold fieldV
  go_enter Try.func7, Try.ntmps7
  go_wp2_with fail
  refine (ValidField_any W H A N c _).mono ?_
  rintro e w1 ⟨rfl, hb1⟩
  rw [HH.out]
  have hsz := hb1.size
  simp only [World.size_alloc] at hsz
  have HB := Lib.hid (HW.out.trans (hb1.mono (by simp)))
  have hk := hbk.out.below hb1 (by simp)
  have d0 : w1.cell? ⟨w.heap.size, 0, none⟩ = some (.int .i64 W) := hk.cell 0
  have d1 : w1.cell? ⟨w.heap.size, 1, none⟩ = some (.int .i64 H) := hk.cell 1
  have d2 : w1.cell? ⟨w.heap.size, 2, none⟩ = some (.slice A N c) := hk.cell 2
  clear hb1 hk
  go_wp2_with fail
  refine (groups_any W H N A c cs _ hW hW' hH hH' HL.out HP.out ((hA.below HB.out).more (by omega))).mono ?_
  rintro e w2 ⟨T, Z, A', As, c', cz, rfl, G, ho, hs, hd, hb2⟩
  have HO := Lib.hid ho
  have HS := Lib.hid hs
  have HD := Lib.hid hd
  clear ho hs hd
  go_wp2
  go_ret3
  have hT := G.out.inv.len
  refine ⟨T, Z, G.out, A', c', As, cz, by rw [hT]; rfl, ?_, own_base HS.out (by omega), ?_, HB.out.trans (hb2.mono (by omega))⟩
  · rw [hT]; exact own_base HO.out (by omega)
  · rw [hT]; exact HD.out

end Go.Proofs.Ytknonmfffcjonaa
