/- Walks: SpansOf of the program and of the reference give the same. Condition: none but that the cells can be read. -/
import Derived.Test.YtbkacmklgkgamaaSi
import Derived.Test.YtbkacmklgkgamaaVal
namespace Go.Proofs.Ytbkacmklgkgamaa
open Go.RowKit

/-- What SpansOf gives: a list, and whether the field is valid. -/
def SpRes (T : List Int) (ok : Bool) (w : World) (e : Ending) (w' : World) : Prop :=
  ∃ A' c', e = .returned (.tuple #[.slice A' T.length c', .bool ok]) ∧ w'.ownsRow w.heap.size 2 1 (.slice A' T.length c') T.length (T.map iv) ∧ Below w.heap.size w w'

theorem spRes_nil {w w' : World} (hb : Below w.heap.size w w') : SpRes [] false w (.returned (.tuple #[.slice none 0 0, .bool false])) w' :=
  ⟨none, 0, rfl, World.ownsRow_nil _ _ _ _, hb⟩



set_option maxRecDepth 100000 in
set_option maxHeartbeats 400000 in
theorem implSpans_no (wd hi : Int) (A : Option Addr) (n c : Nat) (w : World) (h : validB wd hi n = false) : Calls Try.prog 20 #[fieldV wd hi A n c] w (SpRes [] false w) := by
  have HW : Hid (Below w.heap.size w (w.alloc (.cells #[.int .i64 wd, .int .i64 hi, .slice A n c] 31))) := (Below.refl _ _).alloc (Nat.le_refl _) _
  have HH := Lib.hid h
  clear h
  unfold fieldV
  go_enter Try.func20, Try.ntmps20
  go_wp2_with fail
  refine (ValidField_any wd hi A n c _).mono ?_
  rintro e w1 ⟨rfl, hb1⟩
  rw [HH.out]
  go_wp2
  go_ret2
  exact spRes_nil (HW.out.trans (hb1.mono (by simp)))

set_option maxRecDepth 100000 in
set_option maxHeartbeats 400000 in
theorem implSpans_ok (W H N : Nat) (A : Option Addr) (c : Nat) (cs : List Bool) (w : World) (hW : 1 ≤ W) (hW' : W ≤ 16) (hH : 1 ≤ H) (hH' : H ≤ 16) (hl : cs.length = N) (hP : W * H = N) (h : validB W H N = true)
    (hA : Rd w w.heap.size 1 A N (cs.map bv)) :
    Calls Try.prog 20 #[fieldV W H A N c] w fun e w' => ∃ T Z, Grp cs N (nbs W H) N T Z ∧ SpRes (spansTo T W Z.length) true w e w' := by
  have HW : Hid (Below w.heap.size w (w.alloc (.cells #[.int .i64 W, .int .i64 H, .slice A N c] 31))) := (Below.refl _ _).alloc (Nat.le_refl _) _
  have hbk : Hid (Blk (w.alloc (.cells #[.int .i64 W, .int .i64 H, .slice A N c] 31)) w.heap.size 31 #[.int .i64 W, .int .i64 H, .slice A N c]) := Blk.new _ _ _
  have HH := Lib.hid h
  have HL := Lib.hid hl
  have HP := Lib.hid hP
  clear h hl hP
  unfold fieldV
  go_enter Try.func20, Try.ntmps20
  go_wp2_with fail
  refine (ValidField_any W H A N c _).mono ?_
  rintro e w1 ⟨rfl, hb1⟩
  rw [HH.out]
  have hsz := hb1.size
  simp only [World.size_alloc] at hsz
  have HB := Lib.hid (HW.out.trans (hb1.mono (by simp)))
  have hk := hbk.out.below hb1 (by simp)
  have d0 : w1.cell? ⟨w.heap.size, 0, none⟩ = some (.int .i64 W) := hk.cell 0
  have d1 : w1.cell? ⟨w.heap.size, 1, none⟩ = some (.int .i64 H) := hk.cell 1
  have d2 : w1.cell? ⟨w.heap.size, 2, none⟩ = some (.slice A N c) := hk.cell 2
  clear hb1 hk
  go_wp2_with fail
  refine (spans_any W H N A c cs _ hW hW' hH hH' HL.out HP.out ((hA.below HB.out).more (by omega))).mono ?_
  rintro e w2 ⟨T, Z, A', c', rfl, G, ho, hb2⟩
  have HO := Lib.hid ho
  clear ho
  go_wp2
  go_ret2
  exact ⟨T, Z, G.out, A', c', rfl, own_base HO.out (by omega), HB.out.trans (hb2.mono (by omega))⟩

end Go.Proofs.Ytbkacmklgkgamaa
