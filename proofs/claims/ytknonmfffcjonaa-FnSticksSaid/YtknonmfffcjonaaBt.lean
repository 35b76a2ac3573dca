/- Walks: BurnTimes of the program and of the reference give the same. Condition: none but that the cells can be read. -/
import Derived.Test.YtknonmfffcjonaaBi
import Derived.Test.YtknonmfffcjonaaVal
namespace Go.Proofs.Ytknonmfffcjonaa
open Go.RowKit

theorem burn_same {cs : List Bool} {W H N : Nat} (hl : cs.length = N) (hP : W * H = N) : qrun cs (nbs W H) N 0 (ts0 cs W N, l0 cs W N) (-1) = lrun cs (nbs W H) (N + 1) (ts0 cs W N) (l0 cs W N) (-1) := by
  have h := qrun_lrun (cs := cs) (N := N) (nb := nbs W H) (fun i hi b hb => by rw [← hP] at hi ⊢; exact nbs_lt hi hb) (N + 1) (ts0 cs W N) (l0 cs W N) [] (-1) N (by simpa using binv0 hl) (by simpa using burnt0) (fun i hi => ?_) (by omega) (by simp) (fun _ => by omega)
  · simpa using h
  · unfold l0 at hi
    simp only [List.mem_filter, List.mem_range] at hi
    unfold ts0
    rw [List.getD_eq_getElem?_getD, List.getElem?_map, List.getElem?_range hi.1]
    simp [hi.2]



set_option maxRecDepth 100000 in
set_option maxHeartbeats 400000 in
theorem implBurn_no (wd hi : Int) (A : Option Addr) (n c : Nat) (w : World) (h : validB wd hi n = false) :
    Calls Try.prog 9 #[fieldV wd hi A n c] w fun e w' => e = .returned (.tuple #[.slice none 0 0, .int .i64 0, .bool false]) ∧ Below w.heap.size w w' := by
  have HW : Hid (Below w.heap.size w (w.alloc (.cells #[.int .i64 wd, .int .i64 hi, .slice A n c] 26))) := (Below.refl _ _).alloc (Nat.le_refl _) _
  have HH := Lib.hid h
  clear h
  unfold fieldV
  go_enter Try.func9, Try.ntmps9
  go_wp2_with fail
  refine (ValidField_any wd hi A n c _).mono ?_
  rintro e w1 ⟨rfl, hb1⟩
  rw [HH.out]
  go_wp2
  go_ret3
  exact ⟨rfl, HW.out.trans (hb1.mono (by simp))⟩

set_option maxRecDepth 100000 in
set_option maxHeartbeats 400000 in
theorem implBurn_ok (W H N : Nat) (A : Option Addr) (c : Nat) (cs : List Bool) (w : World) (hW : 1 ≤ W) (hW' : W ≤ 16) (hH : 1 ≤ H) (hH' : H ≤ 16) (hl : cs.length = N) (hP : W * H = N) (h : validB W H N = true)
    (hA : Rd w w.heap.size 1 A N (cs.map bv)) :
    Calls Try.prog 9 #[fieldV W H A N c] w fun e w' => ∃ A' c', e = .returned (.tuple #[.slice A' N c', .int .i64 (lrun cs (nbs W H) (N + 1) (ts0 cs W N) (l0 cs W N) (-1)).2, .bool true]) ∧
      w'.ownsRow w.heap.size 2 1 (.slice A' N c') N ((lrun cs (nbs W H) (N + 1) (ts0 cs W N) (l0 cs W N) (-1)).1.map iv) ∧ Below w.heap.size w w' := by
  have HW : Hid (Below w.heap.size w (w.alloc (.cells #[.int .i64 W, .int .i64 H, .slice A N c] 26))) := (Below.refl _ _).alloc (Nat.le_refl _) _
  have hbk : Hid (Blk (w.alloc (.cells #[.int .i64 W, .int .i64 H, .slice A N c] 26)) w.heap.size 26 #[.int .i64 W, .int .i64 H, .slice A N c]) := Blk.new _ _ _
  have HH := Lib.hid h
  have HL := Lib.hid hl
  have HP := Lib.hid hP
  clear h hl hP
  unfold fieldV
  go_enter Try.func9, Try.ntmps9
  go_wp2_with fail
  refine (ValidField_any W H A N c _).mono ?_
  rintro e w1 ⟨rfl, hb1⟩
  rw [HH.out]
  have hsz := hb1.size
  simp only [World.size_alloc] at hsz
  have HB := Lib.hid (HW.out.trans (hb1.mono (by simp)))
  have hk := hbk.out.below hb1 (by simp)
  have d0 : w1.cell? ⟨w.heap.size, 0, none⟩ = some (.int .i64 W) := hk.cell 0
  have d1 : w1.cell? ⟨w.heap.size, 1, none⟩ = some (.int .i64 H) := hk.cell 1
  have d2 : w1.cell? ⟨w.heap.size, 2, none⟩ = some (.slice A N c) := hk.cell 2
  clear hb1 hk
  go_wp2_with fail
  refine (times_any W H N A c cs _ hW hW' hH hH' HL.out HP.out ((hA.below HB.out).more (by omega))).mono ?_
  rintro e w2 ⟨A', c', rfl, ho, hb2⟩
  have HO := Lib.hid ho
  clear ho
  go_wp2
  go_ret3
  exact ⟨A', c', rfl, own_base HO.out (by omega), HB.out.trans (hb2.mono (by omega))⟩

/-- What BurnTimes gives: times, the last one, and whether the field is valid: the same of the program and of the reference. -/
def BurnRes (T : List Int) (l : Int) (ok : Bool) (w : World) (e : Ending) (w' : World) : Prop :=
  ∃ A' c', e = .returned (.tuple #[.slice A' T.length c', .int .i64 l, .bool ok]) ∧ w'.ownsRow w.heap.size 2 1 (.slice A' T.length c') T.length (T.map iv) ∧ Below w.heap.size w w'

end Go.Proofs.Ytknonmfffcjonaa
