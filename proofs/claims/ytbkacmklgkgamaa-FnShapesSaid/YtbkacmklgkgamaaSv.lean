/- Walks: valid shapes, by the program and by the reference. Conditions: texts are shorter than 2^63. -/
import Derived.Test.YtbkacmklgkgamaaSo3
import Derived.Test.YtbkacmklgkgamaaFd
import Derived.Test.YtbkacmklgkgamaaVal
namespace Go.Proofs.Ytbkacmklgkgamaa
open Go.RowKit

def okSh (nm : ByteArray) (wd hi : Int) (n : Nat) : Bool := nameB nm && validB wd hi n
set_option maxRecDepth 100000 in
set_option maxHeartbeats 1000000 in
theorem ValidShape_any (nm : ByteArray) (wd hi : Int) (A : Option Addr) (n c : Nat) (w : World) (hs : nm.size ≤ maxLen) :
    Calls Try.prog 12 #[.agg #[.string nm, .int .i64 wd, .int .i64 hi, .slice A n c]] w fun e w' => e = .returned (.bool (okSh nm wd hi n)) ∧ Below w.heap.size w w' := by
  obtain ⟨v, ev⟩ : ∃ v, v = w.alloc (.cells #[.string nm, .int .i64 wd, .int .i64 hi, .slice A n c] 33) := ⟨_, rfl⟩
  have hk : Blk v w.heap.size 33 #[.string nm, .int .i64 wd, .int .i64 hi, .slice A n c] := by rw [ev]; exact Blk.new _ _ _
  have hb : Below w.heap.size w v := by rw [ev]; exact (Below.refl _ _).alloc (Nat.le_refl _) _
  have c0 : v.cell? ⟨w.heap.size, 0, none⟩ = some (.string nm) := hk.cell 0
  have c1 : v.cell? ⟨w.heap.size, 1, none⟩ = some (.int .i64 wd) := hk.cell 1
  have c2 : v.cell? ⟨w.heap.size, 2, none⟩ = some (.int .i64 hi) := hk.cell 2
  have c3 : v.cell? ⟨w.heap.size, 3, none⟩ = some (.slice A n c) := hk.cell 3
  have hq := fun w => IsName_any nm w hs
  have HQ := Lib.hid hq
  have IS := Lib.hid (fun w => ValidField_any wd hi A n c w)
  have HB := Lib.hid hb
  have HK := Lib.hid hk
  have EV := Lib.hid ev
  unfold okSh
  clear hq hb hk ev
  cases hx : nameB nm
  all_goals
    rw [hx] at HQ
    clear hx
    go_enter Try.func12, Try.ntmps12
    go_wp2_with fail
    rw [← EV.out]
    refine (HQ.out _).mono ?_
    rintro e w1 ⟨rfl, h1⟩
    obtain rfl := h1.symm
    try (go_wp2_with fail
         refine (IS.out _).mono ?_
         rintro e w2 ⟨rfl, hb2⟩
         have H2 := Lib.hid (HB.out.trans (hb2.mono HB.out.size))
         clear hb2)
    go_wp2
    go_ret
    exact ⟨ret_bool (by simp), by first | exact H2.out | exact HB.out⟩
set_option maxRecDepth 100000 in
set_option maxHeartbeats 1000000 in
theorem StoreShape_any (nm : ByteArray) (wd hi : Int) (A : Option Addr) (n c : Nat) (cs : List Bool) (w : World) (hs : nm.size ≤ maxLen) (hl : cs.length = n) (hA : Rd w w.heap.size 1 A n (cs.map bv)) :
    Calls Try.prog 8 #[.agg #[.string nm, .int .i64 wd, .int .i64 hi, .slice A n c]] w fun e w' => e = .returned (.tuple (if okSh nm wd hi n = true then #[.string (txt (wholeL nm wd.toNat hi.toNat cs)), .bool true] else #[.string ⟨#[]⟩, .bool false])) ∧ Below w.heap.size w w' := by
  obtain ⟨v, ev⟩ : ∃ v, v = w.alloc (.cells #[.string nm, .int .i64 wd, .int .i64 hi, .slice A n c] 33) := ⟨_, rfl⟩
  have hk : Blk v w.heap.size 33 #[.string nm, .int .i64 wd, .int .i64 hi, .slice A n c] := by rw [ev]; exact Blk.new _ _ _
  have hb : Below w.heap.size w v := by rw [ev]; exact (Below.refl _ _).alloc (Nat.le_refl _) _
  have IS := Lib.hid (fun w => ValidShape_any nm wd hi A n c w hs)
  have HB := Lib.hid hb
  have HK := Lib.hid hk
  have EV := Lib.hid ev
  have HA := Lib.hid ((hA.below hb).more hb.size)
  have HL := Lib.hid hl
  clear hb hk ev hA hl
  cases hx : okSh nm wd hi n
  · rw [hx] at IS
    clear hx
    go_enter Try.func8, Try.ntmps8
    go_wp2_with (first | (rw [← EV.out]; refine wpList_load_blk rfl _ _ rfl w.heap.size 0 rfl 33 _ HK.out [.string nm, .int .i64 wd, .int .i64 hi, .slice A n c] rfl _ Try.underlying33 rfl (by kernel_rfl) ?_) | fail)
    refine (IS.out _).mono ?_
    rintro e w2 ⟨rfl, hb2⟩
    have H2 := Lib.hid (HB.out.trans (hb2.mono HB.out.size))
    clear hb2
    go_wp2
    go_ret2
    exact ⟨rfl, H2.out⟩
  · have hxx := hx
    unfold okSh at hxx
    rw [Bool.and_eq_true] at hxx
    obtain ⟨x1, x2⟩ := hxx
    obtain ⟨W, H, rfl, rfl, hW, hW', hH, hH', hWH⟩ := valid_nat x2
    have hnm : nm.size ≤ 8 := by
      unfold nameB at x1
      simp at x1
      omega
    have hN : n ≤ 256 := by
      have := Nat.mul_le_mul hW' hH'
      omega
    rw [hx] at IS
    clear hx x1 x2
    go_enter Try.func8, Try.ntmps8
    go_wp2_with (first | (rw [← EV.out]; refine wpList_load_blk rfl _ _ rfl w.heap.size 0 rfl 33 _ HK.out [.string nm, .int .i64 W, .int .i64 H, .slice A n c] rfl _ Try.underlying33 rfl (by kernel_rfl) ?_) | fail)
    refine (IS.out _).mono ?_
    rintro e w2 ⟨rfl, hb2⟩
    have H2 := Lib.hid (HB.out.trans (hb2.mono HB.out.size))
    have HK2 := Lib.hid (HK.out.below hb2 HK.out.lt)
    have HA2 := Lib.hid ((HA.out.below hb2).more hb2.size)
    clear hb2
    go_wp2_with (first | (refine wpList_load_blk rfl _ _ rfl w.heap.size 0 rfl 33 _ HK2.out [.string nm, .int .i64 W, .int .i64 H, .slice A n c] rfl _ Try.underlying33 rfl (by kernel_rfl) ?_) | fail)
    refine (store_any nm W H n A c cs w2 hnm hW' hH' hN HL.out HA2.out).mono ?_
    rintro e w3 ⟨rfl, hb3⟩
    have H3 := Lib.hid (H2.out.trans (hb3.mono H2.out.size))
    clear hb3
    go_wp2
    go_ret2
    exact ⟨by simp, H3.out⟩
end Go.Proofs.Ytbkacmklgkgamaa
