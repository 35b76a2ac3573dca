/- Walks: valid shapes, by the program and by the reference. Conditions: texts are shorter than 2^63. -/
import Derived.Test.YtlklpfjcnbkhlaaSo3
import Derived.Test.YtlklpfjcnbkhlaaFd
import Derived.Test.YtlklpfjcnbkhlaaVal
namespace Go.Proofs.Ytlklpfjcnbkhlaa
open Go.RowKit

def okSh (nm : ByteArray) (wd hi : Int) (n : Nat) : Bool := nameB nm && validB wd hi n
set_option maxRecDepth 100000 in
set_option maxHeartbeats 400000 in
theorem l07Is_at (wd hi : Int) (A : Option Addr) (n c g o : Nat) (w : World) (c0 : w.cell? ⟨g, o, none⟩ = some (.int .i64 wd)) (c1 : w.cell? ⟨g, o + 1, none⟩ = some (.int .i64 hi)) (c2 : w.cell? ⟨g, o + 2, none⟩ = some (.slice A n c)) :
    Calls Try.prog 36 #[.pointer (some ⟨g, o, none⟩)] w fun e w' => e = .returned (.bool (validB wd hi n)) ∧ ∃ m, w' = w.drewN m := by
  have h1 := fun w => l07Sides_any wd hi w
  have H1 := Lib.hid h1
  clear h1
  by_cases x : inB wd 1 16 = true ∧ inB hi 1 16 = true
  · obtain ⟨x, y⟩ := x
    have x' : 1 ≤ wd ∧ wd ≤ 16 := by simpa [inB] using x
    have y' : 1 ≤ hi ∧ hi ≤ 16 := by simpa [inB] using y
    obtain ⟨p, hp, hp1, hp2⟩ : ∃ p : Int, wd * hi = p ∧ 0 ≤ p ∧ p ≤ 256 := ⟨_, rfl, Int.mul_nonneg (by omega) (by omega), by
      have := Int.mul_le_mul x'.2 y'.2 (by omega) (by omega); omega⟩
    have hv : validB wd hi n = ((n : Int) == p) := by
      by_cases z : (n : Int) = wd * hi
      · rw [valid_of x y z]; symm; simpa [← hp] using z
      · rw [valid_not (fun h => z h.2.2)]; symm; simpa [← hp] using z
    rw [hv]
    rw [x, y, Bool.and_self] at H1
    clear x y hv
    go_enter Try.func36, Try.ntmps36
    go_wp2
    go_quiet ((go_at_call 46; exact Calls.quiet_of_same (H1.out _)))
    go_wp2
    go_ret
    exact ⟨rfl, _, rfl⟩
  · rw [valid_not (fun h => x ⟨h.1, h.2.1⟩)]
    rw [← Bool.and_eq_true, Bool.not_eq_true] at x
    rw [x] at H1
    clear x
    go_enter Try.func36, Try.ntmps36
    go_wp2
    go_quiet ((go_at_call 46; exact Calls.quiet_of_same (H1.out _)))
    go_wp2
    go_ret
    exact ⟨rfl, _, rfl⟩
set_option maxRecDepth 100000 in
set_option maxHeartbeats 1000000 in
theorem l07Shape_any (nm : ByteArray) (wd hi : Int) (A : Option Addr) (n c g o : Nat) (w : World) (hs : nm.size ≤ maxLen) (c0 : w.cell? ⟨g, o, none⟩ = some (.string nm)) (c1 : w.cell? ⟨g, o + 1, none⟩ = some (.int .i64 wd)) (c2 : w.cell? ⟨g, o + 2, none⟩ = some (.int .i64 hi)) (c3 : w.cell? ⟨g, o + 3, none⟩ = some (.slice A n c)) :
    Calls Try.prog 21 #[.pointer (some ⟨g, o, none⟩)] w fun e w' => e = .returned (.bool (okSh nm wd hi n)) ∧ ∃ m, w' = w.drewN m := by
  have hq := l07Name_any nm w hs
  have HQ := Lib.hid hq
  have IS := Lib.hid (l07Is_at wd hi A n c g (o + 1) w c1 c2 c3)
  unfold okSh
  clear hq
  cases hx : nameB nm
  · rw [hx] at HQ
    clear hx
    go_enter Try.func21, Try.ntmps21
    go_wp2_with fail
    refine HQ.out.mono ?_
    rintro e w1 ⟨rfl, h1⟩
    obtain rfl := h1.symm
    go_wp2
    go_ret
    exact ⟨rfl, 0, rfl⟩
  · rw [hx] at HQ
    clear hx
    go_enter Try.func21, Try.ntmps21
    go_wp2_with fail
    refine HQ.out.mono ?_
    rintro e w1 ⟨rfl, h1⟩
    obtain rfl := h1.symm
    go_wp2_with fail
    refine IS.out.mono ?_
    rintro e w2 ⟨rfl, m, rfl⟩
    go_wp2
    go_ret
    exact ⟨ret_bool (by simp), m, rfl⟩
set_option maxRecDepth 100000 in
set_option maxHeartbeats 1000000 in
theorem ValidShape_any (nm : ByteArray) (wd hi : Int) (A : Option Addr) (n c : Nat) (w : World) (hs : nm.size ≤ maxLen) :
    Calls Try.prog 40 #[.agg #[.string nm, .int .i64 wd, .int .i64 hi, .slice A n c]] w fun e w' => e = .returned (.bool (okSh nm wd hi n)) ∧ Below w.heap.size w w' := by
  obtain ⟨v, ev⟩ : ∃ v, v = w.alloc (.cells #[.string nm, .int .i64 wd, .int .i64 hi, .slice A n c] 34) := ⟨_, rfl⟩
  have hk : Blk v w.heap.size 34 #[.string nm, .int .i64 wd, .int .i64 hi, .slice A n c] := by rw [ev]; exact Blk.new _ _ _
  have hb : Below w.heap.size w v := by rw [ev]; exact (Below.refl _ _).alloc (Nat.le_refl _) _
  have c0 : v.cell? ⟨w.heap.size, 0, none⟩ = some (.string nm) := hk.cell 0
  have c1 : v.cell? ⟨w.heap.size, 1, none⟩ = some (.int .i64 wd) := hk.cell 1
  have c2 : v.cell? ⟨w.heap.size, 2, none⟩ = some (.int .i64 hi) := hk.cell 2
  have c3 : v.cell? ⟨w.heap.size, 3, none⟩ = some (.slice A n c) := hk.cell 3
  have hq := fun w => IsName_any nm w hs
  have HQ := Lib.hid hq
  have IS := Lib.hid (fun w => ValidField_any wd hi A n c w)
  have HB := Lib.hid hb
  have HK := Lib.hid hk
  have EV := Lib.hid ev
  unfold okSh
  clear hq hb hk ev
  cases hx : nameB nm
  all_goals
    rw [hx] at HQ
    clear hx
    go_enter Try.func40, Try.ntmps40
    go_wp2_with fail
    rw [← EV.out]
    refine (HQ.out _).mono ?_
    rintro e w1 ⟨rfl, h1⟩
    obtain rfl := h1.symm
    try (go_wp2_with fail
         refine (IS.out _).mono ?_
         rintro e w2 ⟨rfl, hb2⟩
         have H2 := Lib.hid (HB.out.trans (hb2.mono HB.out.size))
         clear hb2)
    go_wp2
    go_ret
    exact ⟨ret_bool (by simp), by first | exact H2.out | exact HB.out⟩
set_option maxRecDepth 100000 in
set_option maxHeartbeats 1000000 in
theorem StoreShape_any (nm : ByteArray) (wd hi : Int) (A : Option Addr) (n c : Nat) (cs : List Bool) (w : World) (hs : nm.size ≤ maxLen) (hl : cs.length = n) (hA : Rd w w.heap.size 1 A n (cs.map bv)) :
    Calls Try.prog 24 #[.agg #[.string nm, .int .i64 wd, .int .i64 hi, .slice A n c]] w fun e w' => e = .returned (.tuple (if okSh nm wd hi n = true then #[.string (txt (wholeL nm wd.toNat hi.toNat cs)), .bool true] else #[.string ⟨#[]⟩, .bool false])) ∧ Below w.heap.size w w' := by
  obtain ⟨v, ev⟩ : ∃ v, v = w.alloc (.cells #[.string nm, .int .i64 wd, .int .i64 hi, .slice A n c] 34) := ⟨_, rfl⟩
  have hk : Blk v w.heap.size 34 #[.string nm, .int .i64 wd, .int .i64 hi, .slice A n c] := by rw [ev]; exact Blk.new _ _ _
  have hb : Below w.heap.size w v := by rw [ev]; exact (Below.refl _ _).alloc (Nat.le_refl _) _
  have IS := Lib.hid (fun w => ValidShape_any nm wd hi A n c w hs)
  have HB := Lib.hid hb
  have HK := Lib.hid hk
  have EV := Lib.hid ev
  have HA := Lib.hid ((hA.below hb).more hb.size)
  have HL := Lib.hid hl
  clear hb hk ev hA hl
  cases hx : okSh nm wd hi n
  · rw [hx] at IS
    clear hx
    go_enter Try.func24, Try.ntmps24
    go_wp2_with (first | (rw [← EV.out]; refine wpList_load_blk rfl _ _ rfl w.heap.size 0 rfl 34 _ HK.out [.string nm, .int .i64 wd, .int .i64 hi, .slice A n c] rfl _ Try.underlying34 rfl (by kernel_rfl) ?_) | fail)
    refine (IS.out _).mono ?_
    rintro e w2 ⟨rfl, hb2⟩
    have H2 := Lib.hid (HB.out.trans (hb2.mono HB.out.size))
    clear hb2
    go_wp2
    go_ret2
    exact ⟨rfl, H2.out⟩
  · have hxx := hx
    unfold okSh at hxx
    rw [Bool.and_eq_true] at hxx
    obtain ⟨x1, x2⟩ := hxx
    obtain ⟨W, H, rfl, rfl, hW, hW', hH, hH', hWH⟩ := valid_nat x2
    have hnm : nm.size ≤ 8 := by
      unfold nameB at x1
      simp at x1
      omega
    have hN : n ≤ 256 := by
      have := Nat.mul_le_mul hW' hH'
      omega
    rw [hx] at IS
    clear hx x1 x2
    go_enter Try.func24, Try.ntmps24
    go_wp2_with (first | (rw [← EV.out]; refine wpList_load_blk rfl _ _ rfl w.heap.size 0 rfl 34 _ HK.out [.string nm, .int .i64 W, .int .i64 H, .slice A n c] rfl _ Try.underlying34 rfl (by kernel_rfl) ?_) | fail)
    refine (IS.out _).mono ?_
    rintro e w2 ⟨rfl, hb2⟩
    have H2 := Lib.hid (HB.out.trans (hb2.mono HB.out.size))
    have HK2 := Lib.hid (HK.out.below hb2 HK.out.lt)
    have HA2 := Lib.hid ((HA.out.below hb2).more hb2.size)
    clear hb2
    go_wp2_with (first | (refine wpList_load_blk rfl _ _ rfl w.heap.size 0 rfl 34 _ HK2.out [.string nm, .int .i64 W, .int .i64 H, .slice A n c] rfl _ Try.underlying34 rfl (by kernel_rfl) ?_) | fail)
    refine (store_any nm W H n A c cs w2 hnm hW' hH' hN HL.out HA2.out).mono ?_
    rintro e w3 ⟨rfl, hb3⟩
    have H3 := Lib.hid (H2.out.trans (hb3.mono H2.out.size))
    clear hb3
    go_wp2
    go_ret2
    exact ⟨by simp, H3.out⟩
end Go.Proofs.Ytlklpfjcnbkhlaa
