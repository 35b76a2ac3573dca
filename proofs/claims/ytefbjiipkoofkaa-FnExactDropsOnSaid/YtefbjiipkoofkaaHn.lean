/- Walk: DropOn, where its arguments are not valid, by the reference; whether they are, by the program. Conditions: none. -/
import Derived.Test.YtefbjiipkoofkaaHo
namespace Go.Proofs.Ytefbjiipkoofkaa
open Go.RowKit

def okDrop (W H : Int) (xs : List Nat) (x y st : Int) (tk lv : Nat) : Bool := okSheet W H xs && inB x 0 (W - 1) && inB y 0 (H - 1) && inB st 0 128 && (okTake tk && okShare lv)
theorem okSheet_sides {W H : Int} {xs : List Nat} (h : okSheet W H xs = true) : 1 ≤ W ∧ W ≤ 17 ∧ 1 ≤ H ∧ H ≤ 17 ∧ (xs.length : Int) = W * H ∧ xs.all finW = true := by
  unfold okSheet at h
  simp only [Bool.and_eq_true, decide_eq_true_eq] at h
  obtain ⟨⟨⟨h1, h2⟩, h3⟩, h4⟩ := h
  rw [inB_iff] at h1 h2
  exact ⟨h1.1, h1.2, h2.1, h2.2, h3, h4⟩
set_option maxRecDepth 100000 in
set_option maxHeartbeats 4000000 in
theorem specDropOn_no (W H x y st : Int) (tk lv : Nat) (A : Option Addr) (n c : Nat) (xs : List Nat) (w : World) (hn : n ≤ maxLen) (hA : Rd w w.heap.size 1 A n (xs.map fv)) (hno : okDrop W H xs x y st tk lv = false) :
    Calls Try.prog 6 #[sheetV W H A n c, .int .i64 x, .int .i64 y, .int .i64 st, .float .f32 tk, .float .f32 lv] w (SrRes 0 0 [] 0 false w) := by
  obtain ⟨v, ev⟩ : ∃ v, v = (w.alloc (.cells #[.int .i64 W, .int .i64 H, .slice A n c] 27)).alloc (.cells #[.int .i64 0, .int .i64 0, .slice none 0 0] 27) := ⟨_, rfl⟩
  have K0 : Blk v w.heap.size 27 #[.int .i64 W, .int .i64 H, .slice A n c] := by rw [ev]; exact (Blk.new w _ _).alloc _
  have R0 : Hid (Blk v (w.heap.size + 1) 27 #[.int .i64 0, .int .i64 0, .slice none 0 0]) := by rw [ev]; exact Blk.new2 _ _ _ _
  have V0 : Hid (Below w.heap.size w v) := by rw [ev]; exact ((Below.refl _ _).alloc (Nat.le_refl _) _).alloc (by simp) _
  have A0 : Rd v v.heap.size 1 A n (xs.map fv) := (hA.below V0.out).more V0.out.size
  have IS0 := Lib.hid (l05Is_any W H A n c w.heap.size v.heap.size xs v hn K0 A0)
  have L1 := Lib.hid (fun w => l00In_any x 0 (W - 1) w)
  have L2 := Lib.hid (fun w => l00In_any y 0 (H - 1) w)
  have L3 := Lib.hid (fun w => l00In_any st 0 128 w)
  have L4 := Lib.hid (fun w => l05Rule_any tk lv w)
  have KV := Lib.hid K0
  have EV := Lib.hid ev
  have HS := Lib.hid (@okSheet_sides W H xs)
  unfold okDrop at hno
  unfold sheetV
  clear ev K0 A0 hA hn
  generalize okSheet W H xs = q0 at *
  generalize inB x 0 (W - 1) = q1 at *
  generalize inB y 0 (H - 1) = q2 at *
  generalize inB st 0 128 = q3 at *
  generalize (okTake tk && okShare lv) = q4 at *
  cases q0
  · clear hno
    go_enter Try.func6, Try.ntmps6
    go_wp2_with fail
    rw [← EV.out]
    refine IS0.out.mono ?_
    rintro e w1 ⟨rfl, m1, hw1⟩
    have R1 : Hid (Blk w1 (w.heap.size + 1) 27 #[.int .i64 0, .int .i64 0, .slice none 0 0]) := by rw [hw1]; exact R0.out.drewN _
    have V1 : Hid (Below w.heap.size w w1) := by rw [hw1]; exact below_drewN' V0.out _
    have d0 : w1.cell? ⟨w.heap.size, 0, none⟩ = some (.int .i64 W) := by rw [hw1]; exact KV.out.cell 0
    have d1 : w1.cell? ⟨w.heap.size, 1, none⟩ = some (.int .i64 H) := by rw [hw1]; exact KV.out.cell 1
    clear hw1
    go_wp2_with (first
      | (refine wpList_store_blk rfl _ _ _ rfl (w.heap.size + 1) 0 rfl _ rfl [.int .i64 0, .int .i64 0, .slice none 0 0] rfl 27 _ #[.int .i64 0, .int .i64 0, .slice none 0 0] R1.out (by kernel_rfl) (by simp) (by simp [Value.oneCell']) rfl ?_; intro w9 k9 g9)
      | fail)
    refine bodyPost_ret (results_row3 rfl _ w9 (w.heap.size + 1) 27 _ _ rfl k9 Try.underlying27 rfl (by kernel_rfl) _ _ rfl rfl) rfl ?_
    exact srRes_no (V1.out.grown g9 V1.out.size (fun j e => by injection e with e; omega))
  obtain ⟨s1, s2, s3, s4, _, _⟩ := HS.out rfl
  cases q1
  · clear hno
    go_enter Try.func6, Try.ntmps6
    go_wp2_with fail
    rw [← EV.out]
    refine IS0.out.mono ?_
    rintro e w1 ⟨rfl, m1, hw1⟩
    have R1 : Hid (Blk w1 (w.heap.size + 1) 27 #[.int .i64 0, .int .i64 0, .slice none 0 0]) := by rw [hw1]; exact R0.out.drewN _
    have V1 : Hid (Below w.heap.size w w1) := by rw [hw1]; exact below_drewN' V0.out _
    have d0 : w1.cell? ⟨w.heap.size, 0, none⟩ = some (.int .i64 W) := by rw [hw1]; exact KV.out.cell 0
    have d1 : w1.cell? ⟨w.heap.size, 1, none⟩ = some (.int .i64 H) := by rw [hw1]; exact KV.out.cell 1
    clear hw1
    go_wp2_with fail
    refine (L1.out _).mono ?_
    rintro e w1 ⟨rfl, hw1⟩
    obtain rfl := hw1
    go_wp2_with (first
      | (refine wpList_store_blk rfl _ _ _ rfl (w.heap.size + 1) 0 rfl _ rfl [.int .i64 0, .int .i64 0, .slice none 0 0] rfl 27 _ #[.int .i64 0, .int .i64 0, .slice none 0 0] R1.out (by kernel_rfl) (by simp) (by simp [Value.oneCell']) rfl ?_; intro w9 k9 g9)
      | fail)
    refine bodyPost_ret (results_row3 rfl _ w9 (w.heap.size + 1) 27 _ _ rfl k9 Try.underlying27 rfl (by kernel_rfl) _ _ rfl rfl) rfl ?_
    exact srRes_no (V1.out.grown g9 V1.out.size (fun j e => by injection e with e; omega))
  cases q2
  · clear hno
    go_enter Try.func6, Try.ntmps6
    go_wp2_with fail
    rw [← EV.out]
    refine IS0.out.mono ?_
    rintro e w1 ⟨rfl, m1, hw1⟩
    have R1 : Hid (Blk w1 (w.heap.size + 1) 27 #[.int .i64 0, .int .i64 0, .slice none 0 0]) := by rw [hw1]; exact R0.out.drewN _
    have V1 : Hid (Below w.heap.size w w1) := by rw [hw1]; exact below_drewN' V0.out _
    have d0 : w1.cell? ⟨w.heap.size, 0, none⟩ = some (.int .i64 W) := by rw [hw1]; exact KV.out.cell 0
    have d1 : w1.cell? ⟨w.heap.size, 1, none⟩ = some (.int .i64 H) := by rw [hw1]; exact KV.out.cell 1
    clear hw1
    go_wp2_with fail
    refine (L1.out _).mono ?_
    rintro e w1 ⟨rfl, hw1⟩
    obtain rfl := hw1
    go_wp2_with fail
    refine (L2.out _).mono ?_
    rintro e w1 ⟨rfl, hw1⟩
    obtain rfl := hw1
    go_wp2_with (first
      | (refine wpList_store_blk rfl _ _ _ rfl (w.heap.size + 1) 0 rfl _ rfl [.int .i64 0, .int .i64 0, .slice none 0 0] rfl 27 _ #[.int .i64 0, .int .i64 0, .slice none 0 0] R1.out (by kernel_rfl) (by simp) (by simp [Value.oneCell']) rfl ?_; intro w9 k9 g9)
      | fail)
    refine bodyPost_ret (results_row3 rfl _ w9 (w.heap.size + 1) 27 _ _ rfl k9 Try.underlying27 rfl (by kernel_rfl) _ _ rfl rfl) rfl ?_
    exact srRes_no (V1.out.grown g9 V1.out.size (fun j e => by injection e with e; omega))
  cases q3
  · clear hno
    go_enter Try.func6, Try.ntmps6
    go_wp2_with fail
    rw [← EV.out]
    refine IS0.out.mono ?_
    rintro e w1 ⟨rfl, m1, hw1⟩
    have R1 : Hid (Blk w1 (w.heap.size + 1) 27 #[.int .i64 0, .int .i64 0, .slice none 0 0]) := by rw [hw1]; exact R0.out.drewN _
    have V1 : Hid (Below w.heap.size w w1) := by rw [hw1]; exact below_drewN' V0.out _
    have d0 : w1.cell? ⟨w.heap.size, 0, none⟩ = some (.int .i64 W) := by rw [hw1]; exact KV.out.cell 0
    have d1 : w1.cell? ⟨w.heap.size, 1, none⟩ = some (.int .i64 H) := by rw [hw1]; exact KV.out.cell 1
    clear hw1
    go_wp2_with fail
    refine (L1.out _).mono ?_
    rintro e w1 ⟨rfl, hw1⟩
    obtain rfl := hw1
    go_wp2_with fail
    refine (L2.out _).mono ?_
    rintro e w1 ⟨rfl, hw1⟩
    obtain rfl := hw1
    go_wp2_with fail
    refine (L3.out _).mono ?_
    rintro e w1 ⟨rfl, hw1⟩
    obtain rfl := hw1
    go_wp2_with (first
      | (refine wpList_store_blk rfl _ _ _ rfl (w.heap.size + 1) 0 rfl _ rfl [.int .i64 0, .int .i64 0, .slice none 0 0] rfl 27 _ #[.int .i64 0, .int .i64 0, .slice none 0 0] R1.out (by kernel_rfl) (by simp) (by simp [Value.oneCell']) rfl ?_; intro w9 k9 g9)
      | fail)
    refine bodyPost_ret (results_row3 rfl _ w9 (w.heap.size + 1) 27 _ _ rfl k9 Try.underlying27 rfl (by kernel_rfl) _ _ rfl rfl) rfl ?_
    exact srRes_no (V1.out.grown g9 V1.out.size (fun j e => by injection e with e; omega))
  cases q4
  · clear hno
    go_enter Try.func6, Try.ntmps6
    go_wp2_with fail
    rw [← EV.out]
    refine IS0.out.mono ?_
    rintro e w1 ⟨rfl, m1, hw1⟩
    have R1 : Hid (Blk w1 (w.heap.size + 1) 27 #[.int .i64 0, .int .i64 0, .slice none 0 0]) := by rw [hw1]; exact R0.out.drewN _
    have V1 : Hid (Below w.heap.size w w1) := by rw [hw1]; exact below_drewN' V0.out _
    have d0 : w1.cell? ⟨w.heap.size, 0, none⟩ = some (.int .i64 W) := by rw [hw1]; exact KV.out.cell 0
    have d1 : w1.cell? ⟨w.heap.size, 1, none⟩ = some (.int .i64 H) := by rw [hw1]; exact KV.out.cell 1
    clear hw1
    go_wp2_with fail
    refine (L1.out _).mono ?_
    rintro e w1 ⟨rfl, hw1⟩
    obtain rfl := hw1
    go_wp2_with fail
    refine (L2.out _).mono ?_
    rintro e w1 ⟨rfl, hw1⟩
    obtain rfl := hw1
    go_wp2_with fail
    refine (L3.out _).mono ?_
    rintro e w1 ⟨rfl, hw1⟩
    obtain rfl := hw1
    go_wp2_with fail
    refine (L4.out _).mono ?_
    rintro e w1 ⟨rfl, hw1⟩
    obtain rfl := hw1
    go_wp2_with (first
      | (refine wpList_store_blk rfl _ _ _ rfl (w.heap.size + 1) 0 rfl _ rfl [.int .i64 0, .int .i64 0, .slice none 0 0] rfl 27 _ #[.int .i64 0, .int .i64 0, .slice none 0 0] R1.out (by kernel_rfl) (by simp) (by simp [Value.oneCell']) rfl ?_; intro w9 k9 g9)
      | fail)
    refine bodyPost_ret (results_row3 rfl _ w9 (w.heap.size + 1) 27 _ _ rfl k9 Try.underlying27 rfl (by kernel_rfl) _ _ rfl rfl) rfl ?_
    exact srRes_no (V1.out.grown g9 V1.out.size (fun j e => by injection e with e; omega))
  · cases hno
set_option maxRecDepth 100000 in
set_option maxHeartbeats 4000000 in
theorem areDrops_any (W H st : Int) (tk lv : Nat) (A : Option Addr) (n c : Nat) (xs : List Nat) (w : World) (hn : n ≤ maxLen) (hA : Rd w w.heap.size 1 A n (xs.map fv)) :
    Calls Try.prog 21 #[.agg #[.int .i64 W, .int .i64 H, .slice A n c], .int .i64 st, .float .f32 tk, .float .f32 lv] w fun e w' => e = .returned (.bool (okSheet W H xs && inB st 0 128 && (okTake tk && okShare lv))) ∧ Below w.heap.size w w' := by
  obtain ⟨v, ev⟩ : ∃ v, v = w.alloc (.cells #[.int .i64 W, .int .i64 H, .slice A n c] 27) := ⟨_, rfl⟩
  have V0 : Hid (Below w.heap.size w v) := by rw [ev]; exact (Below.refl _ _).alloc (Nat.le_refl _) _
  have VS := Lib.hid (ValidSheet_any W H A n c xs v hn ((hA.below V0.out).more V0.out.size))
  have L1 := Lib.hid (fun w => within_any st 0 128 w)
  have L2 := Lib.hid (fun w => isShare_any lv w)
  have EV := Lib.hid ev
  have HT : Hid (okTake tk = (geF tk 0 && leF tk 1056964608)) := rfl
  unfold geF leF at HT
  clear ev hA hn
  generalize okSheet W H xs = q0 at *
  generalize inB st 0 128 = q1 at *
  generalize okShare lv = q2 at *
  cases q0
  · go_enter Try.func21, Try.ntmps21
    go_wp2_with fail
    rw [← EV.out]
    refine VS.out.mono ?_
    rintro e w1 ⟨rfl, hb⟩
    have V1 := Lib.hid (V0.out.trans (hb.mono V0.out.size))
    clear hb
    go_wp2
    go_ret
    exact ⟨ret_bool (by simp), V1.out⟩
  cases q1
  · go_enter Try.func21, Try.ntmps21
    go_wp2_with fail
    rw [← EV.out]
    refine VS.out.mono ?_
    rintro e w1 ⟨rfl, hb⟩
    have V1 := Lib.hid (V0.out.trans (hb.mono V0.out.size))
    clear hb
    go_wp2_with fail
    refine (L1.out _).mono ?_
    rintro e w2 ⟨rfl, hw2⟩
    obtain rfl := hw2
    go_wp2
    go_ret
    exact ⟨ret_bool (by simp), V1.out⟩
  cases h1 : (FloatKind.f32.format.order tk 0 == some Ordering.gt || FloatKind.f32.format.order tk 0 == some Ordering.eq) <;> cases h2 : (FloatKind.f32.format.order tk 1056964608 == some Ordering.lt || FloatKind.f32.format.order tk 1056964608 == some Ordering.eq)
  · rw [h1, h2] at HT
    go_enter Try.func21, Try.ntmps21
    go_wp2_with fail
    rw [← EV.out]
    refine VS.out.mono ?_
    rintro e w1 ⟨rfl, hb⟩
    have V1 := Lib.hid (V0.out.trans (hb.mono V0.out.size))
    clear hb
    go_wp2_with fail
    refine (L1.out _).mono ?_
    rintro e w2 ⟨rfl, hw2⟩
    obtain rfl := hw2
    go_wp2
    go_ret
    exact ⟨ret_bool (by rw [HT.out]; simp), V1.out⟩
  · rw [h1, h2] at HT
    go_enter Try.func21, Try.ntmps21
    go_wp2_with fail
    rw [← EV.out]
    refine VS.out.mono ?_
    rintro e w1 ⟨rfl, hb⟩
    have V1 := Lib.hid (V0.out.trans (hb.mono V0.out.size))
    clear hb
    go_wp2_with fail
    refine (L1.out _).mono ?_
    rintro e w2 ⟨rfl, hw2⟩
    obtain rfl := hw2
    go_wp2
    go_ret
    exact ⟨ret_bool (by rw [HT.out]; simp), V1.out⟩
  · rw [h1, h2] at HT
    go_enter Try.func21, Try.ntmps21
    go_wp2_with fail
    rw [← EV.out]
    refine VS.out.mono ?_
    rintro e w1 ⟨rfl, hb⟩
    have V1 := Lib.hid (V0.out.trans (hb.mono V0.out.size))
    clear hb
    go_wp2_with fail
    refine (L1.out _).mono ?_
    rintro e w2 ⟨rfl, hw2⟩
    obtain rfl := hw2
    go_wp2
    go_ret
    exact ⟨ret_bool (by rw [HT.out]; simp), V1.out⟩
  · rw [h1, h2] at HT
    go_enter Try.func21, Try.ntmps21
    go_wp2_with fail
    rw [← EV.out]
    refine VS.out.mono ?_
    rintro e w1 ⟨rfl, hb⟩
    have V1 := Lib.hid (V0.out.trans (hb.mono V0.out.size))
    clear hb
    go_wp2_with fail
    refine (L1.out _).mono ?_
    rintro e w2 ⟨rfl, hw2⟩
    obtain rfl := hw2
    go_wp2_with fail
    refine (L2.out _).mono ?_
    rintro e w2 ⟨rfl, hw2⟩
    obtain rfl := hw2
    go_wp2
    go_ret
    exact ⟨ret_bool (by rw [HT.out]; simp), V1.out⟩
end Go.Proofs.Ytefbjiipkoofkaa
