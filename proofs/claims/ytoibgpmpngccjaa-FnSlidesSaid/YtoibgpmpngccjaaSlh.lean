/- Walk: weighed sums of sheets. Conditions: finite heights. -/
import Derived.Test.YtoibgpmpngccjaaSlg
namespace Go.Proofs.Ytoibgpmpngccjaa
open Go.RowKit
open Num Quick
attribute [local go_sem] run_store_fl

set_option maxRecDepth 100000 in
set_option maxHeartbeats 2000000 in
theorem WeighSheets_ok (W H N a a' : Nat) (A A' : Option Addr) (c c' : Nat) (xs xs' ys : List Nat) (w : World) (h1 : 1 ≤ W) (h2 : W ≤ 17) (h3 : 1 ≤ H) (h4 : H ≤ 17) (hN : W * H = N) (hl : xs.length = N) (hf : xs.all finW = true) (hl' : xs'.length = N) (hf' : xs'.all finW = true) (hly : ys.length = N) (hfy : ys.all finW = true)
    (hA : Rd w w.heap.size 1 A N (xs.map fv)) (hA' : Rd w w.heap.size 1 A' N (xs'.map fv)) (ha : Fl .f32 a) (ha' : Fl .f32 a')
    (hys : ∀ k, k < N → ∃ u v, floatBits .mul .f32 a (xs.getD k 0) = some u ∧ floatBits .mul .f32 a' (xs'.getD k 0) = some v ∧ floatBits .add .f32 u v = some (ys.getD k 0)) :
    Calls Try.prog 18 #[sheetV (W : Int) (H : Int) A N c, sheetV (W : Int) (H : Int) A' N c', .float .f32 a, .float .f32 a'] w (SheetTrue W H ys w) := by
  have hN289 : N ≤ 289 := by have := Nat.mul_le_mul h2 h4; omega
  have hN1 : 1 ≤ N := by have := Nat.mul_le_mul h1 h3; omega
  obtain ⟨v1, ev1⟩ : ∃ v1, v1 = (w.alloc (.cells #[.int .i64 (W : Int), .int .i64 (H : Int), .slice A N c] 26)).alloc (.cells #[.int .i64 (W : Int), .int .i64 (H : Int), .slice A' N c'] 26) := ⟨_, rfl⟩
  obtain ⟨v2, ev2⟩ : ∃ v2, v2 = (v1.alloc (.cells #[.float .f32 a] 30)).alloc (.cells #[.float .f32 a'] 30) := ⟨_, rfl⟩
  obtain ⟨v, ev⟩ : ∃ v, v = v2.alloc (.cells #[.int .i64 0, .int .i64 0, .slice none 0 0] 26) := ⟨_, rfl⟩
  have z1 : v1.heap.size = w.heap.size + 1 + 1 := by rw [ev1]; simp
  have z2 : v2.heap.size = w.heap.size + 1 + 1 + 1 + 1 := by rw [ev2, ← z1]; simp
  have K0 : Blk v w.heap.size 26 #[.int .i64 (W : Int), .int .i64 (H : Int), .slice A N c] := by rw [ev, ev2, ev1]; exact ((((Blk.new w _ _).alloc _).alloc _).alloc _).alloc _
  have K1 : Blk v (w.heap.size + 1) 26 #[.int .i64 (W : Int), .int .i64 (H : Int), .slice A' N c'] := by rw [ev, ev2, ev1]; exact (((Blk.new2 w _ _ _).alloc _).alloc _).alloc _
  have K2 : Blk v (w.heap.size + 1 + 1) 30 #[.float .f32 a] := by rw [ev, ev2, ← z1]; exact ((Blk.new _ _ _).alloc _).alloc _
  have K3 : Blk v (w.heap.size + 1 + 1 + 1) 30 #[.float .f32 a'] := by rw [ev, ev2, ← z1]; exact (Blk.new2 _ _ _ _).alloc _
  have R0 : Hid (Blk v (w.heap.size + 1 + 1 + 1 + 1) 26 #[.int .i64 0, .int .i64 0, .slice none 0 0]) := by rw [ev, ← z2]; exact Blk.new _ _ _
  have V0 : Hid (Below w.heap.size w v) := by
    rw [ev, ev2, ev1]
    exact (((((Below.refl _ _).alloc (Nat.le_refl _) _).alloc (by simp) _).alloc (by simp; omega) _).alloc (by simp; omega) _).alloc (by simp; omega) _
  have zv : v.heap.size = w.heap.size + 1 + 1 + 1 + 1 + 1 := by rw [ev, ← z2]; simp
  have A0 : Rd v v.heap.size 1 A N (xs.map fv) := (hA.below V0.out).more V0.out.size
  have A0' : Rd v v.heap.size 1 A' N (xs'.map fv) := (hA'.below V0.out).more V0.out.size
  have IS := ValidSheet_any (W : Int) (H : Int) A N c xs v (by unfold maxLen; omega) A0
  rw [okSheet_len h1 h2 h3 h4 (by rw [hN]; exact hl), hf] at IS
  have IS0 : Hid (Calls Try.prog 24 #[.agg #[.int .i64 (W : Int), .int .i64 (H : Int), .slice A N c]] v fun e w' => e = .returned (.bool true) ∧ Below v.heap.size v w') := IS
  have IS1 : Hid (∀ w1, Below v.heap.size v w1 → Calls Try.prog 24 #[.agg #[.int .i64 (W : Int), .int .i64 (H : Int), .slice A' N c']] w1 fun e w' => e = .returned (.bool true) ∧ Below w1.heap.size w1 w') := fun w1 hb => by
    have IS := ValidSheet_any (W : Int) (H : Int) A' N c' xs' w1 (by unfold maxLen; omega) ((A0'.below hb).more hb.size)
    rw [okSheet_len h1 h2 h3 h4 (by rw [hN]; exact hl'), hf'] at IS
    exact IS
  have EV1 := Lib.hid ev1
  have EV2 := Lib.hid ev2
  have EV := Lib.hid ev
  have FA := Lib.hid (fun w => isFinite_num ha w)
  have FA' := Lib.hid (fun w => isFinite_num ha' w)
  have kc : ∀ w1, Below v.heap.size v w1 → w1.cell? ⟨w.heap.size, 0, none⟩ = some (.int .i64 (W : Int)) ∧ w1.cell? ⟨w.heap.size, 1, none⟩ = some (.int .i64 (H : Int)) ∧ w1.cell? ⟨w.heap.size, 2, none⟩ = some (.slice A N c) ∧
      w1.cell? ⟨w.heap.size + 1, 0, none⟩ = some (.int .i64 (W : Int)) ∧ w1.cell? ⟨w.heap.size + 1, 1, none⟩ = some (.int .i64 (H : Int)) ∧ w1.cell? ⟨w.heap.size + 1, 2, none⟩ = some (.slice A' N c') ∧
      w1.cell? ⟨w.heap.size + 1 + 1, 0, none⟩ = some (.float .f32 a) ∧ w1.cell? ⟨w.heap.size + 1 + 1 + 1, 0, none⟩ = some (.float .f32 a') := fun w1 hb =>
    ⟨(hb.cell K0.lt).trans (K0.cell 0), (hb.cell K0.lt).trans (K0.cell 1), (hb.cell K0.lt).trans (K0.cell 2), (hb.cell K1.lt).trans (K1.cell 0), (hb.cell K1.lt).trans (K1.cell 1), (hb.cell K1.lt).trans (K1.cell 2), (hb.cell K2.lt).trans (K2.cell 0), (hb.cell K3.lt).trans (K3.cell 0)⟩
  obtain ⟨b0, b1, b2, b3, b4, b5, b6, b7⟩ := kc v (Below.refl _ _)
  have KC := Lib.hid kc
  have AV := Lib.hid A0
  have AV' := Lib.hid A0'
  have HYS := Lib.hid hys
  have HL := Lib.hid hl
  have HL' := Lib.hid hl'
  have HLY := Lib.hid hly
  have HFY := Lib.hid hfy
  have HN := Lib.hid hN
  rw [ev, ev2, ev1] at b0 b1 b2 b3 b4 b5 b6 b7
  have CH : Hid (∀ w1, Below v.heap.size v w1 → Calls Try.prog 45 #[sheetV (W : Int) (H : Int) A N c, .func (.func 47) #[] #[.pointer (some ⟨w.heap.size + 1 + 1, 0, none⟩), .pointer (some ⟨w.heap.size, 0, none⟩), .pointer (some ⟨w.heap.size + 1 + 1 + 1, 0, none⟩), .pointer (some ⟨w.heap.size + 1, 0, none⟩)]] w1 (SheetTrue W H ys w1)) := by
    intro w1 hb1
    refine changed_ok W H N A c 47 _ xs ys w1 h1 h2 h3 h4 HN.out HL.out HLY.out HFY.out call_weigh1 ?_
    intro i hi' w' hb
    obtain ⟨p, q, hu1, hu2, hu3⟩ := HYS.out i hi'
    obtain ⟨b, off, rfl, hbb, hc⟩ := AV.out.2 (by omega)
    obtain ⟨b', off', rfl, hbb', hc'⟩ := AV'.out.2 (by omega)
    have hb2 : Below v.heap.size v w' := hb1.trans (hb.mono hb1.size)
    obtain ⟨b0, b1, b2, b3, b4, b5, b6, b7⟩ := KC.out w' hb2
    exact weigh1_calls W H N c c' (w.heap.size + 1 + 1) w.heap.size (w.heap.size + 1 + 1 + 1) (w.heap.size + 1) off b off' b' i (xs.getD i 0) (xs'.getD i 0) a a' p q (ys.getD i 0) w' hi' b2 b5 b6 b7
      ((hb2.cell hbb).trans (hc _ _ (fv_at HL.out hi'))) ((hb2.cell hbb').trans (hc' _ _ (fv_at HL'.out hi'))) hu1 hu2 hu3
  unfold sheetV at CH
  unfold sheetV
  clear ev ev1 ev2 IS A0 A0' hA hA' hf hf' hl hl' hys hly hfy ha ha' hN kc K0 K1 K2 K3 z1 z2 AV AV' HYS
  go_enter Try.func18, Try.ntmps18
  go_wp2_with fail
  rw [← EV1.out, ← EV2.out, ← EV.out]
  clear b0 b1 b2 b3 b4 b5 b6 b7
  refine IS0.out.mono ?_
  rintro e w1 ⟨rfl, hb1⟩
  have CW := Lib.hid (IS1.out w1 hb1)
  have HB1 := Lib.hid hb1
  obtain ⟨b0, b1, b2, b3, b4, b5, b6, b7⟩ := KC.out w1 hb1
  clear hb1 IS0 IS1 EV EV1 EV2
  go_wp2_with fail
  refine CW.out.mono ?_
  rintro e w2 ⟨rfl, hb2⟩
  have HB2 := Lib.hid (HB1.out.trans (hb2.mono HB1.out.size))
  clear hb2 b0 b1 b2 b3 b4 b5 b6 b7 CW
  obtain ⟨b0, b1, b2, b3, b4, b5, b6, b7⟩ := KC.out w2 HB2.out
  go_wp2_with fail
  refine (FA.out _).mono ?_
  rintro e w3 ⟨rfl, rfl⟩
  go_wp2_with fail
  refine (FA'.out _).mono ?_
  rintro e w4 ⟨rfl, rfl⟩
  have V4 := Lib.hid (V0.out.trans (HB2.out.mono V0.out.size))
  have R4 := Lib.hid (R0.out.below HB2.out R0.out.lt)
  have CW := Lib.hid (CH.out _ HB2.out)
  clear V0 R0 CH HB1 HB2 KC FA FA'
  go_wp2_with fail
  refine CW.out.mono ?_
  rintro e w5 ⟨gr, c4, rfl, ho, hb4⟩
  have R5 := Lib.hid (R4.out.below hb4 R4.out.lt)
  have V5 := Lib.hid (V4.out.trans (hb4.mono V4.out.size))
  have hz := V4.out.size
  have O5 := Lib.hid ho
  unfold sheetV
  clear ho hb4 CW V4 R4 b0 b1 b2 b3 b4 b5 b6 b7
  go_wp2_with (first
    | (refine wpList_store_blk rfl _ _ _ rfl (w.heap.size + 1 + 1 + 1 + 1) 0 rfl _ rfl [.int .i64 (W : Int), .int .i64 (H : Int), .slice (some ⟨gr, 0, none⟩) ys.length c4] rfl 26 _ #[.int .i64 (W : Int), .int .i64 (H : Int), .slice (some ⟨gr, 0, none⟩) ys.length c4] R5.out (by kernel_rfl) (by simp) (by simp [Value.oneCell']) rfl ?_; intro w9 k9 g9)
    | fail)
  refine bodyPost_ret (results_row2 rfl _ w9 (w.heap.size + 1 + 1 + 1 + 1) 26 _ _ rfl k9 Try.underlying26 rfl (by kernel_rfl) _ rfl) rfl ?_
  exact ⟨gr, c4, rfl, own_base (own_grown' O5.out g9 (own_blk_ne O5.out R5.out (by decide))) hz, V5.out.grown g9 V5.out.size (fun j e => by injection e with e; omega)⟩
end Go.Proofs.Ytoibgpmpngccjaa
