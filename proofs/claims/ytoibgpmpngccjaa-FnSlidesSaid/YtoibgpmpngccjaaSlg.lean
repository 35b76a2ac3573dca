/- Walks: sheets from 0 to 1, and weighed sums of sheets. Conditions: finite heights. -/
import Derived.Test.YtoibgpmpngccjaaSlf
namespace Go.Proofs.Ytoibgpmpngccjaa
open Go.RowKit
open Num Quick
attribute [local go_sem] run_store_fl

set_option maxRecDepth 100000 in
set_option maxHeartbeats 1000000 in
theorem norm1_calls (W H : Int) (N c g0 g1 g2 off b i x lo hi u v y : Nat) (w : World) (hi' : i < N) (k0 : w.cell? ⟨g0, 2, none⟩ = some (.slice (some ⟨b, off, none⟩) N c)) (k1 : w.cell? ⟨g1, 0, none⟩ = some (.float .f32 lo)) (k2 : w.cell? ⟨g2, 0, none⟩ = some (.float .f32 hi))
    (kx : w.cell? ⟨b, off + i, none⟩ = some (.float .f32 x)) (hu : floatBits .sub .f32 x lo = some u) (hv : floatBits .sub .f32 hi lo = some v) (hy : floatBits .quo .f32 u v = some y) :
    Calls Try.prog 46 #[.int .i64 (i : Int), .pointer (some ⟨g0, 0, none⟩), .pointer (some ⟨g1, 0, none⟩), .pointer (some ⟨g2, 0, none⟩)] w fun e w' => e = .returned (.float .f32 y) ∧ ∃ m, w' = w.drewN m := by
  have q1 := r32 hu
  have q2 := r32 hv
  have q3 := r32 hy
  have hi1 : (i : Int) < (N : Int) := by omega
  have hi0 : (0 : Int) ≤ (i : Int) := by omega
  clear hu hv hy
  go_enter Try.func46, Try.ntmps46
  go_wp2
  go_quiet (fail)
  go_wp2
  go_ret
  exact ⟨rfl, _, rfl⟩
set_option maxRecDepth 100000 in
set_option maxHeartbeats 1000000 in
theorem weigh1_calls (W H : Int) (N c c' g0 g1 g2 g3 off b off' b' i x x' a a' u v y : Nat) (w : World) (hi' : i < N) (k0 : w.cell? ⟨g1, 2, none⟩ = some (.slice (some ⟨b, off, none⟩) N c)) (k0' : w.cell? ⟨g3, 2, none⟩ = some (.slice (some ⟨b', off', none⟩) N c')) (k1 : w.cell? ⟨g0, 0, none⟩ = some (.float .f32 a)) (k2 : w.cell? ⟨g2, 0, none⟩ = some (.float .f32 a'))
    (kx : w.cell? ⟨b, off + i, none⟩ = some (.float .f32 x)) (kx' : w.cell? ⟨b', off' + i, none⟩ = some (.float .f32 x')) (hu : floatBits .mul .f32 a x = some u) (hv : floatBits .mul .f32 a' x' = some v) (hy : floatBits .add .f32 u v = some y) :
    Calls Try.prog 47 #[.int .i64 (i : Int), .pointer (some ⟨g0, 0, none⟩), .pointer (some ⟨g1, 0, none⟩), .pointer (some ⟨g2, 0, none⟩), .pointer (some ⟨g3, 0, none⟩)] w fun e w' => e = .returned (.float .f32 y) ∧ ∃ m, w' = w.drewN m := by
  have q1 := r32 hu
  have q2 := r32 hv
  have q3 := r32 hy
  have hi1 : (i : Int) < (N : Int) := by omega
  have hi0 : (0 : Int) ≤ (i : Int) := by omega
  clear hu hv hy
  go_enter Try.func47, Try.ntmps47
  go_wp2
  go_quiet (fail)
  go_wp2
  go_ret
  exact ⟨rfl, _, rfl⟩
theorem call_norm1 (args : Array Value) (w : World) : (callFunc 46 args).run Try.prog w = .ok (.enter 46 args) w := by
  go_simp
theorem call_weigh1 (args : Array Value) (w : World) : (callFunc 47 args).run Try.prog w = .ok (.enter 47 args) w := by
  go_simp
set_option maxRecDepth 100000 in
set_option maxHeartbeats 2000000 in
theorem NormSheet_yes (W H N d : Nat) (A : Option Addr) (c : Nat) (xs ys : List Nat) (w : World) (h1 : 1 ≤ W) (h2 : W ≤ 17) (h3 : 1 ≤ H) (h4 : H ≤ 17) (hN : W * H = N) (hl : xs.length = N) (hf : xs.all finW = true) (hly : ys.length = N) (hfy : ys.all finW = true) (hA : Rd w w.heap.size 1 A N (xs.map fv))
    (hd : floatBits .sub .f32 (hiF xs N) (loF xs N) = some d) (hgt : (FloatKind.f32.format.order d 0 == some .gt) = true) (hys : ∀ k, k < N → ∃ u, floatBits .sub .f32 (xs.getD k 0) (loF xs N) = some u ∧ floatBits .quo .f32 u d = some (ys.getD k 0)) :
    Calls Try.prog 17 #[sheetV (W : Int) (H : Int) A N c] w (SheetTrue W H ys w) := by
  have hN289 : N ≤ 289 := by have := Nat.mul_le_mul h2 h4; omega
  have hN1 : 1 ≤ N := by have := Nat.mul_le_mul h1 h3; omega
  obtain ⟨v, ev⟩ : ∃ v, v = (w.alloc (.cells #[.int .i64 (W : Int), .int .i64 (H : Int), .slice A N c] 26)).alloc (.cells #[.int .i64 0, .int .i64 0, .slice none 0 0] 26) := ⟨_, rfl⟩
  have K0 : Hid (Blk v w.heap.size 26 #[.int .i64 (W : Int), .int .i64 (H : Int), .slice A N c]) := by rw [ev]; exact (Blk.new w _ _).alloc _
  have R0 : Hid (Blk v (w.heap.size + 1) 26 #[.int .i64 0, .int .i64 0, .slice none 0 0]) := by rw [ev]; exact Blk.new2 _ _ _ _
  have V0 : Hid (Below w.heap.size w v) := by rw [ev]; exact ((Below.refl _ _).alloc (Nat.le_refl _) _).alloc (by simp) _
  have A0 : Rd v v.heap.size 1 A N (xs.map fv) := (hA.below V0.out).more V0.out.size
  have IS := ValidSheet_any (W : Int) (H : Int) A N c xs v (by unfold maxLen; omega) A0
  rw [okSheet_len h1 h2 h3 h4 (by rw [hN]; exact hl), hf] at IS
  have IS0 : Hid (Calls Try.prog 24 #[.agg #[.int .i64 (W : Int), .int .i64 (H : Int), .slice A N c]] v fun e w' => e = .returned (.bool true) ∧ Below v.heap.size v w') := IS
  have EV := Lib.hid ev
  have b0 : v.cell? ⟨w.heap.size, 0, none⟩ = some (.int .i64 (W : Int)) := K0.out.cell 0
  have b1 : v.cell? ⟨w.heap.size, 1, none⟩ = some (.int .i64 (H : Int)) := K0.out.cell 1
  have b2 : v.cell? ⟨w.heap.size, 2, none⟩ = some (.slice A N c) := K0.out.cell 2
  have hgl : w.heap.size < v.heap.size := Nat.lt_of_lt_of_le K0.out.lt (Nat.le_refl _)
  have AV := Lib.hid A0
  have SO := Lib.hid (fun (w' : World) (h : Rd w' w'.heap.size 1 A N (xs.map fv)) => span_calls A N c _ xs w' (by unfold maxLen; omega) hN1 hl h)
  have HYS := Lib.hid hys
  have HL := Lib.hid hl
  have HLY := Lib.hid hly
  have HFY := Lib.hid hfy
  have hd0 := r32 hd
  have HD := Lib.hid hd
  have HN := Lib.hid hN
  have hg1 : ¬ w.heap.size = w.heap.size + 1 := by omega
  rw [ev] at b0 b1 b2
  generalize loF xs N = lo at *
  generalize hiF xs N = hi at *
  unfold sheetV
  clear ev IS A0 hA hf hl hys hly hfy hd hN
  go_enter Try.func17, Try.ntmps17
  go_wp2_with fail
  rw [← EV.out]
  refine IS0.out.mono ?_
  rintro e w1 ⟨rfl, hb1⟩
  have K1 := Lib.hid (K0.out.below hb1 K0.out.lt)
  have R1 := Lib.hid (R0.out.below hb1 R0.out.lt)
  have d2 : w1.cell? ⟨w.heap.size, 2, none⟩ = some (.slice A N c) := K1.out.cell 2
  have A1 := Lib.hid ((AV.out.below hb1).more hb1.size)
  have V1 := Lib.hid (V0.out.trans (hb1.mono V0.out.size))
  clear hb1 IS0 V0 AV EV b0 b1 b2 K0 R0
  go_wp2_with fail
  refine (SO.out _ A1.out).mono ?_
  rintro e w2 ⟨rfl, m, hw⟩
  have V2 := Lib.hid (below_drewN' V1.out m)
  have K2 := Lib.hid (K1.out.drewN m)
  have R2 := Lib.hid (R1.out.drewN m)
  have A2 : Hid (Rd (w1.drewN m) (w1.drewN m).heap.size 1 A N (xs.map fv)) := A1.out
  rw [← hw] at V2 K2 R2 A2
  clear hw V1 K1 R1 A1 d2 hgl
  obtain ⟨w3, ew3⟩ : ∃ w3, w3 = (w2.alloc (.cells #[.float .f32 lo] 30)).alloc (.cells #[.float .f32 hi] 30) := ⟨_, rfl⟩
  have K3 : Blk w3 w.heap.size 26 #[.int .i64 (W : Int), .int .i64 (H : Int), .slice A N c] := by rw [ew3]; exact (K2.out.alloc _).alloc _
  have R3 : Hid (Blk w3 (w.heap.size + 1) 26 #[.int .i64 0, .int .i64 0, .slice none 0 0]) := by rw [ew3]; exact (R2.out.alloc _).alloc _
  have V23 : Below w2.heap.size w2 w3 := by rw [ew3]; exact ((Below.refl _ _).alloc (Nat.le_refl _) _).alloc (by simp) _
  have V3 := Lib.hid (V2.out.trans (V23.mono V2.out.size))
  have A3 : Rd w3 w3.heap.size 1 A N (xs.map fv) := (A2.out.below V23).more V23.size
  have L3 : Blk w3 w2.heap.size 30 #[.float .f32 lo] := by rw [ew3]; exact (Blk.new w2 _ _).alloc _
  have U3 : Blk w3 (w2.heap.size + 1) 30 #[.float .f32 hi] := by rw [ew3]; exact Blk.new2 _ _ _ _
  have k0 := K3.cell 0
  have k1 := K3.cell 1
  have k2 := K3.cell 2
  have CH : Hid (Calls Try.prog 45 #[sheetV (W : Int) (H : Int) A N c, .func (.func 46) #[] #[.pointer (some ⟨w.heap.size, 0, none⟩), .pointer (some ⟨w2.heap.size, 0, none⟩), .pointer (some ⟨w2.heap.size + 1, 0, none⟩)]] w3 (SheetTrue W H ys w3)) := by
    refine changed_ok W H N A c 46 _ xs ys w3 h1 h2 h3 h4 HN.out HL.out HLY.out HFY.out call_norm1 ?_
    intro i hi' w' hb
    obtain ⟨u, hu1, hu2⟩ := HYS.out i hi'
    obtain ⟨b, off, rfl, hbb, hc⟩ := A3.2 (by omega)
    exact norm1_calls W H N c w.heap.size w2.heap.size (w2.heap.size + 1) off b i (xs.getD i 0) lo hi u d (ys.getD i 0) w' hi' ((hb.cell K3.lt).trans k2) ((hb.cell L3.lt).trans (L3.cell 0)) ((hb.cell U3.lt).trans (U3.cell 0))
      ((hb.cell hbb).trans (hc _ _ (fv_at HL.out hi'))) hu1 HD.out hu2
  have EW3 := Lib.hid ew3
  rw [ew3] at k0 k1 k2
  have hz3 : w.heap.size ≤ w3.heap.size := V3.out.size
  unfold sheetV at CH
  clear ew3 K3 V23 V2 K2 R2 A2 A3 L3 U3 HYS HFY SO HD HL
  go_wp2_with fail
  rw [← EW3.out]
  refine CH.out.mono ?_
  rintro e w4 ⟨gr, c4, rfl, ho, hb4⟩
  have R4 := Lib.hid (R3.out.below hb4 R3.out.lt)
  have V4 := Lib.hid (V3.out.trans (hb4.mono hz3))
  have O4 := Lib.hid ho
  unfold sheetV
  clear ho hb4 CH EW3 V3 R3 k0 k1 k2
  go_wp2_with (first
    | (refine wpList_store_blk rfl _ _ _ rfl (w.heap.size + 1) 0 rfl _ rfl [.int .i64 (W : Int), .int .i64 (H : Int), .slice (some ⟨gr, 0, none⟩) ys.length c4] rfl 26 _ #[.int .i64 (W : Int), .int .i64 (H : Int), .slice (some ⟨gr, 0, none⟩) ys.length c4] R4.out (by kernel_rfl) (by simp) (by simp [Value.oneCell']) rfl ?_; intro w9 k9 g9)
    | fail)
  refine bodyPost_ret (results_row2 rfl _ w9 (w.heap.size + 1) 26 _ _ rfl k9 Try.underlying26 rfl (by kernel_rfl) _ rfl) rfl ?_
  exact ⟨gr, c4, rfl, own_base (own_grown' O4.out g9 (own_blk_ne O4.out R4.out (by decide))) hz3, V4.out.grown g9 V4.out.size (fun j e => by injection e with e; omega)⟩
set_option maxRecDepth 100000 in
set_option maxHeartbeats 2000000 in
theorem NormSheet_no (W H N d : Nat) (A : Option Addr) (c : Nat) (xs : List Nat) (w : World) (h1 : 1 ≤ W) (h2 : W ≤ 17) (h3 : 1 ≤ H) (h4 : H ≤ 17) (hN : W * H = N) (hl : xs.length = N) (hf : xs.all finW = true) (hA : Rd w w.heap.size 1 A N (xs.map fv))
    (hd : floatBits .sub .f32 (hiF xs N) (loF xs N) = some d) (hgt : (FloatKind.f32.format.order d 0 == some .gt) = false) :
    Calls Try.prog 17 #[sheetV (W : Int) (H : Int) A N c] w (fun e w' => e = .returned (.tuple #[sheetV 0 0 none 0 0, .bool false]) ∧ Below w.heap.size w w') := by
  have hN289 : N ≤ 289 := by have := Nat.mul_le_mul h2 h4; omega
  have hN1 : 1 ≤ N := by have := Nat.mul_le_mul h1 h3; omega
  obtain ⟨v, ev⟩ : ∃ v, v = (w.alloc (.cells #[.int .i64 (W : Int), .int .i64 (H : Int), .slice A N c] 26)).alloc (.cells #[.int .i64 0, .int .i64 0, .slice none 0 0] 26) := ⟨_, rfl⟩
  have K0 : Hid (Blk v w.heap.size 26 #[.int .i64 (W : Int), .int .i64 (H : Int), .slice A N c]) := by rw [ev]; exact (Blk.new w _ _).alloc _
  have R0 : Hid (Blk v (w.heap.size + 1) 26 #[.int .i64 0, .int .i64 0, .slice none 0 0]) := by rw [ev]; exact Blk.new2 _ _ _ _
  have V0 : Hid (Below w.heap.size w v) := by rw [ev]; exact ((Below.refl _ _).alloc (Nat.le_refl _) _).alloc (by simp) _
  have A0 : Rd v v.heap.size 1 A N (xs.map fv) := (hA.below V0.out).more V0.out.size
  have IS := ValidSheet_any (W : Int) (H : Int) A N c xs v (by unfold maxLen; omega) A0
  rw [okSheet_len h1 h2 h3 h4 (by rw [hN]; exact hl), hf] at IS
  have IS0 : Hid (Calls Try.prog 24 #[.agg #[.int .i64 (W : Int), .int .i64 (H : Int), .slice A N c]] v fun e w' => e = .returned (.bool true) ∧ Below v.heap.size v w') := IS
  have EV := Lib.hid ev
  have b0 : v.cell? ⟨w.heap.size, 0, none⟩ = some (.int .i64 (W : Int)) := K0.out.cell 0
  have b1 : v.cell? ⟨w.heap.size, 1, none⟩ = some (.int .i64 (H : Int)) := K0.out.cell 1
  have b2 : v.cell? ⟨w.heap.size, 2, none⟩ = some (.slice A N c) := K0.out.cell 2
  have hgl : w.heap.size < v.heap.size := Nat.lt_of_lt_of_le K0.out.lt (Nat.le_refl _)
  have AV := Lib.hid A0
  have SO := Lib.hid (fun (w' : World) (h : Rd w' w'.heap.size 1 A N (xs.map fv)) => span_calls A N c _ xs w' (by unfold maxLen; omega) hN1 hl h)
  have HL := Lib.hid hl
  have hd0 := r32 hd
  have HD := Lib.hid hd
  have HN := Lib.hid hN
  have hg1 : ¬ w.heap.size = w.heap.size + 1 := by omega
  rw [ev] at b0 b1 b2
  generalize loF xs N = lo at *
  generalize hiF xs N = hi at *
  unfold sheetV
  clear ev IS A0 hA hf hl hd hN
  go_enter Try.func17, Try.ntmps17
  go_wp2_with fail
  rw [← EV.out]
  refine IS0.out.mono ?_
  rintro e w1 ⟨rfl, hb1⟩
  have K1 := Lib.hid (K0.out.below hb1 K0.out.lt)
  have R1 := Lib.hid (R0.out.below hb1 R0.out.lt)
  have d2 : w1.cell? ⟨w.heap.size, 2, none⟩ = some (.slice A N c) := K1.out.cell 2
  have A1 := Lib.hid ((AV.out.below hb1).more hb1.size)
  have V1 := Lib.hid (V0.out.trans (hb1.mono V0.out.size))
  clear hb1 IS0 V0 AV EV b0 b1 b2 K0 R0
  go_wp2_with fail
  refine (SO.out _ A1.out).mono ?_
  rintro e w2 ⟨rfl, m, hw⟩
  have V2 := Lib.hid (below_drewN' V1.out m)
  have K2 := Lib.hid (K1.out.drewN m)
  have R2 := Lib.hid (R1.out.drewN m)
  have A2 : Hid (Rd (w1.drewN m) (w1.drewN m).heap.size 1 A N (xs.map fv)) := A1.out
  rw [← hw] at V2 K2 R2 A2
  clear hw V1 K1 R1 A1 d2 hgl
  obtain ⟨w3, ew3⟩ : ∃ w3, w3 = (w2.alloc (.cells #[.float .f32 lo] 30)).alloc (.cells #[.float .f32 hi] 30) := ⟨_, rfl⟩
  have R3 : Hid (Blk w3 (w.heap.size + 1) 26 #[.int .i64 0, .int .i64 0, .slice none 0 0]) := by rw [ew3]; exact (R2.out.alloc _).alloc _
  have V23 : Below w2.heap.size w2 w3 := by rw [ew3]; exact ((Below.refl _ _).alloc (Nat.le_refl _) _).alloc (by simp) _
  have V3 := Lib.hid (V2.out.trans (V23.mono V2.out.size))
  have R3' := R3
  rw [ew3] at R3'
  have EW3 := Lib.hid ew3
  clear ew3 V23 V2 K2 R2 A2 SO HD HL
  go_wp2_with (first
    | (refine wpList_store_blk rfl _ _ _ rfl (w.heap.size + 1) 0 rfl _ rfl [.int .i64 0, .int .i64 0, .slice none 0 0] rfl 26 _ #[.int .i64 0, .int .i64 0, .slice none 0 0] R3'.out (by kernel_rfl) (by simp) (by simp [Value.oneCell']) rfl ?_; intro w9 k9 g9)
    | fail)
  rw [← EW3.out] at g9
  refine bodyPost_ret (results_row2 rfl _ w9 (w.heap.size + 1) 26 _ _ rfl k9 Try.underlying26 rfl (by kernel_rfl) _ rfl) rfl ?_
  exact ⟨rfl, V3.out.grown g9 V3.out.size (fun j e => by injection e with e; omega)⟩
end Go.Proofs.Ytoibgpmpngccjaa
