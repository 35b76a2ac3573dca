/- Walk: DropOn by the program; and the pair. Conditions: as each says. -/
import Derived.Test.YtoibgpmpngccjaaHn
namespace Go.Proofs.Ytoibgpmpngccjaa
open Go.RowKit

set_option maxRecDepth 100000 in
set_option maxHeartbeats 4000000 in
theorem implDropOn_ok (W H N x y st tk lv : Nat) (A : Option Addr) (c : Nat) (xs : List Nat) (w : World) (h1 : 1 ≤ W) (h2 : W ≤ 17) (h3 : 1 ≤ H) (h4 : H ≤ 17) (hN : W * H = N) (hl : xs.length = N) (hx : x < W) (hy : y < H) (hst : st ≤ 128) (hr : (okTake tk && okShare lv) = true) (hf : xs.all finW = true)
    (hA : Rd w w.heap.size 1 A N (xs.map fv)) :
    Calls Try.prog 9 #[sheetV (W : Int) (H : Int) A N c, .int .i64 (x : Int), .int .i64 (y : Int), .int .i64 (st : Int), .float .f32 tk, .float .f32 lv] w (DrRes (nxI W H) W H tk lv st (y * W + x) xs w) := by
  have hN289 : N ≤ 289 := by have := Nat.mul_le_mul h2 h4; omega
  have hplt := place_lt hx hy
  have hyW : ((y * W : Nat) : Int) = (y : Int) * (W : Int) := by simp
  have hN1 : 1 ≤ N := by have := Nat.mul_le_mul h1 h3; omega
  obtain ⟨P, hP⟩ : ∃ P, y * W = P := ⟨_, rfl⟩
  rw [hP] at hyW hplt ⊢
  have hmul : (y : Int) * (W : Int) = (P : Int) := hyW.symm
  have hPN : P + x < N := by omega
  obtain ⟨v, ev⟩ : ∃ v, v = (w.alloc (.cells #[.int .i64 (W : Int), .int .i64 (H : Int), .slice A N c] 26)).alloc (.cells #[.int .i64 0, .int .i64 0, .slice none 0 0] 26) := ⟨_, rfl⟩
  have K0 : Blk v w.heap.size 26 #[.int .i64 (W : Int), .int .i64 (H : Int), .slice A N c] := by rw [ev]; exact (Blk.new w _ _).alloc _
  have R0 : Hid (Blk v (w.heap.size + 1) 26 #[.int .i64 0, .int .i64 0, .slice none 0 0]) := by rw [ev]; exact Blk.new2 _ _ _ _
  have V0 : Hid (Below w.heap.size w v) := by rw [ev]; exact ((Below.refl _ _).alloc (Nat.le_refl _) _).alloc (by simp) _
  have A0 : Rd v v.heap.size 1 A N (xs.map fv) := (hA.below V0.out).more V0.out.size
  have IS := areDrops_any (W : Int) (H : Int) (st : Int) tk lv A N c xs v (by unfold maxLen; omega) A0
  rw [okSheet_len h1 h2 h3 h4 (by rw [hN]; exact hl), hf, inB_iff.2 ⟨by omega, by omega⟩, hr] at IS
  have IS0 : Hid (Calls Try.prog 28 #[.agg #[.int .i64 (W : Int), .int .i64 (H : Int), .slice A N c], .int .i64 (st : Int), .float .f32 tk, .float .f32 lv] v fun e w' => e = .returned (.bool true) ∧ Below v.heap.size v w') := IS
  have L1 : Hid (∀ w, Calls Try.prog 29 #[.int .i64 (x : Int), .int .i64 0, .int .i64 ((W : Int) - 1)] w fun e w' => e = .returned (.bool true) ∧ w' = w) := fun w => by
    have := within_any (x : Int) 0 ((W : Int) - 1) w
    rwa [inB_iff.2 ⟨by omega, by omega⟩] at this
  have L2 : Hid (∀ w, Calls Try.prog 29 #[.int .i64 (y : Int), .int .i64 0, .int .i64 ((H : Int) - 1)] w fun e w' => e = .returned (.bool true) ∧ w' = w) := fun w => by
    have := within_any (y : Int) 0 ((H : Int) - 1) w
    rwa [inB_iff.2 ⟨by omega, by omega⟩] at this
  have KV := Lib.hid K0
  have AV := Lib.hid A0
  have EV := Lib.hid ev
  have HL := Lib.hid hl
  have HN := Lib.hid hN
  have HF := Lib.hid hf
  have hvz : v.heap.size = w.heap.size + 2 := by rw [ev]; simp
  have hgl : w.heap.size < v.heap.size := by omega
  have k0 : ∀ w', Below v.heap.size v w' → w'.cell? ⟨w.heap.size, 0, none⟩ = some (.int .i64 (W : Int)) ∧ w'.cell? ⟨w.heap.size, 1, none⟩ = some (.int .i64 (H : Int)) ∧ w'.cell? ⟨w.heap.size, 2, none⟩ = some (.slice A N c) := fun w' h => ⟨(h.cell hgl).trans (K0.cell 0), (h.cell hgl).trans (K0.cell 1), (h.cell hgl).trans (K0.cell 2)⟩
  have KC := Lib.hid k0
  obtain ⟨b0, b1, b2⟩ := k0 v (Below.refl _ _)
  rw [ev] at b0 b1 b2
  have hg1 : ¬ w.heap.size = w.heap.size + 1 := by omega
  unfold sheetV
  clear k0 ev IS K0 A0 hA hl hr hf hplt hyW hN
  go_enter Try.func9, Try.ntmps9
  go_wp2_with fail
  rw [← EV.out]
  refine IS0.out.mono ?_
  rintro e w1 ⟨rfl, hb1⟩
  have K1 := Lib.hid (KV.out.below hb1 KV.out.lt)
  have R1 := Lib.hid (R0.out.below hb1 R0.out.lt)
  have V1 := Lib.hid (V0.out.trans (hb1.mono V0.out.size))
  have A1 := Lib.hid ((AV.out.below hb1).more hb1.size)
  have z1 := hb1.size
  obtain ⟨d0, d1, d2⟩ := KC.out w1 hb1
  clear hb1 IS0 R0 V0 AV KV EV b0 b1 b2
  go_wp2_with fail
  refine (L1.out _).mono ?_
  rintro e w' ⟨rfl, rfl⟩
  go_wp2_with fail
  refine (L2.out _).mono ?_
  rintro e w' ⟨rfl, rfl⟩
  have OW := Lib.hid (copySheet_any (W : Int) (H : Int) N A c xs w' hN1 hN289 HL.out A1.out)
  unfold SheetOut sheetV at OW
  go_wp2_with fail
  refine OW.out.mono ?_
  rintro e u2 ⟨A2, c2, rfl, ho, hb⟩
  obtain ⟨gr, cap, hv, _, hgr⟩ := ho.form (by omega)
  obtain ⟨rfl, rfl⟩ : A2 = some ⟨gr, 0, none⟩ ∧ c2 = cap := by injection hv with q1 _ q3; exact ⟨q1, q3⟩
  obtain ⟨w3, ew3⟩ : ∃ w3, w3 = u2.alloc (.cells #[.int .i64 (W : Int), .int .i64 (H : Int), .slice (some ⟨gr, 0, none⟩) N c2] 26) := ⟨_, rfl⟩
  have K3 : Hid (Blk w3 u2.heap.size 26 #[.int .i64 (W : Int), .int .i64 (H : Int), .slice (some ⟨gr, 0, none⟩) N c2]) := by rw [ew3]; exact Blk.new _ _ _
  have R3 : Hid (Blk w3 (w.heap.size + 1) 26 #[.int .i64 0, .int .i64 0, .slice none 0 0]) := by rw [ew3]; exact (R1.out.below hb R1.out.lt).alloc _
  have O3 : Hid (w3.ownsRow w'.heap.size 30 1 (.slice (some ⟨gr, 0, none⟩) N c2) N (xs.map fv)) := by rw [ew3]; exact ho.alloc _
  have V3 : Hid (Below w.heap.size w w3) := by rw [ew3]; exact (V1.out.trans (hb.mono V1.out.size)).alloc (Nat.le_trans V1.out.size hb.size) _
  have ku := K1.out.below hb K1.out.lt
  have j0 : u2.cell? ⟨w.heap.size, 0, none⟩ = some (.int .i64 (W : Int)) := ku.cell 0
  have j1 : u2.cell? ⟨w.heap.size, 1, none⟩ = some (.int .i64 (H : Int)) := ku.cell 1
  have hgl2 : w.heap.size < u2.heap.size := ku.lt
  have i0 : (u2.alloc (.cells #[.int .i64 (W : Int), .int .i64 (H : Int), .slice (some ⟨gr, 0, none⟩) N c2] 26)).cell? ⟨u2.heap.size, 0, none⟩ = some (.int .i64 (W : Int)) := (Blk.new _ _ _).cell 0
  have i1 : (u2.alloc (.cells #[.int .i64 (W : Int), .int .i64 (H : Int), .slice (some ⟨gr, 0, none⟩) N c2] 26)).cell? ⟨u2.heap.size, 1, none⟩ = some (.int .i64 (H : Int)) := (Blk.new _ _ _).cell 1
  have i2 : (u2.alloc (.cells #[.int .i64 (W : Int), .int .i64 (H : Int), .slice (some ⟨gr, 0, none⟩) N c2] 26)).cell? ⟨u2.heap.size, 2, none⟩ = some (.slice (some ⟨gr, 0, none⟩) N c2) := (Blk.new _ _ _).cell 2
  have hne2 : ¬ w.heap.size = u2.heap.size := by omega
  have hbase : w.heap.size ≤ w'.heap.size := V1.out.size
  have E3 := Lib.hid ew3
  have DC : Hid (Calls Try.prog 30 #[.agg #[.int .i64 (W : Int), .int .i64 (H : Int), .slice (some ⟨gr, 0, none⟩) N c2], .int .i64 ((P : Int) + (x : Int)), .int .i64 (st : Int), .float .f32 tk, .float .f32 lv] w3 fun e w'' => ∃ Hf m, e = .returned (.int .i64 ((m : Nat) : Int)) ∧ m ≤ st ∧ Run (nxI W H) tk lv st xs (P + x) 0 Hf m ∧
      w''.ownsRow w'.heap.size 30 1 (.slice (some ⟨gr, 0, none⟩) N c2) N (Hf.map fv) ∧ w3.grownBy w'' (some gr)) := by
    have := drop_any W H gr c2 w'.heap.size (P + x) st tk lv xs w3 h1 h2 h3 h4 (by rw [HN.out]; exact HL.out) (by rw [HN.out]; exact hPN) hst (by rw [HN.out]; exact O3.out)
    rw [HN.out] at this
    rwa [Int.natCast_add] at this
  clear ho hb ew3 ku hv K1 R1 V1 OW d0 d1 d2 A1
  go_wp2_with fail
  rw [← E3.out]
  refine DC.out.mono ?_
  rintro e w4 ⟨Hf, m, rfl, hm, hrun, ho4, hg4⟩
  have hlf : Hf.length = N := by rw [run_len hrun]; exact HL.out
  have K4 := Lib.hid (K3.out.grown hg4 (own_blk_ne O3.out K3.out (by decide)))
  have R4 := Lib.hid (R3.out.grown hg4 (own_blk_ne O3.out R3.out (by decide)))
  have V4 := Lib.hid (V3.out.grown hg4 V3.out.size (fun k e => by have := (O3.out.lt k e).1; omega))
  have O4 := Lib.hid ho4
  have HRUN := Lib.hid hrun
  have HLF := Lib.hid hlf
  have IS := ValidSheet_any (W : Int) (H : Int) (some ⟨gr, 0, none⟩) N c2 Hf w4 (by unfold maxLen; omega) (Rd.own ho4)
  rw [okSheet_len h1 h2 h3 h4 (by rw [hlf]; exact HN.out.symm)] at IS
  have IS4 := Lib.hid IS
  have f0 : w4.cell? ⟨u2.heap.size, 0, none⟩ = some (.int .i64 (W : Int)) := K4.out.cell 0
  have f1 : w4.cell? ⟨u2.heap.size, 1, none⟩ = some (.int .i64 (H : Int)) := K4.out.cell 1
  have f2 : w4.cell? ⟨u2.heap.size, 2, none⟩ = some (.slice (some ⟨gr, 0, none⟩) N c2) := K4.out.cell 2
  clear ho4 hg4 hrun hlf IS DC K3 R3 V3 O3 E3 i0 i1 i2 j0 j1
  cases hfin : Hf.all finW
  · rw [hfin] at IS4
    have HFIN := Lib.hid hfin
    clear hfin
    go_wp2_with fail
    refine IS4.out.mono ?_
    rintro e w5 ⟨rfl, hb5⟩
    have R5 : Hid (Blk w5 (w.heap.size + 1) 26 #[.int .i64 0, .int .i64 0, .slice none 0 0]) := R4.out.below hb5 R4.out.lt
    have V5 : Hid (Below w.heap.size w w5) := V4.out.trans (hb5.mono V4.out.size)
    clear hb5 f0 f1 f2 R4 V4 K4 O4 IS4
    go_wp2_with (first
      | (refine wpList_store_blk rfl _ _ _ rfl (w.heap.size + 1) 0 rfl _ rfl [.int .i64 0, .int .i64 0, .slice none 0 0] rfl 26 _ #[.int .i64 0, .int .i64 0, .slice none 0 0] R5.out (by kernel_rfl) (by simp) (by simp [Value.oneCell']) rfl ?_; intro w9 k9 g9)
      | fail)
    refine bodyPost_ret (results_row3 rfl _ w9 (w.heap.size + 1) 26 _ _ rfl k9 Try.underlying26 rfl (by kernel_rfl) _ _ rfl rfl) rfl ?_
    exact ⟨Hf, m, HRUN.out, .inr ⟨HFIN.out, srRes_no (V5.out.grown g9 V5.out.size (fun j e => by injection e with e; omega))⟩⟩
  · rw [hfin] at IS4
    have HFIN := Lib.hid hfin
    clear hfin
    go_wp2_with fail
    refine IS4.out.mono ?_
    rintro e w5 ⟨rfl, hb5⟩
    have R5 : Hid (Blk w5 (w.heap.size + 1) 26 #[.int .i64 0, .int .i64 0, .slice none 0 0]) := R4.out.below hb5 R4.out.lt
    have K5 : Hid (Blk w5 u2.heap.size 26 #[.int .i64 (W : Int), .int .i64 (H : Int), .slice (some ⟨gr, 0, none⟩) N c2]) := K4.out.below hb5 K4.out.lt
    have V5 : Hid (Below w.heap.size w w5) := V4.out.trans (hb5.mono V4.out.size)
    have O5 : Hid (w5.ownsRow w'.heap.size 30 1 (.slice (some ⟨gr, 0, none⟩) N c2) N (Hf.map fv)) := own_below O4.out hb5
    clear hb5 f0 f1 f2 R4 V4 K4 O4 IS4
    go_wp2_with (first
      | (refine wpList_load_blk rfl _ _ rfl u2.heap.size 0 rfl 26 _ K5.out [.int .i64 (W : Int), .int .i64 (H : Int), .slice (some ⟨gr, 0, none⟩) N c2] rfl _ Try.underlying26 rfl (by kernel_rfl) ?_)
      | (refine wpList_store_blk rfl _ _ _ rfl (w.heap.size + 1) 0 rfl _ rfl [.int .i64 (W : Int), .int .i64 (H : Int), .slice (some ⟨gr, 0, none⟩) N c2] rfl 26 _ #[.int .i64 (W : Int), .int .i64 (H : Int), .slice (some ⟨gr, 0, none⟩) N c2] R5.out (by kernel_rfl) (by simp) (by simp [Value.oneCell']) rfl ?_; intro w9 k9 g9)
      | fail)
    refine bodyPost_ret (results_row3 rfl _ w9 (w.heap.size + 1) 26 _ _ rfl k9 Try.underlying26 rfl (by kernel_rfl) _ _ rfl rfl) rfl ?_
    refine ⟨Hf, m, HRUN.out, .inl ⟨HFIN.out, some ⟨gr, 0, none⟩, c2, ?_, ?_, V5.out.grown g9 V5.out.size (fun j e => by injection e with e; omega)⟩⟩
    · rw [HLF.out]
      rfl
    · rw [HLF.out]
      exact own_base (own_grown' O5.out g9 (own_blk_ne O5.out R5.out (by decide))) hbase
set_option maxRecDepth 100000 in
set_option maxHeartbeats 4000000 in
theorem implDropOn_no (W H x y st : Int) (tk lv : Nat) (A : Option Addr) (n c : Nat) (xs : List Nat) (w : World) (hn : n ≤ maxLen) (hA : Rd w w.heap.size 1 A n (xs.map fv)) (hno : okDrop W H xs x y st tk lv = false) :
    Calls Try.prog 9 #[sheetV W H A n c, .int .i64 x, .int .i64 y, .int .i64 st, .float .f32 tk, .float .f32 lv] w (SrRes 0 0 [] 0 false w) := by
  obtain ⟨v, ev⟩ : ∃ v, v = (w.alloc (.cells #[.int .i64 W, .int .i64 H, .slice A n c] 26)).alloc (.cells #[.int .i64 0, .int .i64 0, .slice none 0 0] 26) := ⟨_, rfl⟩
  have K0 : Blk v w.heap.size 26 #[.int .i64 W, .int .i64 H, .slice A n c] := by rw [ev]; exact (Blk.new w _ _).alloc _
  have R0 : Hid (Blk v (w.heap.size + 1) 26 #[.int .i64 0, .int .i64 0, .slice none 0 0]) := by rw [ev]; exact Blk.new2 _ _ _ _
  have V0 : Hid (Below w.heap.size w v) := by rw [ev]; exact ((Below.refl _ _).alloc (Nat.le_refl _) _).alloc (by simp) _
  have hgl : w.heap.size < v.heap.size := K0.lt
  have k0 : ∀ w', Below v.heap.size v w' → w'.cell? ⟨w.heap.size, 0, none⟩ = some (.int .i64 W) ∧ w'.cell? ⟨w.heap.size, 1, none⟩ = some (.int .i64 H) ∧ w'.cell? ⟨w.heap.size, 2, none⟩ = some (.slice A n c) := fun w' h => ⟨(h.cell hgl).trans (K0.cell 0), (h.cell hgl).trans (K0.cell 1), (h.cell hgl).trans (K0.cell 2)⟩
  have KC := Lib.hid k0
  obtain ⟨b0, b1, b2⟩ := k0 v (Below.refl _ _)
  rw [ev] at b0 b1 b2
  have hg1 : ¬ w.heap.size = w.heap.size + 1 := by omega
  have A0 : Rd v v.heap.size 1 A n (xs.map fv) := (hA.below V0.out).more V0.out.size
  have IS0 := Lib.hid (areDrops_any W H st tk lv A n c xs v hn A0)
  have L1 := Lib.hid (fun w => within_any x 0 (W - 1) w)
  have L2 := Lib.hid (fun w => within_any y 0 (H - 1) w)
  have EV := Lib.hid ev
  have HS : Hid ((okSheet W H xs && inB st 0 128 && (okTake tk && okShare lv)) = true → 1 ≤ W ∧ W ≤ 17 ∧ 1 ≤ H ∧ H ≤ 17) := fun h => by
    simp only [Bool.and_eq_true] at h
    have := okSheet_sides h.1.1
    exact ⟨this.1, this.2.1, this.2.2.1, this.2.2.2.1⟩
  have hno' : ((okSheet W H xs && inB st 0 128 && (okTake tk && okShare lv)) && inB x 0 (W - 1) && inB y 0 (H - 1)) = false := by
    unfold okDrop at hno
    revert hno
    cases okSheet W H xs <;> cases inB st 0 128 <;> cases inB x 0 (W - 1) <;> cases inB y 0 (H - 1) <;> cases okTake tk <;> cases okShare lv <;> simp
  unfold sheetV
  clear ev K0 A0 hA hn k0 hno
  generalize (okSheet W H xs && inB st 0 128 && (okTake tk && okShare lv)) = q0 at *
  generalize inB x 0 (W - 1) = q1 at *
  generalize inB y 0 (H - 1) = q2 at *
  cases q0
  · clear hno'
    go_enter Try.func9, Try.ntmps9
    go_wp2_with fail
    rw [← EV.out]
    refine IS0.out.mono ?_
    rintro e w1 ⟨rfl, hb1⟩
    have R1 := Lib.hid (R0.out.below hb1 R0.out.lt)
    have V1 := Lib.hid (V0.out.trans (hb1.mono V0.out.size))
    obtain ⟨d0, d1, d2⟩ := KC.out w1 hb1
    clear hb1
    go_wp2_with (first
      | (refine wpList_store_blk rfl _ _ _ rfl (w.heap.size + 1) 0 rfl _ rfl [.int .i64 0, .int .i64 0, .slice none 0 0] rfl 26 _ #[.int .i64 0, .int .i64 0, .slice none 0 0] R1.out (by kernel_rfl) (by simp) (by simp [Value.oneCell']) rfl ?_; intro w9 k9 g9)
      | fail)
    refine bodyPost_ret (results_row3 rfl _ w9 (w.heap.size + 1) 26 _ _ rfl k9 Try.underlying26 rfl (by kernel_rfl) _ _ rfl rfl) rfl ?_
    exact srRes_no (V1.out.grown g9 V1.out.size (fun j e => by injection e with e; omega))
  obtain ⟨s1, s2, s3, s4⟩ := HS.out rfl
  cases q1
  · clear hno'
    go_enter Try.func9, Try.ntmps9
    go_wp2_with fail
    rw [← EV.out]
    refine IS0.out.mono ?_
    rintro e w1 ⟨rfl, hb1⟩
    have R1 := Lib.hid (R0.out.below hb1 R0.out.lt)
    have V1 := Lib.hid (V0.out.trans (hb1.mono V0.out.size))
    obtain ⟨d0, d1, d2⟩ := KC.out w1 hb1
    clear hb1
    go_wp2_with fail
    refine (L1.out _).mono ?_
    rintro e w1 ⟨rfl, hw1⟩
    obtain rfl := hw1
    go_wp2_with (first
      | (refine wpList_store_blk rfl _ _ _ rfl (w.heap.size + 1) 0 rfl _ rfl [.int .i64 0, .int .i64 0, .slice none 0 0] rfl 26 _ #[.int .i64 0, .int .i64 0, .slice none 0 0] R1.out (by kernel_rfl) (by simp) (by simp [Value.oneCell']) rfl ?_; intro w9 k9 g9)
      | fail)
    refine bodyPost_ret (results_row3 rfl _ w9 (w.heap.size + 1) 26 _ _ rfl k9 Try.underlying26 rfl (by kernel_rfl) _ _ rfl rfl) rfl ?_
    exact srRes_no (V1.out.grown g9 V1.out.size (fun j e => by injection e with e; omega))
  cases q2
  · clear hno'
    go_enter Try.func9, Try.ntmps9
    go_wp2_with fail
    rw [← EV.out]
    refine IS0.out.mono ?_
    rintro e w1 ⟨rfl, hb1⟩
    have R1 := Lib.hid (R0.out.below hb1 R0.out.lt)
    have V1 := Lib.hid (V0.out.trans (hb1.mono V0.out.size))
    obtain ⟨d0, d1, d2⟩ := KC.out w1 hb1
    clear hb1
    go_wp2_with fail
    refine (L1.out _).mono ?_
    rintro e w1 ⟨rfl, hw1⟩
    obtain rfl := hw1
    go_wp2_with fail
    refine (L2.out _).mono ?_
    rintro e w1 ⟨rfl, hw1⟩
    obtain rfl := hw1
    go_wp2_with (first
      | (refine wpList_store_blk rfl _ _ _ rfl (w.heap.size + 1) 0 rfl _ rfl [.int .i64 0, .int .i64 0, .slice none 0 0] rfl 26 _ #[.int .i64 0, .int .i64 0, .slice none 0 0] R1.out (by kernel_rfl) (by simp) (by simp [Value.oneCell']) rfl ?_; intro w9 k9 g9)
      | fail)
    refine bodyPost_ret (results_row3 rfl _ w9 (w.heap.size + 1) 26 _ _ rfl k9 Try.underlying26 rfl (by kernel_rfl) _ _ rfl rfl) rfl ?_
    exact srRes_no (V1.out.grown g9 V1.out.size (fun j e => by injection e with e; omega))
  · cases hno'
end Go.Proofs.Ytoibgpmpngccjaa
