/- Walk: the law on DropsOn. (printed by gen_law.py) -/
import Derived.Test.YtefbjiipkoofkaaHu
namespace Go.Proofs.Ytefbjiipkoofkaa
open Go.RowKit

set_option maxRecDepth 100000 in
set_option maxHeartbeats 400000 in
theorem lawDropsOn_long (wd hi : Int) (p0 : Int) (p1 : Int) (p2 : Nat) (p3 : Nat) (p4 : Int) (A : Option Addr) (n c : Nat) (w : World) (hn : n ≤ maxLen) (hbig : 1048576 < n) :
    Calls Try.prog 4 #[.agg #[.int .i64 wd, .int .i64 hi, .slice A n c], .int .i64 p0, .int .i64 p1, .float .f32 p2, .float .f32 p3, .int .i64 p4] w fun e w' => e = .returned (.bool true) ∧ Below w.heap.size w w' := by
  have HW : Hid (Below w.heap.size w (w.alloc (.cells #[.int .i64 wd, .int .i64 hi, .slice A n c] 24))) := (Below.refl _ _).alloc (Nat.le_refl _) _
  go_enter Try.func4, Try.ntmps4
  go_wp2_with fail
  refine (szSheet_any wd hi A n c 1048576 _ hn (by omega) (by omega)).mono ?_
  rintro e w1 ⟨rfl, hb1⟩
  rw [if_pos (by omega)]
  go_wp2
  go_ret
  exact ⟨rfl, HW.out.trans (hb1.mono (by simp))⟩

set_option maxRecDepth 100000 in
set_option maxHeartbeats 8000000 in
theorem lawDropsOn_any (wd hi : Int) (p0 : Int) (p1 : Int) (p2 : Nat) (p3 : Nat) (p4 : Int) (A : Option Addr) (n c : Nat) (cs : List Nat) (w : World) (hn : n ≤ 1048576) (hl : cs.length = n) (hA : Rd w w.heap.size 1 A n (cs.map fv)) :
    Calls Try.prog 4 #[.agg #[.int .i64 wd, .int .i64 hi, .slice A n c], .int .i64 p0, .int .i64 p1, .float .f32 p2, .float .f32 p3, .int .i64 p4] w fun e w' => e = .returned (.bool true) ∧ Below w.heap.size w w' := by
  obtain ⟨rw0, rh0, C0, x1, b2, hT0, hspec, himpl⟩ := dropsOn_pair wd hi p0 p1 p2 p3 p4 cs (by rw [hl]; unfold maxLen; omega)
  rw [hl] at hspec himpl
  obtain ⟨v, ev⟩ : ∃ v, v = w.alloc (.cells #[.int .i64 wd, .int .i64 hi, .slice A n c] 24) := ⟨_, rfl⟩
  have hbk : Blk v w.heap.size 24 #[.int .i64 wd, .int .i64 hi, .slice A n c] := ev ▸ Blk.new w _ _
  have hwv : Below w.heap.size w v := ev ▸ (Below.refl _ _).alloc (Nat.le_refl _) _
  have hvz : v.heap.size = w.heap.size + 1 := by rw [ev]; simp
  have hAv : Rd v v.heap.size 1 A n (cs.map fv) := (hA.below hwv).more (by omega)
  have hgl := hbk.lt
  have k : ∀ w', Below v.heap.size v w' → w'.cell? ⟨w.heap.size, 0, none⟩ = some (.int .i64 wd) ∧ w'.cell? ⟨w.heap.size, 1, none⟩ = some (.int .i64 hi) ∧ w'.cell? ⟨w.heap.size, 2, none⟩ = some (.slice A n c) := fun w' h => ⟨(h.cell hgl).trans (hbk.cell 0), (h.cell hgl).trans (hbk.cell 1), (h.cell hgl).trans (hbk.cell 2)⟩
  have KB := Lib.hid k
  have EV := Lib.hid ev
  have HWV := Lib.hid hwv
  have HAV := Lib.hid hAv
  have HS := Lib.hid hspec
  have HI := Lib.hid himpl
  clear k ev hwv hAv hspec himpl hbk hA hl
  have hM0 : C0.length ≤ maxLen := by unfold maxLen; omega
  go_enter Try.func4, Try.ntmps4
  go_wp2_with fail
  rw [← EV.out]
  refine (szSheet_any wd hi A n c 1048576 _ (by unfold maxLen; omega) (by omega) (by omega)).mono ?_
  rintro e w1 ⟨rfl, hb⟩
  rw [if_neg (by omega)]
  have z_w1 := hb.size
  have V_1 := Lib.hid (hb)
  clear hb
  obtain ⟨d0, d1, d2⟩ := KB.out _ V_1.out
  go_wp2_with fail
  refine (toSheet_any wd hi A n c cs _ hn ((HAV.out.below V_1.out).more (by omega))).mono ?_
  rintro e w2 ⟨A_xs, rfl, ho, hb⟩
  clear d0 d1 d2
  have z_w2 := hb.size
  have V_2 := Lib.hid (V_1.out.trans (hb.mono (by omega)))
  have H_3 := Lib.hid (ho)
  clear V_1 ho hb
  go_wp2_with fail
  refine (HS.out A_xs n w2 (Rd.own H_3.out)).mono ?_
  rintro e w3 ⟨A_w0, c_w0, rfl, ho0, hb⟩
  have D_4 := Lib.hid (Dis.of_lt ho0 (Old.own H_3.out))
  have z_w3 := hb.size
  have V_5 := Lib.hid (V_2.out.trans (hb.mono (by omega)))
  have H_6 := Lib.hid (own_below H_3.out hb)
  have H_7 := Lib.hid (ho0)
  clear V_2 H_3 hb ho0
  unfold sheetV
  clear H_6 D_4
  go_wp2_with (first
    | (refine wpList_store_blk rfl _ _ _ rfl w3.heap.size 0 rfl _ rfl [.int .i64 rw0, .int .i64 rh0, .slice A_w0 C0.length c_w0] rfl 27 #[.int .i64 0, .int .i64 0, .slice none 0 0] #[.int .i64 rw0, .int .i64 rh0, .slice A_w0 C0.length c_w0] (Blk.new _ _ _) (by kernel_rfl) (by simp) (by simp [Value.oneCell']) rfl ?_; intro w4 kb_w0 gb_w0
       have hvb := below_boxed V_5.out (by omega) gb_w0
       obtain ⟨d0, d1, d2⟩ := KB.out _ hvb
       clear hvb)
    | fail)
  have z_w4 := gb_w0.size
  simp only [World.size_alloc] at z_w4
  have V_8 := Lib.hid (below_boxed V_5.out (by omega) gb_w0)
  have H_9 := Lib.hid (own_boxed H_7.out gb_w0)
  have H_10 := Lib.hid (kb_w0)
  clear V_5 H_7 gb_w0 kb_w0
  refine (toSheet_any wd hi A n c cs _ hn ((HAV.out.below V_8.out).more (by omega))).mono ?_
  rintro e w5 ⟨A_x, rfl, ho, hb⟩
  clear d0 d1 d2
  have D_11 := Lib.hid (Dis.of_lt ho (Old.own H_9.out))
  have z_w5 := hb.size
  have V_12 := Lib.hid (V_8.out.trans (hb.mono (by omega)))
  have H_13 := Lib.hid (own_below H_9.out hb)
  have H_14 := Lib.hid (H_10.out.below hb H_10.out.lt)
  have H_15 := Lib.hid (ho)
  clear V_8 H_9 H_10 ho hb
  unfold sheetV
  go_wp2_with (first
    | (refine wpList_store_blk rfl _ _ _ rfl w5.heap.size 0 rfl _ rfl [.int .i64 wd, .int .i64 hi, .slice A_x n n] rfl 27 #[.int .i64 0, .int .i64 0, .slice none 0 0] #[.int .i64 wd, .int .i64 hi, .slice A_x n n] (Blk.new _ _ _) (by kernel_rfl) (by simp) (by simp [Value.oneCell']) rfl ?_; intro w6 kb_x0 gb_x0)
    | (refine wpList_load_blk rfl _ _ rfl w5.heap.size 0 rfl 27 _ kb_x0 [.int .i64 wd, .int .i64 hi, .slice A_x n n] rfl _ Try.underlying27 rfl (by kernel_rfl) ?_)
    | fail)
  have z_w6 := gb_x0.size
  simp only [World.size_alloc] at z_w6
  have V_16 := Lib.hid (below_boxed V_12.out (by omega) gb_x0)
  have H_17 := Lib.hid (own_boxed H_13.out gb_x0)
  have H_18 := Lib.hid (own_boxed H_15.out gb_x0)
  have H_19 := Lib.hid (blk_boxed H_14.out gb_x0)
  have H_20 := Lib.hid (kb_x0)
  clear V_12 H_13 H_15 H_14 gb_x0 kb_x0
  refine (HI.out A_x n w6 (Rd.own H_18.out)).mono ?_
  rintro e w7 ⟨A_g0, c_g0, rfl, ho0, hb⟩
  have D_21 := Lib.hid (Dis.of_lt ho0 (Old.own H_17.out))
  have D_22 := Lib.hid (Dis.of_lt ho0 (Old.own H_18.out))
  have z_w7 := hb.size
  have V_23 := Lib.hid (V_16.out.trans (hb.mono (by omega)))
  have H_24 := Lib.hid (own_below H_17.out hb)
  have H_25 := Lib.hid (own_below H_18.out hb)
  have H_26 := Lib.hid (H_19.out.below hb H_19.out.lt)
  have H_27 := Lib.hid (H_20.out.below hb H_20.out.lt)
  have H_28 := Lib.hid (ho0)
  clear V_16 H_17 H_18 H_19 H_20 hb ho0
  unfold sheetV
  go_wp2_with (first
    | (refine wpList_store_blk rfl _ _ _ rfl w7.heap.size 0 rfl _ rfl [.int .i64 rw0, .int .i64 rh0, .slice A_g0 C0.length c_g0] rfl 27 #[.int .i64 0, .int .i64 0, .slice none 0 0] #[.int .i64 rw0, .int .i64 rh0, .slice A_g0 C0.length c_g0] (Blk.new _ _ _) (by kernel_rfl) (by simp) (by simp [Value.oneCell']) rfl ?_; intro w8 kb_g0 gb_g0)
    | (refine wpList_load_blk rfl _ _ rfl w7.heap.size 0 rfl 27 _ kb_g0 [.int .i64 rw0, .int .i64 rh0, .slice A_g0 C0.length c_g0] rfl _ Try.underlying27 rfl (by kernel_rfl) ?_)
    | (refine wpList_load_blk rfl _ _ rfl w3.heap.size 0 rfl 27 _ (blk_boxed H_26.out gb_g0) [.int .i64 rw0, .int .i64 rh0, .slice A_w0 C0.length c_w0] rfl _ Try.underlying27 rfl (by kernel_rfl) ?_)
    | fail)
  have z_w8 := gb_g0.size
  simp only [World.size_alloc] at z_w8
  have V_29 := Lib.hid (below_boxed V_23.out (by omega) gb_g0)
  have H_30 := Lib.hid (own_boxed H_24.out gb_g0)
  have H_31 := Lib.hid (own_boxed H_25.out gb_g0)
  have H_32 := Lib.hid (own_boxed H_28.out gb_g0)
  have H_33 := Lib.hid (blk_boxed H_26.out gb_g0)
  have H_34 := Lib.hid (blk_boxed H_27.out gb_g0)
  have H_35 := Lib.hid (kb_g0)
  clear V_23 H_24 H_25 H_28 H_26 H_27 gb_g0 kb_g0
  refine (eqSheet_same rw0 rh0 A_g0 A_w0 C0.length c_g0 c_w0 C0 _ hM0 (Rd.own H_32.out) (Rd.own H_30.out)).mono ?_
  rintro e w9 ⟨rfl, hb⟩
  have z_w9 := hb.size
  have V_36 := Lib.hid (V_29.out.trans (hb.mono (by omega)))
  have H_37 := Lib.hid (own_below H_30.out hb)
  have H_38 := Lib.hid (own_below H_31.out hb)
  have H_39 := Lib.hid (own_below H_32.out hb)
  have H_40 := Lib.hid (H_33.out.below hb H_33.out.lt)
  have H_41 := Lib.hid (H_34.out.below hb H_34.out.lt)
  have H_42 := Lib.hid (H_35.out.below hb H_35.out.lt)
  clear V_29 H_30 H_31 H_32 H_33 H_34 H_35 hb
  go_wp2_with (first
    | (refine wpList_load_blk rfl _ _ rfl w3.heap.size 0 rfl 27 _ H_40.out [.int .i64 rw0, .int .i64 rh0, .slice A_w0 C0.length c_w0] rfl _ Try.underlying27 rfl (by kernel_rfl) ?_)
    | (refine wpList_load_blk rfl _ _ rfl w5.heap.size 0 rfl 27 _ H_41.out [.int .i64 wd, .int .i64 hi, .slice A_x n n] rfl _ Try.underlying27 rfl (by kernel_rfl) ?_)
    | (refine wpList_load_blk rfl _ _ rfl w7.heap.size 0 rfl 27 _ H_42.out [.int .i64 rw0, .int .i64 rh0, .slice A_g0 C0.length c_g0] rfl _ Try.underlying27 rfl (by kernel_rfl) ?_)
    | fail)
  have SB : Hid (∀ w', Below w9.heap.size w9 w' → w'.cell? ⟨w5.heap.size, 0, none⟩ = some (.int .i64 wd) ∧ w'.cell? ⟨w5.heap.size, 1, none⟩ = some (.int .i64 hi) ∧ w'.cell? ⟨w5.heap.size, 2, none⟩ = some (.slice A_x n n) ∧ w'.cell? ⟨w.heap.size, 0, none⟩ = some (.int .i64 wd) ∧ w'.cell? ⟨w.heap.size, 1, none⟩ = some (.int .i64 hi) ∧ w'.cell? ⟨w.heap.size, 2, none⟩ = some (.slice A n c) ∧ Below w9.heap.size w9 w') := fun w' h => by
    have q := KB.out w' (V_36.out.trans (h.mono (by omega)))
    have lt := H_41.out.lt
    exact ⟨(h.cell lt).trans (H_41.out.cell 0), (h.cell lt).trans (H_41.out.cell 1), (h.cell lt).trans (H_41.out.cell 2), q.1, q.2.1, q.2.2, h⟩
  have RA : Hid (Rd w9.drew w9.drew.heap.size 1 A n (cs.map fv)) := (HAV.out.below V_36.out.drew).more (by show _ ≤ w9.heap.size; omega)
  go_region_held3 (fun w' => w'.cell? ⟨w5.heap.size, 0, none⟩ = some (.int .i64 wd) ∧ w'.cell? ⟨w5.heap.size, 1, none⟩ = some (.int .i64 hi) ∧ w'.cell? ⟨w5.heap.size, 2, none⟩ = some (.slice A_x n n) ∧ w'.cell? ⟨w.heap.size, 0, none⟩ = some (.int .i64 wd) ∧ w'.cell? ⟨w.heap.size, 1, none⟩ = some (.int .i64 hi) ∧ w'.cell? ⟨w.heap.size, 2, none⟩ = some (.slice A n c) ∧ Below w9.heap.size w9 w')
    (first | exact SB.out _ (Below.refl _ _).drew | exact SB.out _ ((Below.refl _ _).drew.trans hb8) | exact SB.out _ (((Below.refl _ _).drew.trans hb8).trans (hb9.mono z8)))
    (first
      | (go_at_call 7; refine (toSheet_any wd hi A n c cs _ hn RA.out).mono ?_; rintro e w10 ⟨A8, rfl, ho8, hb8⟩; have z8 := hb8.size; unfold sheetV)
      | (go_at_call 9; refine (eqSheet_same wd hi A_x A8 n n n cs _ (by unfold maxLen; omega) (Rd.own (own_below (w := w9.drew) H_38.out hb8)) (Rd.own ho8)).mono ?_; rintro e w11 ⟨rfl, hb9⟩))
  have z8 := hb8.size
  have z8' : w9.heap.size ≤ w10.heap.size := z8
  have z9 := hb9.size
  have B9 : Below w9.heap.size w9 w11 := ((Below.refl _ _).drew.trans hb8).trans (hb9.mono z8)
  have z_w11 := B9.size
  have V_43 := Lib.hid (V_36.out.trans (B9.mono (by omega)))
  have H_44 := Lib.hid (own_below H_37.out B9)
  have H_45 := Lib.hid (own_below H_38.out B9)
  have H_46 := Lib.hid (own_below H_39.out B9)
  have H_47 := Lib.hid (H_40.out.below B9 H_40.out.lt)
  have H_48 := Lib.hid (H_41.out.below B9 H_41.out.lt)
  have H_49 := Lib.hid (H_42.out.below B9 H_42.out.lt)
  clear V_36 H_37 H_38 H_39 H_40 H_41 H_42 hb8 hb9 ho8 SB RA B9
  go_wp2_with (first
    | (refine wpList_load_blk rfl _ _ rfl w3.heap.size 0 rfl 27 _ H_47.out [.int .i64 rw0, .int .i64 rh0, .slice A_w0 C0.length c_w0] rfl _ Try.underlying27 rfl (by kernel_rfl) ?_)
    | (refine wpList_load_blk rfl _ _ rfl w5.heap.size 0 rfl 27 _ H_48.out [.int .i64 wd, .int .i64 hi, .slice A_x n n] rfl _ Try.underlying27 rfl (by kernel_rfl) ?_)
    | (refine wpList_load_blk rfl _ _ rfl w7.heap.size 0 rfl 27 _ H_49.out [.int .i64 rw0, .int .i64 rh0, .slice A_g0 C0.length c_g0] rfl _ Try.underlying27 rfl (by kernel_rfl) ?_)
    | fail)
  refine (markSheet_any wd hi A_x n n 1 _ _ _ (by omega) H_45.out).mono ?_
  rintro e w12 ⟨rfl, hm, hg⟩
  have z_w12 := hg.size
  have V_50 := Lib.hid (V_43.out.grown hg (by omega) (fun k e => by have := (H_45.out.lt k e).1; omega))
  have H_51 := Lib.hid (own_kept H_44.out hg (D_11.out.symm))
  have H_52 := Lib.hid (own_kept H_46.out hg (D_22.out))
  have H_53 := Lib.hid (H_47.out.grown hg (own_blk_ne H_45.out H_47.out (by decide)))
  have H_54 := Lib.hid (H_48.out.grown hg (own_blk_ne H_45.out H_48.out (by decide)))
  have H_55 := Lib.hid (H_49.out.grown hg (own_blk_ne H_45.out H_49.out (by decide)))
  clear V_43 H_44 H_46 H_47 H_48 H_49 hm hg
  clear H_45 D_11 D_22
  clear H_54
  have c_w0_0 : w12.cell? ⟨w3.heap.size, 0, none⟩ = some (.int .i64 rw0) := H_53.out.cell 0
  have c_w0_1 : w12.cell? ⟨w3.heap.size, 1, none⟩ = some (.int .i64 rh0) := H_53.out.cell 1
  have c_w0_2 : w12.cell? ⟨w3.heap.size, 2, none⟩ = some (.slice A_w0 C0.length c_w0) := H_53.out.cell 2
  have c_g0_0 : w12.cell? ⟨w7.heap.size, 0, none⟩ = some (.int .i64 rw0) := H_55.out.cell 0
  have c_g0_1 : w12.cell? ⟨w7.heap.size, 1, none⟩ = some (.int .i64 rh0) := H_55.out.cell 1
  have c_g0_2 : w12.cell? ⟨w7.heap.size, 2, none⟩ = some (.slice A_g0 C0.length c_g0) := H_55.out.cell 2
  go_wp2_with fail
  refine (eqSheet_same rw0 rh0 A_g0 A_w0 C0.length c_g0 c_w0 C0 _ hM0 (Rd.own H_52.out) (Rd.own H_51.out)).mono ?_
  rintro e w13 ⟨rfl, hb⟩
  have z_w13 := hb.size
  have V_56 := Lib.hid (V_50.out.trans (hb.mono (by omega)))
  have H_57 := Lib.hid (own_below H_51.out hb)
  have H_58 := Lib.hid (own_below H_52.out hb)
  have H_59 := Lib.hid (H_53.out.below hb H_53.out.lt)
  have H_60 := Lib.hid (H_55.out.below hb H_55.out.lt)
  clear V_50 H_51 H_52 H_53 H_55 hb
  clear c_w0_0 c_w0_1 c_w0_2 c_g0_0 c_g0_1 c_g0_2
  go_wp2_with (first
    | (refine wpList_load_blk rfl _ _ rfl w3.heap.size 0 rfl 27 _ H_59.out [.int .i64 rw0, .int .i64 rh0, .slice A_w0 C0.length c_w0] rfl _ Try.underlying27 rfl (by kernel_rfl) ?_)
    | (refine wpList_load_blk rfl _ _ rfl w7.heap.size 0 rfl 27 _ H_60.out [.int .i64 rw0, .int .i64 rh0, .slice A_g0 C0.length c_g0] rfl _ Try.underlying27 rfl (by kernel_rfl) ?_)
    | fail)
  refine (markSheet_any rw0 rh0 A_g0 C0.length c_g0 (1) _ _ _ (by omega) H_58.out).mono ?_
  rintro e w14 ⟨rfl, hm, hg⟩
  have z_w14 := hg.size
  have V_61 := Lib.hid (V_56.out.grown hg (by omega) (fun k e => by have := (H_58.out.lt k e).1; omega))
  have H_62 := Lib.hid (own_kept H_57.out hg (D_21.out.symm))
  have H_63 := Lib.hid (H_59.out.grown hg (own_blk_ne H_58.out H_59.out (by decide)))
  have H_64 := Lib.hid (H_60.out.grown hg (own_blk_ne H_58.out H_60.out (by decide)))
  have H_65 := Lib.hid (hm)
  clear V_56 H_57 H_59 H_60 H_58 hm hg
  go_wp2_with (first
    | (refine wpList_load_blk rfl _ _ rfl w3.heap.size 0 rfl 27 _ H_63.out [.int .i64 rw0, .int .i64 rh0, .slice A_w0 C0.length c_w0] rfl _ Try.underlying27 rfl (by kernel_rfl) ?_)
    | (refine wpList_load_blk rfl _ _ rfl w7.heap.size 0 rfl 27 _ H_64.out [.int .i64 rw0, .int .i64 rh0, .slice A_g0 C0.length c_g0] rfl _ Try.underlying27 rfl (by kernel_rfl) ?_)
    | fail)
  refine (heldSheet_any rw0 rh0 A_g0 C0.length c_g0 (1) _ (by omega) (Rd.own H_65.out)).mono ?_
  rintro e w15 ⟨rfl, hb⟩
  have z_w15 := hb.size
  have V_66 := Lib.hid (V_61.out.trans (hb.mono (by omega)))
  have H_67 := Lib.hid (own_below H_62.out hb)
  have H_68 := Lib.hid (own_below H_65.out hb)
  have H_69 := Lib.hid (H_63.out.below hb H_63.out.lt)
  have H_70 := Lib.hid (H_64.out.below hb H_64.out.lt)
  clear V_61 H_62 H_65 H_63 H_64 hb
  obtain ⟨d0, d1, d2⟩ := KB.out _ V_66.out
  go_wp2_with (first
    | (refine wpList_load_blk rfl _ _ rfl w3.heap.size 0 rfl 27 _ H_69.out [.int .i64 rw0, .int .i64 rh0, .slice A_w0 C0.length c_w0] rfl _ Try.underlying27 rfl (by kernel_rfl) ?_)
    | (refine wpList_load_blk rfl _ _ rfl w7.heap.size 0 rfl 27 _ H_70.out [.int .i64 rw0, .int .i64 rh0, .slice A_g0 C0.length c_g0] rfl _ Try.underlying27 rfl (by kernel_rfl) ?_)
    | fail)
  refine (toSheet_any wd hi A n c cs _ hn ((HAV.out.below V_66.out).more (by omega))).mono ?_
  rintro e w16 ⟨A_y, rfl, ho, hb⟩
  clear d0 d1 d2
  have D_71 := Lib.hid (Dis.of_lt ho (Old.own H_67.out))
  have D_72 := Lib.hid (Dis.of_lt ho (Old.own H_68.out))
  have z_w16 := hb.size
  have V_73 := Lib.hid (V_66.out.trans (hb.mono (by omega)))
  have H_74 := Lib.hid (own_below H_67.out hb)
  have H_75 := Lib.hid (own_below H_68.out hb)
  have H_76 := Lib.hid (H_69.out.below hb H_69.out.lt)
  have H_77 := Lib.hid (H_70.out.below hb H_70.out.lt)
  have H_78 := Lib.hid (ho)
  clear V_66 H_67 H_68 H_69 H_70 ho hb
  go_wp2_with (first
    | (refine wpList_load_blk rfl _ _ rfl w3.heap.size 0 rfl 27 _ H_76.out [.int .i64 rw0, .int .i64 rh0, .slice A_w0 C0.length c_w0] rfl _ Try.underlying27 rfl (by kernel_rfl) ?_)
    | (refine wpList_load_blk rfl _ _ rfl w7.heap.size 0 rfl 27 _ H_77.out [.int .i64 rw0, .int .i64 rh0, .slice A_g0 C0.length c_g0] rfl _ Try.underlying27 rfl (by kernel_rfl) ?_)
    | fail)
  refine (HI.out A_y n w16 (Rd.own H_78.out)).mono ?_
  rintro e w17 ⟨A_h0, c_h0, rfl, ho0, hb⟩
  have D_79 := Lib.hid (Dis.of_lt ho0 (Old.own H_74.out))
  have D_80 := Lib.hid (Dis.of_lt ho0 (Old.own H_75.out))
  have D_81 := Lib.hid (Dis.of_lt ho0 (Old.own H_78.out))
  have z_w17 := hb.size
  have V_82 := Lib.hid (V_73.out.trans (hb.mono (by omega)))
  have H_83 := Lib.hid (own_below H_74.out hb)
  have H_84 := Lib.hid (own_below H_75.out hb)
  have H_85 := Lib.hid (own_below H_78.out hb)
  have H_86 := Lib.hid (H_76.out.below hb H_76.out.lt)
  have H_87 := Lib.hid (H_77.out.below hb H_77.out.lt)
  have H_88 := Lib.hid (ho0)
  clear V_73 H_74 H_75 H_78 H_76 H_77 hb ho0
  unfold sheetV
  clear H_85 D_71 D_72 D_81
  go_wp2_with (first
    | (refine wpList_store_blk rfl _ _ _ rfl w17.heap.size 0 rfl _ rfl [.int .i64 rw0, .int .i64 rh0, .slice A_h0 C0.length c_h0] rfl 27 #[.int .i64 0, .int .i64 0, .slice none 0 0] #[.int .i64 rw0, .int .i64 rh0, .slice A_h0 C0.length c_h0] (Blk.new _ _ _) (by kernel_rfl) (by simp) (by simp [Value.oneCell']) rfl ?_; intro w18 kb_h0 gb_h0)
    | (refine wpList_load_blk rfl _ _ rfl w17.heap.size 0 rfl 27 _ kb_h0 [.int .i64 rw0, .int .i64 rh0, .slice A_h0 C0.length c_h0] rfl _ Try.underlying27 rfl (by kernel_rfl) ?_)
    | (refine wpList_load_blk rfl _ _ rfl w3.heap.size 0 rfl 27 _ (blk_boxed H_86.out gb_h0) [.int .i64 rw0, .int .i64 rh0, .slice A_w0 C0.length c_w0] rfl _ Try.underlying27 rfl (by kernel_rfl) ?_)
    | fail)
  have z_w18 := gb_h0.size
  simp only [World.size_alloc] at z_w18
  have V_89 := Lib.hid (below_boxed V_82.out (by omega) gb_h0)
  have H_90 := Lib.hid (own_boxed H_83.out gb_h0)
  have H_91 := Lib.hid (own_boxed H_84.out gb_h0)
  have H_92 := Lib.hid (own_boxed H_88.out gb_h0)
  have H_93 := Lib.hid (blk_boxed H_86.out gb_h0)
  have H_94 := Lib.hid (blk_boxed H_87.out gb_h0)
  have H_95 := Lib.hid (kb_h0)
  clear V_82 H_83 H_84 H_88 H_86 H_87 gb_h0 kb_h0
  refine (eqSheet_same rw0 rh0 A_h0 A_w0 C0.length c_h0 c_w0 C0 _ hM0 (Rd.own H_92.out) (Rd.own H_90.out)).mono ?_
  rintro e w19 ⟨rfl, hb⟩
  have z_w19 := hb.size
  have V_96 := Lib.hid (V_89.out.trans (hb.mono (by omega)))
  have H_97 := Lib.hid (own_below H_90.out hb)
  have H_98 := Lib.hid (own_below H_91.out hb)
  have H_99 := Lib.hid (own_below H_92.out hb)
  have H_100 := Lib.hid (H_93.out.below hb H_93.out.lt)
  have H_101 := Lib.hid (H_94.out.below hb H_94.out.lt)
  have H_102 := Lib.hid (H_95.out.below hb H_95.out.lt)
  clear V_89 H_90 H_91 H_92 H_93 H_94 H_95 hb
  go_wp2_with (first
    | (refine wpList_load_blk rfl _ _ rfl w3.heap.size 0 rfl 27 _ H_100.out [.int .i64 rw0, .int .i64 rh0, .slice A_w0 C0.length c_w0] rfl _ Try.underlying27 rfl (by kernel_rfl) ?_)
    | (refine wpList_load_blk rfl _ _ rfl w7.heap.size 0 rfl 27 _ H_101.out [.int .i64 rw0, .int .i64 rh0, .slice A_g0 C0.length c_g0] rfl _ Try.underlying27 rfl (by kernel_rfl) ?_)
    | (refine wpList_load_blk rfl _ _ rfl w17.heap.size 0 rfl 27 _ H_102.out [.int .i64 rw0, .int .i64 rh0, .slice A_h0 C0.length c_h0] rfl _ Try.underlying27 rfl (by kernel_rfl) ?_)
    | fail)
  refine (heldSheet_any rw0 rh0 A_g0 C0.length c_g0 (1) _ (by omega) (Rd.own H_98.out)).mono ?_
  rintro e w20 ⟨rfl, hb⟩
  have z_w20 := hb.size
  have V_103 := Lib.hid (V_96.out.trans (hb.mono (by omega)))
  have H_104 := Lib.hid (own_below H_97.out hb)
  have H_105 := Lib.hid (own_below H_98.out hb)
  have H_106 := Lib.hid (own_below H_99.out hb)
  have H_107 := Lib.hid (H_100.out.below hb H_100.out.lt)
  have H_108 := Lib.hid (H_101.out.below hb H_101.out.lt)
  have H_109 := Lib.hid (H_102.out.below hb H_102.out.lt)
  clear V_96 H_97 H_98 H_99 H_100 H_101 H_102 hb
  go_wp2
  go_ret
  exact ⟨rfl, HWV.out.trans (V_103.out.mono (by omega))⟩
end Go.Proofs.Ytefbjiipkoofkaa
