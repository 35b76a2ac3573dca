/- Walk: the law on FirstPath. (printed by gen_law.py) -/
import Derived.Test.YtoclpjhhjkcejaaFt
namespace Go.Proofs.Ytoclpjhhjkcejaa
open Go.RowKit

set_option maxRecDepth 100000 in
set_option maxHeartbeats 400000 in
theorem lawFirstPath_long (wd hi : Int) (A : Option Addr) (n c : Nat) (w : World) (hn : n ≤ maxLen) (hbig : 1048576 < n) :
    Calls Try.prog 6 #[.agg #[.int .i64 wd, .int .i64 hi, .slice A n c]] w fun e w' => e = .returned (.bool true) ∧ Below w.heap.size w w' := by
  have HW : Hid (Below w.heap.size w (w.alloc (.cells #[.int .i64 wd, .int .i64 hi, .slice A n c] 24))) := (Below.refl _ _).alloc (Nat.le_refl _) _
  go_enter Try.func6, Try.ntmps6
  go_wp2_with fail
  refine (szField_any wd hi A n c 1048576 _ hn (by omega) (by omega)).mono ?_
  rintro e w1 ⟨rfl, hb1⟩
  rw [if_pos (by omega)]
  go_wp2
  go_ret
  exact ⟨rfl, HW.out.trans (hb1.mono (by simp))⟩

set_option maxRecDepth 100000 in
set_option maxHeartbeats 8000000 in
theorem lawFirstPath_any (wd hi : Int) (A : Option Addr) (n c : Nat) (cs : List Bool) (w : World) (hn : n ≤ 1048576) (hl : cs.length = n) (hA : Rd w w.heap.size 1 A n (cs.map bv)) :
    Calls Try.prog 6 #[.agg #[.int .i64 wd, .int .i64 hi, .slice A n c]] w fun e w' => e = .returned (.bool true) ∧ Below w.heap.size w w' := by
  obtain ⟨T0, b1, hT0, hspec, himpl⟩ := firstPath_pair wd hi cs
  rw [hl] at hspec himpl
  obtain ⟨v, ev⟩ : ∃ v, v = w.alloc (.cells #[.int .i64 wd, .int .i64 hi, .slice A n c] 24) := ⟨_, rfl⟩
  have hbk : Blk v w.heap.size 24 #[.int .i64 wd, .int .i64 hi, .slice A n c] := ev ▸ Blk.new w _ _
  have hwv : Below w.heap.size w v := ev ▸ (Below.refl _ _).alloc (Nat.le_refl _) _
  have hvz : v.heap.size = w.heap.size + 1 := by rw [ev]; simp
  have hAv : Rd v v.heap.size 1 A n (cs.map bv) := (hA.below hwv).more (by omega)
  have hgl := hbk.lt
  have k : ∀ w', Below v.heap.size v w' → w'.cell? ⟨w.heap.size, 0, none⟩ = some (.int .i64 wd) ∧ w'.cell? ⟨w.heap.size, 1, none⟩ = some (.int .i64 hi) ∧ w'.cell? ⟨w.heap.size, 2, none⟩ = some (.slice A n c) := fun w' h => ⟨(h.cell hgl).trans (hbk.cell 0), (h.cell hgl).trans (hbk.cell 1), (h.cell hgl).trans (hbk.cell 2)⟩
  have KB := Lib.hid k
  have EV := Lib.hid ev
  have HWV := Lib.hid hwv
  have HAV := Lib.hid hAv
  have HS := Lib.hid hspec
  have HI := Lib.hid himpl
  clear k ev hwv hAv hspec himpl hbk hA hl
  have hM0 : T0.length ≤ maxLen := by unfold maxLen; omega
  go_enter Try.func6, Try.ntmps6
  go_wp2_with fail
  rw [← EV.out]
  refine (szField_any wd hi A n c 1048576 _ (by unfold maxLen; omega) (by omega) (by omega)).mono ?_
  rintro e w1 ⟨rfl, hb⟩
  rw [if_neg (by omega)]
  have z_w1 := hb.size
  have V_1 := Lib.hid (hb)
  clear hb
  obtain ⟨d0, d1, d2⟩ := KB.out _ V_1.out
  go_wp2_with fail
  refine (toField_any wd hi A n c cs _ hn ((HAV.out.below V_1.out).more (by omega))).mono ?_
  rintro e w2 ⟨A_xs, rfl, ho, hb⟩
  clear d0 d1 d2
  have z_w2 := hb.size
  have V_2 := Lib.hid (V_1.out.trans (hb.mono (by omega)))
  have H_3 := Lib.hid (ho)
  clear V_1 ho hb
  go_wp2_with fail
  refine (HS.out A_xs n w2 (Rd.own H_3.out)).mono ?_
  rintro e w3 ⟨A_w0, c_w0, rfl, ho0, hb⟩
  have D_4 := Lib.hid (Dis.of_lt ho0 (Old.own H_3.out))
  have z_w3 := hb.size
  have V_5 := Lib.hid (V_2.out.trans (hb.mono (by omega)))
  have H_6 := Lib.hid (own_below H_3.out hb)
  have H_7 := Lib.hid (ho0)
  clear V_2 H_3 hb ho0
  clear H_6 D_4
  obtain ⟨d0, d1, d2⟩ := KB.out _ V_5.out
  go_wp2_with fail
  refine (toField_any wd hi A n c cs _ hn ((HAV.out.below V_5.out).more (by omega))).mono ?_
  rintro e w4 ⟨A_x, rfl, ho, hb⟩
  clear d0 d1 d2
  have D_8 := Lib.hid (Dis.of_lt ho (Old.own H_7.out))
  have z_w4 := hb.size
  have V_9 := Lib.hid (V_5.out.trans (hb.mono (by omega)))
  have H_10 := Lib.hid (own_below H_7.out hb)
  have H_11 := Lib.hid (ho)
  clear V_5 H_7 ho hb
  unfold fieldV
  go_wp2_with (first
    | (refine wpList_store_blk rfl _ _ _ rfl w4.heap.size 0 rfl _ rfl [.int .i64 wd, .int .i64 hi, .slice A_x n n] rfl 29 #[.int .i64 0, .int .i64 0, .slice none 0 0] #[.int .i64 wd, .int .i64 hi, .slice A_x n n] (Blk.new _ _ _) (by kernel_rfl) (by simp) (by simp [Value.oneCell']) rfl ?_; intro w5 kb_x0 gb_x0)
    | (refine wpList_load_blk rfl _ _ rfl w4.heap.size 0 rfl 29 _ kb_x0 [.int .i64 wd, .int .i64 hi, .slice A_x n n] rfl _ Try.underlying29 rfl (by kernel_rfl) ?_)
    | fail)
  have z_w5 := gb_x0.size
  simp only [World.size_alloc] at z_w5
  have V_12 := Lib.hid (below_boxed V_9.out (by omega) gb_x0)
  have H_13 := Lib.hid (own_boxed H_10.out gb_x0)
  have H_14 := Lib.hid (own_boxed H_11.out gb_x0)
  have H_15 := Lib.hid (kb_x0)
  clear V_9 H_10 H_11 gb_x0 kb_x0
  refine (HI.out A_x n w5 (Rd.own H_14.out)).mono ?_
  rintro e w6 ⟨A_g0, c_g0, rfl, ho0, hb⟩
  have D_16 := Lib.hid (Dis.of_lt ho0 (Old.own H_13.out))
  have D_17 := Lib.hid (Dis.of_lt ho0 (Old.own H_14.out))
  have z_w6 := hb.size
  have V_18 := Lib.hid (V_12.out.trans (hb.mono (by omega)))
  have H_19 := Lib.hid (own_below H_13.out hb)
  have H_20 := Lib.hid (own_below H_14.out hb)
  have H_21 := Lib.hid (H_15.out.below hb H_15.out.lt)
  have H_22 := Lib.hid (ho0)
  clear V_12 H_13 H_14 H_15 hb ho0
  go_wp2_with (first
    | (refine wpList_load_blk rfl _ _ rfl w4.heap.size 0 rfl 29 _ H_21.out [.int .i64 wd, .int .i64 hi, .slice A_x n n] rfl _ Try.underlying29 rfl (by kernel_rfl) ?_)
    | fail)
  refine (eqInt64S_same A_g0 A_w0 T0.length c_g0 c_w0 T0 _ hM0 (Rd.own H_22.out) (Rd.own H_19.out)).mono ?_
  rintro e w7 ⟨rfl, hb⟩
  have z_w7 := hb.size
  have V_23 := Lib.hid (V_18.out.trans (hb.mono (by omega)))
  have H_24 := Lib.hid (own_below H_19.out hb)
  have H_25 := Lib.hid (own_below H_20.out hb)
  have H_26 := Lib.hid (own_below H_22.out hb)
  have H_27 := Lib.hid (H_21.out.below hb H_21.out.lt)
  clear V_18 H_19 H_20 H_22 H_21 hb
  go_wp2_with fail
  have SB : Hid (∀ w', Below w7.heap.size w7 w' → w'.cell? ⟨w4.heap.size, 0, none⟩ = some (.int .i64 wd) ∧ w'.cell? ⟨w4.heap.size, 1, none⟩ = some (.int .i64 hi) ∧ w'.cell? ⟨w4.heap.size, 2, none⟩ = some (.slice A_x n n) ∧ w'.cell? ⟨w.heap.size, 0, none⟩ = some (.int .i64 wd) ∧ w'.cell? ⟨w.heap.size, 1, none⟩ = some (.int .i64 hi) ∧ w'.cell? ⟨w.heap.size, 2, none⟩ = some (.slice A n c) ∧ Below w7.heap.size w7 w') := fun w' h => by
    have q := KB.out w' (V_23.out.trans (h.mono (by omega)))
    have lt := H_27.out.lt
    exact ⟨(h.cell lt).trans (H_27.out.cell 0), (h.cell lt).trans (H_27.out.cell 1), (h.cell lt).trans (H_27.out.cell 2), q.1, q.2.1, q.2.2, h⟩
  have RA : Hid (Rd w7.drew w7.drew.heap.size 1 A n (cs.map bv)) := (HAV.out.below V_23.out.drew).more (by show _ ≤ w7.heap.size; omega)
  go_region_held3 (fun w' => w'.cell? ⟨w4.heap.size, 0, none⟩ = some (.int .i64 wd) ∧ w'.cell? ⟨w4.heap.size, 1, none⟩ = some (.int .i64 hi) ∧ w'.cell? ⟨w4.heap.size, 2, none⟩ = some (.slice A_x n n) ∧ w'.cell? ⟨w.heap.size, 0, none⟩ = some (.int .i64 wd) ∧ w'.cell? ⟨w.heap.size, 1, none⟩ = some (.int .i64 hi) ∧ w'.cell? ⟨w.heap.size, 2, none⟩ = some (.slice A n c) ∧ Below w7.heap.size w7 w')
    (first | exact SB.out _ (Below.refl _ _).drew | exact SB.out _ ((Below.refl _ _).drew.trans hb8) | exact SB.out _ (((Below.refl _ _).drew.trans hb8).trans (hb9.mono z8)))
    (first
      | (go_at_call 9; refine (toField_any wd hi A n c cs _ hn RA.out).mono ?_; rintro e w8 ⟨A8, rfl, ho8, hb8⟩; have z8 := hb8.size; unfold fieldV)
      | (go_at_call 12; refine (eqField_same wd hi A_x A8 n n n cs _ (by unfold maxLen; omega) (Rd.own (own_below (w := w7.drew) H_25.out hb8)) (Rd.own ho8)).mono ?_; rintro e w9 ⟨rfl, hb9⟩))
  have z8 := hb8.size
  have z8' : w7.heap.size ≤ w8.heap.size := z8
  have z9 := hb9.size
  have B9 : Below w7.heap.size w7 w9 := ((Below.refl _ _).drew.trans hb8).trans (hb9.mono z8)
  have z_w9 := B9.size
  have V_28 := Lib.hid (V_23.out.trans (B9.mono (by omega)))
  have H_29 := Lib.hid (own_below H_24.out B9)
  have H_30 := Lib.hid (own_below H_25.out B9)
  have H_31 := Lib.hid (own_below H_26.out B9)
  have H_32 := Lib.hid (H_27.out.below B9 H_27.out.lt)
  clear V_23 H_24 H_25 H_26 H_27 hb8 hb9 ho8 SB RA B9
  go_wp2_with (first
    | (refine wpList_load_blk rfl _ _ rfl w4.heap.size 0 rfl 29 _ H_32.out [.int .i64 wd, .int .i64 hi, .slice A_x n n] rfl _ Try.underlying29 rfl (by kernel_rfl) ?_)
    | fail)
  refine (markField_any wd hi A_x n n 1 _ _ _ (by omega) H_30.out).mono ?_
  rintro e w10 ⟨rfl, hm, hg⟩
  have z_w10 := hg.size
  have V_33 := Lib.hid (V_28.out.grown hg (by omega) (fun k e => by have := (H_30.out.lt k e).1; omega))
  have H_34 := Lib.hid (own_kept H_29.out hg (D_8.out.symm))
  have H_35 := Lib.hid (own_kept H_31.out hg (D_17.out))
  have H_36 := Lib.hid (H_32.out.grown hg (own_blk_ne H_30.out H_32.out (by decide)))
  clear V_28 H_29 H_31 H_32 hm hg
  clear H_30 D_8 D_17
  clear H_36
  go_wp2_with fail
  refine (eqInt64S_same A_g0 A_w0 T0.length c_g0 c_w0 T0 _ hM0 (Rd.own H_35.out) (Rd.own H_34.out)).mono ?_
  rintro e w11 ⟨rfl, hb⟩
  have z_w11 := hb.size
  have V_37 := Lib.hid (V_33.out.trans (hb.mono (by omega)))
  have H_38 := Lib.hid (own_below H_34.out hb)
  have H_39 := Lib.hid (own_below H_35.out hb)
  clear V_33 H_34 H_35 hb
  go_wp2_with fail
  refine (markInt64S_any A_g0 T0.length c_g0 (1) _ _ _ (by omega) H_39.out).mono ?_
  rintro e w12 ⟨rfl, hm, hg⟩
  have z_w12 := hg.size
  have V_40 := Lib.hid (V_37.out.grown hg (by omega) (fun k e => by have := (H_39.out.lt k e).1; omega))
  have H_41 := Lib.hid (own_kept H_38.out hg (D_16.out.symm))
  have H_42 := Lib.hid (hm)
  clear V_37 H_38 H_39 hm hg
  go_wp2_with fail
  refine (heldInt64S_any A_g0 T0.length c_g0 (1) _ (by omega) (Rd.own H_42.out)).mono ?_
  rintro e w13 ⟨rfl, h5⟩
  obtain rfl := h5.symm
  obtain ⟨d0, d1, d2⟩ := KB.out _ V_40.out
  go_wp2_with fail
  refine (toField_any wd hi A n c cs _ hn ((HAV.out.below V_40.out).more (by omega))).mono ?_
  rintro e w14 ⟨A_y, rfl, ho, hb⟩
  clear d0 d1 d2
  have D_43 := Lib.hid (Dis.of_lt ho (Old.own H_41.out))
  have D_44 := Lib.hid (Dis.of_lt ho (Old.own H_42.out))
  have z_w14 := hb.size
  have V_45 := Lib.hid (V_40.out.trans (hb.mono (by omega)))
  have H_46 := Lib.hid (own_below H_41.out hb)
  have H_47 := Lib.hid (own_below H_42.out hb)
  have H_48 := Lib.hid (ho)
  clear V_40 H_41 H_42 ho hb
  go_wp2_with fail
  refine (HI.out A_y n w14 (Rd.own H_48.out)).mono ?_
  rintro e w15 ⟨A_h0, c_h0, rfl, ho0, hb⟩
  have D_49 := Lib.hid (Dis.of_lt ho0 (Old.own H_46.out))
  have D_50 := Lib.hid (Dis.of_lt ho0 (Old.own H_47.out))
  have D_51 := Lib.hid (Dis.of_lt ho0 (Old.own H_48.out))
  have z_w15 := hb.size
  have V_52 := Lib.hid (V_45.out.trans (hb.mono (by omega)))
  have H_53 := Lib.hid (own_below H_46.out hb)
  have H_54 := Lib.hid (own_below H_47.out hb)
  have H_55 := Lib.hid (own_below H_48.out hb)
  have H_56 := Lib.hid (ho0)
  clear V_45 H_46 H_47 H_48 hb ho0
  clear H_55 D_43 D_44 D_51
  go_wp2_with fail
  refine (eqInt64S_same A_h0 A_w0 T0.length c_h0 c_w0 T0 _ hM0 (Rd.own H_56.out) (Rd.own H_53.out)).mono ?_
  rintro e w16 ⟨rfl, hb⟩
  have z_w16 := hb.size
  have V_57 := Lib.hid (V_52.out.trans (hb.mono (by omega)))
  have H_58 := Lib.hid (own_below H_53.out hb)
  have H_59 := Lib.hid (own_below H_54.out hb)
  have H_60 := Lib.hid (own_below H_56.out hb)
  clear V_52 H_53 H_54 H_56 hb
  go_wp2_with fail
  refine (heldInt64S_any A_g0 T0.length c_g0 (1) _ (by omega) (Rd.own H_59.out)).mono ?_
  rintro e w17 ⟨rfl, h5⟩
  obtain rfl := h5.symm
  go_wp2
  go_ret
  exact ⟨rfl, HWV.out.trans (V_57.out.mono (by omega))⟩
end Go.Proofs.Ytoclpjhhjkcejaa
