/- Walk: the law on GroupsOf. (printed by gen_law.py) -/
import Derived.Test.YtoclpjhhjkcejaaGt
namespace Go.Proofs.Ytoclpjhhjkcejaa
open Go.RowKit

set_option maxRecDepth 100000 in
set_option maxHeartbeats 400000 in
theorem lawGroupsOf_long (wd hi : Int) (A : Option Addr) (n c : Nat) (w : World) (hn : n ≤ maxLen) (hbig : 1048576 < n) :
    Calls Try.prog 4 #[.agg #[.int .i64 wd, .int .i64 hi, .slice A n c]] w fun e w' => e = .returned (.bool true) ∧ Below w.heap.size w w' := by
  have HW : Hid (Below w.heap.size w (w.alloc (.cells #[.int .i64 wd, .int .i64 hi, .slice A n c] 24))) := (Below.refl _ _).alloc (Nat.le_refl _) _
  go_enter Try.func4, Try.ntmps4
  go_wp2_with fail
  refine (szField_any wd hi A n c 1048576 _ hn (by omega) (by omega)).mono ?_
  rintro e w1 ⟨rfl, hb1⟩
  rw [if_pos (by omega)]
  go_wp2
  go_ret
  exact ⟨rfl, HW.out.trans (hb1.mono (by simp))⟩

set_option maxRecDepth 100000 in
set_option maxHeartbeats 8000000 in
theorem lawGroupsOf_any (wd hi : Int) (A : Option Addr) (n c : Nat) (cs : List Bool) (w : World) (hn : n ≤ 1048576) (hl : cs.length = n) (hA : Rd w w.heap.size 1 A n (cs.map bv)) :
    Calls Try.prog 4 #[.agg #[.int .i64 wd, .int .i64 hi, .slice A n c]] w fun e w' => e = .returned (.bool true) ∧ Below w.heap.size w w' := by
  obtain ⟨T0, T1, b2, hT0, hT1, hspec, himpl⟩ := groups_pair wd hi cs
  rw [hl] at hspec himpl
  obtain ⟨v, ev⟩ : ∃ v, v = w.alloc (.cells #[.int .i64 wd, .int .i64 hi, .slice A n c] 24) := ⟨_, rfl⟩
  have hbk : Blk v w.heap.size 24 #[.int .i64 wd, .int .i64 hi, .slice A n c] := ev ▸ Blk.new w _ _
  have hwv : Below w.heap.size w v := ev ▸ (Below.refl _ _).alloc (Nat.le_refl _) _
  have hvz : v.heap.size = w.heap.size + 1 := by rw [ev]; simp
  have hAv : Rd v v.heap.size 1 A n (cs.map bv) := (hA.below hwv).more (by omega)
  have hgl := hbk.lt
  have k : ∀ w', Below v.heap.size v w' → w'.cell? ⟨w.heap.size, 0, none⟩ = some (.int .i64 wd) ∧ w'.cell? ⟨w.heap.size, 1, none⟩ = some (.int .i64 hi) ∧ w'.cell? ⟨w.heap.size, 2, none⟩ = some (.slice A n c) := fun w' h => ⟨(h.cell hgl).trans (hbk.cell 0), (h.cell hgl).trans (hbk.cell 1), (h.cell hgl).trans (hbk.cell 2)⟩
  have KB := Lib.hid k
  have EV := Lib.hid ev
  have HWV := Lib.hid hwv
  have HAV := Lib.hid hAv
  have HS := Lib.hid hspec
  have HI := Lib.hid himpl
  clear k ev hwv hAv hspec himpl hbk hA hl
  have hM0 : T0.length ≤ maxLen := by unfold maxLen; omega
  have hM1 : T1.length ≤ maxLen := by unfold maxLen; omega
  go_enter Try.func4, Try.ntmps4
  go_wp2_with fail
  rw [← EV.out]
  refine (szField_any wd hi A n c 1048576 _ (by unfold maxLen; omega) (by omega) (by omega)).mono ?_
  rintro e w1 ⟨rfl, hb⟩
  rw [if_neg (by omega)]
  have z_w1 := hb.size
  have V_1 := Lib.hid (hb)
  clear hb
  obtain ⟨d0, d1, d2⟩ := KB.out _ V_1.out
  go_wp2_with fail
  refine (toField_any wd hi A n c cs _ hn ((HAV.out.below V_1.out).more (by omega))).mono ?_
  rintro e w2 ⟨A_xs, rfl, ho, hb⟩
  clear d0 d1 d2
  have z_w2 := hb.size
  have V_2 := Lib.hid (V_1.out.trans (hb.mono (by omega)))
  have H_3 := Lib.hid (ho)
  clear V_1 ho hb
  go_wp2_with fail
  refine (HS.out A_xs n w2 (Rd.own H_3.out)).mono ?_
  rintro e w3 ⟨A_w0, c_w0, A_w1, c_w1, rfl, ho0, ho1, hd01, hb⟩
  have D_4 := Lib.hid (Dis.of_lt ho0 (Old.own H_3.out))
  have D_5 := Lib.hid (Dis.of_lt ho1 (Old.own H_3.out))
  have D_6 := Lib.hid (hd01)
  have z_w3 := hb.size
  have V_7 := Lib.hid (V_2.out.trans (hb.mono (by omega)))
  have H_8 := Lib.hid (own_below H_3.out hb)
  have H_9 := Lib.hid (ho0)
  have H_10 := Lib.hid (ho1)
  clear V_2 H_3 hb ho0 ho1 hd01
  clear H_8 D_4 D_5
  obtain ⟨d0, d1, d2⟩ := KB.out _ V_7.out
  go_wp2_with fail
  refine (toField_any wd hi A n c cs _ hn ((HAV.out.below V_7.out).more (by omega))).mono ?_
  rintro e w4 ⟨A_x, rfl, ho, hb⟩
  clear d0 d1 d2
  have D_11 := Lib.hid (Dis.of_lt ho (Old.own H_9.out))
  have D_12 := Lib.hid (Dis.of_lt ho (Old.own H_10.out))
  have z_w4 := hb.size
  have V_13 := Lib.hid (V_7.out.trans (hb.mono (by omega)))
  have H_14 := Lib.hid (own_below H_9.out hb)
  have H_15 := Lib.hid (own_below H_10.out hb)
  have H_16 := Lib.hid (ho)
  clear V_7 H_9 H_10 ho hb
  unfold fieldV
  go_wp2_with (first
    | (refine wpList_store_blk rfl _ _ _ rfl w4.heap.size 0 rfl _ rfl [.int .i64 wd, .int .i64 hi, .slice A_x n n] rfl 29 #[.int .i64 0, .int .i64 0, .slice none 0 0] #[.int .i64 wd, .int .i64 hi, .slice A_x n n] (Blk.new _ _ _) (by kernel_rfl) (by simp) (by simp [Value.oneCell']) rfl ?_; intro w5 kb_x0 gb_x0)
    | (refine wpList_load_blk rfl _ _ rfl w4.heap.size 0 rfl 29 _ kb_x0 [.int .i64 wd, .int .i64 hi, .slice A_x n n] rfl _ Try.underlying29 rfl (by kernel_rfl) ?_)
    | fail)
  have z_w5 := gb_x0.size
  simp only [World.size_alloc] at z_w5
  have V_17 := Lib.hid (below_boxed V_13.out (by omega) gb_x0)
  have H_18 := Lib.hid (own_boxed H_14.out gb_x0)
  have H_19 := Lib.hid (own_boxed H_15.out gb_x0)
  have H_20 := Lib.hid (own_boxed H_16.out gb_x0)
  have H_21 := Lib.hid (kb_x0)
  clear V_13 H_14 H_15 H_16 gb_x0 kb_x0
  refine (HI.out A_x n w5 (Rd.own H_20.out)).mono ?_
  rintro e w6 ⟨A_g0, c_g0, A_g1, c_g1, rfl, ho0, ho1, hd01, hb⟩
  have D_22 := Lib.hid (Dis.of_lt ho0 (Old.own H_18.out))
  have D_23 := Lib.hid (Dis.of_lt ho0 (Old.own H_19.out))
  have D_24 := Lib.hid (Dis.of_lt ho0 (Old.own H_20.out))
  have D_25 := Lib.hid (Dis.of_lt ho1 (Old.own H_18.out))
  have D_26 := Lib.hid (Dis.of_lt ho1 (Old.own H_19.out))
  have D_27 := Lib.hid (Dis.of_lt ho1 (Old.own H_20.out))
  have D_28 := Lib.hid (hd01)
  have z_w6 := hb.size
  have V_29 := Lib.hid (V_17.out.trans (hb.mono (by omega)))
  have H_30 := Lib.hid (own_below H_18.out hb)
  have H_31 := Lib.hid (own_below H_19.out hb)
  have H_32 := Lib.hid (own_below H_20.out hb)
  have H_33 := Lib.hid (H_21.out.below hb H_21.out.lt)
  have H_34 := Lib.hid (ho0)
  have H_35 := Lib.hid (ho1)
  clear V_17 H_18 H_19 H_20 H_21 hb ho0 ho1 hd01
  go_wp2_with (first
    | (refine wpList_load_blk rfl _ _ rfl w4.heap.size 0 rfl 29 _ H_33.out [.int .i64 wd, .int .i64 hi, .slice A_x n n] rfl _ Try.underlying29 rfl (by kernel_rfl) ?_)
    | fail)
  refine (eqInt64S_same A_g0 A_w0 T0.length c_g0 c_w0 T0 _ hM0 (Rd.own H_34.out) (Rd.own H_30.out)).mono ?_
  rintro e w7 ⟨rfl, hb⟩
  have z_w7 := hb.size
  have V_36 := Lib.hid (V_29.out.trans (hb.mono (by omega)))
  have H_37 := Lib.hid (own_below H_30.out hb)
  have H_38 := Lib.hid (own_below H_31.out hb)
  have H_39 := Lib.hid (own_below H_32.out hb)
  have H_40 := Lib.hid (own_below H_34.out hb)
  have H_41 := Lib.hid (own_below H_35.out hb)
  have H_42 := Lib.hid (H_33.out.below hb H_33.out.lt)
  clear V_29 H_30 H_31 H_32 H_34 H_35 H_33 hb
  go_wp2_with (first
    | (refine wpList_load_blk rfl _ _ rfl w4.heap.size 0 rfl 29 _ H_42.out [.int .i64 wd, .int .i64 hi, .slice A_x n n] rfl _ Try.underlying29 rfl (by kernel_rfl) ?_)
    | fail)
  refine (eqInt64S_same A_g1 A_w1 T1.length c_g1 c_w1 T1 _ hM1 (Rd.own H_41.out) (Rd.own H_38.out)).mono ?_
  rintro e w8 ⟨rfl, hb⟩
  have z_w8 := hb.size
  have V_43 := Lib.hid (V_36.out.trans (hb.mono (by omega)))
  have H_44 := Lib.hid (own_below H_37.out hb)
  have H_45 := Lib.hid (own_below H_38.out hb)
  have H_46 := Lib.hid (own_below H_39.out hb)
  have H_47 := Lib.hid (own_below H_40.out hb)
  have H_48 := Lib.hid (own_below H_41.out hb)
  have H_49 := Lib.hid (H_42.out.below hb H_42.out.lt)
  clear V_36 H_37 H_38 H_39 H_40 H_41 H_42 hb
  go_wp2_with fail
  have SB : Hid (∀ w', Below w8.heap.size w8 w' → w'.cell? ⟨w4.heap.size, 0, none⟩ = some (.int .i64 wd) ∧ w'.cell? ⟨w4.heap.size, 1, none⟩ = some (.int .i64 hi) ∧ w'.cell? ⟨w4.heap.size, 2, none⟩ = some (.slice A_x n n) ∧ w'.cell? ⟨w.heap.size, 0, none⟩ = some (.int .i64 wd) ∧ w'.cell? ⟨w.heap.size, 1, none⟩ = some (.int .i64 hi) ∧ w'.cell? ⟨w.heap.size, 2, none⟩ = some (.slice A n c) ∧ Below w8.heap.size w8 w') := fun w' h => by
    have q := KB.out w' (V_43.out.trans (h.mono (by omega)))
    have lt := H_49.out.lt
    exact ⟨(h.cell lt).trans (H_49.out.cell 0), (h.cell lt).trans (H_49.out.cell 1), (h.cell lt).trans (H_49.out.cell 2), q.1, q.2.1, q.2.2, h⟩
  have RA : Hid (Rd w8.drew w8.drew.heap.size 1 A n (cs.map bv)) := (HAV.out.below V_43.out.drew).more (by show _ ≤ w8.heap.size; omega)
  go_region_held3 (fun w' => w'.cell? ⟨w4.heap.size, 0, none⟩ = some (.int .i64 wd) ∧ w'.cell? ⟨w4.heap.size, 1, none⟩ = some (.int .i64 hi) ∧ w'.cell? ⟨w4.heap.size, 2, none⟩ = some (.slice A_x n n) ∧ w'.cell? ⟨w.heap.size, 0, none⟩ = some (.int .i64 wd) ∧ w'.cell? ⟨w.heap.size, 1, none⟩ = some (.int .i64 hi) ∧ w'.cell? ⟨w.heap.size, 2, none⟩ = some (.slice A n c) ∧ Below w8.heap.size w8 w')
    (first | exact SB.out _ (Below.refl _ _).drew | exact SB.out _ ((Below.refl _ _).drew.trans hb8) | exact SB.out _ (((Below.refl _ _).drew.trans hb8).trans (hb9.mono z8)))
    (first
      | (go_at_call 9; refine (toField_any wd hi A n c cs _ hn RA.out).mono ?_; rintro e w9 ⟨A8, rfl, ho8, hb8⟩; have z8 := hb8.size; unfold fieldV)
      | (go_at_call 12; refine (eqField_same wd hi A_x A8 n n n cs _ (by unfold maxLen; omega) (Rd.own (own_below (w := w8.drew) H_46.out hb8)) (Rd.own ho8)).mono ?_; rintro e w10 ⟨rfl, hb9⟩))
  have z8 := hb8.size
  have z8' : w8.heap.size ≤ w9.heap.size := z8
  have z9 := hb9.size
  have B9 : Below w8.heap.size w8 w10 := ((Below.refl _ _).drew.trans hb8).trans (hb9.mono z8)
  have z_w10 := B9.size
  have V_50 := Lib.hid (V_43.out.trans (B9.mono (by omega)))
  have H_51 := Lib.hid (own_below H_44.out B9)
  have H_52 := Lib.hid (own_below H_45.out B9)
  have H_53 := Lib.hid (own_below H_46.out B9)
  have H_54 := Lib.hid (own_below H_47.out B9)
  have H_55 := Lib.hid (own_below H_48.out B9)
  have H_56 := Lib.hid (H_49.out.below B9 H_49.out.lt)
  clear V_43 H_44 H_45 H_46 H_47 H_48 H_49 hb8 hb9 ho8 SB RA B9
  go_wp2_with (first
    | (refine wpList_load_blk rfl _ _ rfl w4.heap.size 0 rfl 29 _ H_56.out [.int .i64 wd, .int .i64 hi, .slice A_x n n] rfl _ Try.underlying29 rfl (by kernel_rfl) ?_)
    | fail)
  refine (markField_any wd hi A_x n n 1 _ _ _ (by omega) H_53.out).mono ?_
  rintro e w11 ⟨rfl, hm, hg⟩
  have z_w11 := hg.size
  have V_57 := Lib.hid (V_50.out.grown hg (by omega) (fun k e => by have := (H_53.out.lt k e).1; omega))
  have H_58 := Lib.hid (own_kept H_51.out hg (D_11.out.symm))
  have H_59 := Lib.hid (own_kept H_52.out hg (D_12.out.symm))
  have H_60 := Lib.hid (own_kept H_54.out hg (D_24.out))
  have H_61 := Lib.hid (own_kept H_55.out hg (D_27.out))
  have H_62 := Lib.hid (H_56.out.grown hg (own_blk_ne H_53.out H_56.out (by decide)))
  clear V_50 H_51 H_52 H_54 H_55 H_56 hm hg
  clear H_53 D_11 D_12 D_24 D_27
  clear H_62
  go_wp2_with fail
  refine (eqInt64S_same A_g0 A_w0 T0.length c_g0 c_w0 T0 _ hM0 (Rd.own H_60.out) (Rd.own H_58.out)).mono ?_
  rintro e w12 ⟨rfl, hb⟩
  have z_w12 := hb.size
  have V_63 := Lib.hid (V_57.out.trans (hb.mono (by omega)))
  have H_64 := Lib.hid (own_below H_58.out hb)
  have H_65 := Lib.hid (own_below H_59.out hb)
  have H_66 := Lib.hid (own_below H_60.out hb)
  have H_67 := Lib.hid (own_below H_61.out hb)
  clear V_57 H_58 H_59 H_60 H_61 hb
  go_wp2_with fail
  refine (eqInt64S_same A_g1 A_w1 T1.length c_g1 c_w1 T1 _ hM1 (Rd.own H_67.out) (Rd.own H_65.out)).mono ?_
  rintro e w13 ⟨rfl, hb⟩
  have z_w13 := hb.size
  have V_68 := Lib.hid (V_63.out.trans (hb.mono (by omega)))
  have H_69 := Lib.hid (own_below H_64.out hb)
  have H_70 := Lib.hid (own_below H_65.out hb)
  have H_71 := Lib.hid (own_below H_66.out hb)
  have H_72 := Lib.hid (own_below H_67.out hb)
  clear V_63 H_64 H_65 H_66 H_67 hb
  go_wp2_with fail
  refine (markInt64S_any A_g0 T0.length c_g0 (1) _ _ _ (by omega) H_71.out).mono ?_
  rintro e w14 ⟨rfl, hm, hg⟩
  have z_w14 := hg.size
  have V_73 := Lib.hid (V_68.out.grown hg (by omega) (fun k e => by have := (H_71.out.lt k e).1; omega))
  have H_74 := Lib.hid (own_kept H_69.out hg (D_22.out.symm))
  have H_75 := Lib.hid (own_kept H_70.out hg (D_23.out.symm))
  have H_76 := Lib.hid (own_kept H_72.out hg (D_28.out.symm))
  have H_77 := Lib.hid (hm)
  clear V_68 H_69 H_70 H_72 H_71 hm hg
  go_wp2_with fail
  refine (markInt64S_any A_g1 T1.length c_g1 (1 + T0.length) _ _ _ (by omega) H_76.out).mono ?_
  rintro e w15 ⟨rfl, hm, hg⟩
  have z_w15 := hg.size
  have V_78 := Lib.hid (V_73.out.grown hg (by omega) (fun k e => by have := (H_76.out.lt k e).1; omega))
  have H_79 := Lib.hid (own_kept H_74.out hg (D_25.out.symm))
  have H_80 := Lib.hid (own_kept H_75.out hg (D_26.out.symm))
  have H_81 := Lib.hid (own_kept H_77.out hg (D_28.out))
  have H_82 := Lib.hid (hm)
  clear V_73 H_74 H_75 H_77 H_76 hm hg
  go_wp2_with fail
  refine (heldInt64S_any A_g0 T0.length c_g0 (1) _ (by omega) (Rd.own H_81.out)).mono ?_
  rintro e w16 ⟨rfl, h5⟩
  obtain rfl := h5.symm
  go_wp2_with fail
  refine (heldInt64S_any A_g1 T1.length c_g1 (1 + T0.length) _ (by omega) (Rd.own H_82.out)).mono ?_
  rintro e w17 ⟨rfl, h5⟩
  obtain rfl := h5.symm
  obtain ⟨d0, d1, d2⟩ := KB.out _ V_78.out
  go_wp2_with fail
  refine (toField_any wd hi A n c cs _ hn ((HAV.out.below V_78.out).more (by omega))).mono ?_
  rintro e w18 ⟨A_y, rfl, ho, hb⟩
  clear d0 d1 d2
  have D_83 := Lib.hid (Dis.of_lt ho (Old.own H_79.out))
  have D_84 := Lib.hid (Dis.of_lt ho (Old.own H_80.out))
  have D_85 := Lib.hid (Dis.of_lt ho (Old.own H_81.out))
  have D_86 := Lib.hid (Dis.of_lt ho (Old.own H_82.out))
  have z_w18 := hb.size
  have V_87 := Lib.hid (V_78.out.trans (hb.mono (by omega)))
  have H_88 := Lib.hid (own_below H_79.out hb)
  have H_89 := Lib.hid (own_below H_80.out hb)
  have H_90 := Lib.hid (own_below H_81.out hb)
  have H_91 := Lib.hid (own_below H_82.out hb)
  have H_92 := Lib.hid (ho)
  clear V_78 H_79 H_80 H_81 H_82 ho hb
  go_wp2_with fail
  refine (HI.out A_y n w18 (Rd.own H_92.out)).mono ?_
  rintro e w19 ⟨A_h0, c_h0, A_h1, c_h1, rfl, ho0, ho1, hd01, hb⟩
  have D_93 := Lib.hid (Dis.of_lt ho0 (Old.own H_88.out))
  have D_94 := Lib.hid (Dis.of_lt ho0 (Old.own H_89.out))
  have D_95 := Lib.hid (Dis.of_lt ho0 (Old.own H_90.out))
  have D_96 := Lib.hid (Dis.of_lt ho0 (Old.own H_91.out))
  have D_97 := Lib.hid (Dis.of_lt ho0 (Old.own H_92.out))
  have D_98 := Lib.hid (Dis.of_lt ho1 (Old.own H_88.out))
  have D_99 := Lib.hid (Dis.of_lt ho1 (Old.own H_89.out))
  have D_100 := Lib.hid (Dis.of_lt ho1 (Old.own H_90.out))
  have D_101 := Lib.hid (Dis.of_lt ho1 (Old.own H_91.out))
  have D_102 := Lib.hid (Dis.of_lt ho1 (Old.own H_92.out))
  have D_103 := Lib.hid (hd01)
  have z_w19 := hb.size
  have V_104 := Lib.hid (V_87.out.trans (hb.mono (by omega)))
  have H_105 := Lib.hid (own_below H_88.out hb)
  have H_106 := Lib.hid (own_below H_89.out hb)
  have H_107 := Lib.hid (own_below H_90.out hb)
  have H_108 := Lib.hid (own_below H_91.out hb)
  have H_109 := Lib.hid (own_below H_92.out hb)
  have H_110 := Lib.hid (ho0)
  have H_111 := Lib.hid (ho1)
  clear V_87 H_88 H_89 H_90 H_91 H_92 hb ho0 ho1 hd01
  clear H_109 D_83 D_84 D_85 D_86 D_97 D_102
  go_wp2_with fail
  refine (eqInt64S_same A_h0 A_w0 T0.length c_h0 c_w0 T0 _ hM0 (Rd.own H_110.out) (Rd.own H_105.out)).mono ?_
  rintro e w20 ⟨rfl, hb⟩
  have z_w20 := hb.size
  have V_112 := Lib.hid (V_104.out.trans (hb.mono (by omega)))
  have H_113 := Lib.hid (own_below H_105.out hb)
  have H_114 := Lib.hid (own_below H_106.out hb)
  have H_115 := Lib.hid (own_below H_107.out hb)
  have H_116 := Lib.hid (own_below H_108.out hb)
  have H_117 := Lib.hid (own_below H_110.out hb)
  have H_118 := Lib.hid (own_below H_111.out hb)
  clear V_104 H_105 H_106 H_107 H_108 H_110 H_111 hb
  go_wp2_with fail
  refine (eqInt64S_same A_h1 A_w1 T1.length c_h1 c_w1 T1 _ hM1 (Rd.own H_118.out) (Rd.own H_114.out)).mono ?_
  rintro e w21 ⟨rfl, hb⟩
  have z_w21 := hb.size
  have V_119 := Lib.hid (V_112.out.trans (hb.mono (by omega)))
  have H_120 := Lib.hid (own_below H_113.out hb)
  have H_121 := Lib.hid (own_below H_114.out hb)
  have H_122 := Lib.hid (own_below H_115.out hb)
  have H_123 := Lib.hid (own_below H_116.out hb)
  have H_124 := Lib.hid (own_below H_117.out hb)
  have H_125 := Lib.hid (own_below H_118.out hb)
  clear V_112 H_113 H_114 H_115 H_116 H_117 H_118 hb
  go_wp2_with fail
  refine (heldInt64S_any A_g0 T0.length c_g0 (1) _ (by omega) (Rd.own H_122.out)).mono ?_
  rintro e w22 ⟨rfl, h5⟩
  obtain rfl := h5.symm
  go_wp2_with fail
  refine (heldInt64S_any A_g1 T1.length c_g1 (1 + T0.length) _ (by omega) (Rd.own H_123.out)).mono ?_
  rintro e w23 ⟨rfl, h5⟩
  obtain rfl := h5.symm
  go_wp2
  go_ret
  exact ⟨rfl, HWV.out.trans (V_119.out.mono (by omega))⟩
end Go.Proofs.Ytoclpjhhjkcejaa
