/- Walk: the law on BurnTimes. -/
import Derived.Test.YtoclpjhhjkcejaaBt
namespace Go.Proofs.Ytoclpjhhjkcejaa
open Go.RowKit

set_option maxRecDepth 100000 in
set_option maxHeartbeats 400000 in
theorem burnLaw_long (wd hi : Int) (A : Option Addr) (n c : Nat) (w : World) (hn : n ≤ maxLen) (hbig : 1048576 < n) :
    Calls Try.prog 3 #[.agg #[.int .i64 wd, .int .i64 hi, .slice A n c]] w fun e w' => e = .returned (.bool true) ∧ Below w.heap.size w w' := by
  have HW : Hid (Below w.heap.size w (w.alloc (.cells #[.int .i64 wd, .int .i64 hi, .slice A n c] 24))) := (Below.refl _ _).alloc (Nat.le_refl _) _
  go_enter Try.func3, Try.ntmps3
  go_wp2_with fail
  refine (szField_any wd hi A n c 1048576 _ hn (by omega) (by omega)).mono ?_
  rintro e w1 ⟨rfl, hb1⟩
  rw [if_pos (by omega)]
  go_wp2
  go_ret
  exact ⟨rfl, HW.out.trans (hb1.mono (by simp))⟩

set_option maxRecDepth 100000 in
set_option maxHeartbeats 4000000 in
theorem burnLaw_any (wd hi : Int) (A : Option Addr) (n c : Nat) (cs : List Bool) (w : World) (hn : n ≤ 1048576) (hl : cs.length = n) (hA : Rd w w.heap.size 1 A n (cs.map bv)) :
    Calls Try.prog 3 #[.agg #[.int .i64 wd, .int .i64 hi, .slice A n c]] w fun e w' => e = .returned (.bool true) ∧ Below w.heap.size w w' := by
  obtain ⟨T, l, ok, hT, hspec, himpl⟩ := burn_pair wd hi cs
  rw [hl] at hspec himpl
  obtain ⟨v, ev⟩ : ∃ v, v = w.alloc (.cells #[.int .i64 wd, .int .i64 hi, .slice A n c] 24) := ⟨_, rfl⟩
  have hbk : Blk v w.heap.size 24 #[.int .i64 wd, .int .i64 hi, .slice A n c] := ev ▸ Blk.new w _ _
  have hwv : Below w.heap.size w v := ev ▸ (Below.refl _ _).alloc (Nat.le_refl _) _
  have hvz : v.heap.size = w.heap.size + 1 := by rw [ev]; simp
  have hAv : Rd v v.heap.size 1 A n (cs.map bv) := (hA.below hwv).more (by omega)
  have hgl := hbk.lt
  have k : ∀ w', Below v.heap.size v w' → w'.cell? ⟨w.heap.size, 0, none⟩ = some (.int .i64 wd) ∧ w'.cell? ⟨w.heap.size, 1, none⟩ = some (.int .i64 hi) ∧ w'.cell? ⟨w.heap.size, 2, none⟩ = some (.slice A n c) := fun w' h => ⟨(h.cell hgl).trans (hbk.cell 0), (h.cell hgl).trans (hbk.cell 1), (h.cell hgl).trans (hbk.cell 2)⟩
  have KB := Lib.hid k
  have EV := Lib.hid ev
  have HWV := Lib.hid hwv
  have HAV := Lib.hid hAv
  have HS := Lib.hid hspec
  have HI := Lib.hid himpl
  clear k ev hwv hAv hspec himpl hbk hA hl
  go_enter Try.func3, Try.ntmps3
  go_wp2_with fail
  rw [← EV.out]
  refine (szField_any wd hi A n c 1048576 _ (by unfold maxLen; omega) (by omega) (by omega)).mono ?_
  rintro e w1 ⟨rfl, V1⟩
  rw [if_neg (by omega)]
  have z1 := V1.size
  obtain ⟨d0, d1, d2⟩ := KB.out w1 V1
  have HV1 := Lib.hid V1
  clear V1
  go_wp2_with fail
  refine (toField_any wd hi A n c cs _ hn ((HAV.out.below HV1.out).more z1)).mono ?_
  rintro e w2 ⟨A2, rfl, ho2, hb2⟩
  have z2 := hb2.size
  have HV2 := Lib.hid (HV1.out.trans (hb2.mono z1))
  clear d0 d1 d2
  go_wp2_with fail
  refine (HS.out A2 n w2 (Rd.own ho2)).mono ?_
  rintro e w3 ⟨At, ct, rfl, hot, hb3⟩
  have z3 := hb3.size
  have HV3 := Lib.hid (HV2.out.trans (hb3.mono (by omega)))
  have HT3 := Lib.hid hot
  clear ho2 hb2 hb3 hot
  obtain ⟨d0, d1, d2⟩ := KB.out w3 HV3.out
  go_wp2_with fail
  refine (toField_any wd hi A n c cs _ hn ((HAV.out.below HV3.out).more (by omega))).mono ?_
  rintro e w4 ⟨A4, rfl, ho4, hb4⟩
  have z4 := hb4.size
  have HV4 := Lib.hid (HV3.out.trans (hb4.mono (by omega)))
  have HT4 := Lib.hid (own_below HT3.out hb4)
  have HO4 := Lib.hid ho4
  clear d0 d1 d2 hb4 ho4
  unfold fieldV
  go_wp2_with (first
    | (refine wpList_store_blk rfl _ _ _ rfl w4.heap.size 0 rfl _ rfl [.int .i64 wd, .int .i64 hi, .slice A4 n n] rfl 29 #[.int .i64 0, .int .i64 0, .slice none 0 0] #[.int .i64 wd, .int .i64 hi, .slice A4 n n] (Blk.new _ _ _) (by kernel_rfl) (by simp) (by simp [Value.oneCell']) rfl ?_; intro w5 k5 g5)
    | (refine wpList_load_blk rfl _ _ rfl w4.heap.size 0 rfl 29 _ k5 [.int .i64 wd, .int .i64 hi, .slice A4 n n] rfl _ Try.underlying29 rfl (by kernel_rfl) ?_)
    | fail)
  have z5 := g5.size
  simp only [World.size_alloc] at z5
  have HV5 := Lib.hid (below_boxed HV4.out (by omega) g5)
  have hTm : T.length ≤ maxLen := by unfold maxLen; omega
  have HT5 := Lib.hid (own_boxed HT4.out g5)
  have HO5 := Lib.hid (own_boxed HO4.out g5)
  clear g5
  refine (HI.out A4 n w5 (Rd.own HO5.out)).mono ?_
  rintro e w6 ⟨Ag, cg, rfl, hog, hb6⟩
  have z6 := hb6.size
  have HV6 := Lib.hid (HV5.out.trans (hb6.mono (by omega)))
  have HT6 := Lib.hid (own_below HT5.out hb6)
  have HO6 := Lib.hid (own_below HO5.out hb6)
  have HD := Lib.hid (Dis.of_lt hog (Old.own HT5.out))
  have HG6 := Lib.hid hog
  have HK6 := Lib.hid (k5.below hb6 k5.lt)
  clear hb6 hog k5 HT4 HO4 HT5 HO5 HT3 HV2 HV3 HV4
  go_wp2_with fail
  refine (eqInt64S_same Ag At T.length cg ct T _ hTm (Rd.own HG6.out) (Rd.own HT6.out)).mono ?_
  rintro e w7 ⟨rfl, hb7⟩
  have z7 := hb7.size
  have HV7 := Lib.hid (HV6.out.trans (hb7.mono (by omega)))
  have HT7 := Lib.hid (own_below HT6.out hb7)
  have HO7 := Lib.hid (own_below HO6.out hb7)
  have HG7 := Lib.hid (own_below HG6.out hb7)
  have HK7 := Lib.hid (HK6.out.below hb7 HK6.out.lt)
  clear hb7 HT6 HO6 HG6 HK6
  go_wp2_with fail
  have SB : Hid (∀ w', Below w7.heap.size w7 w' → w'.cell? ⟨w4.heap.size, 0, none⟩ = some (.int .i64 wd) ∧ w'.cell? ⟨w4.heap.size, 1, none⟩ = some (.int .i64 hi) ∧ w'.cell? ⟨w4.heap.size, 2, none⟩ = some (.slice A4 n n) ∧
      w'.cell? ⟨w.heap.size, 0, none⟩ = some (.int .i64 wd) ∧ w'.cell? ⟨w.heap.size, 1, none⟩ = some (.int .i64 hi) ∧ w'.cell? ⟨w.heap.size, 2, none⟩ = some (.slice A n c) ∧ Below w7.heap.size w7 w') := fun w' h => by
    have q := KB.out w' (HV7.out.trans (h.mono (by omega)))
    have lt := HK7.out.lt
    exact ⟨(h.cell lt).trans (HK7.out.cell 0), (h.cell lt).trans (HK7.out.cell 1), (h.cell lt).trans (HK7.out.cell 2), q.1, q.2.1, q.2.2, h⟩
  have RA : Hid (Rd w7.drew w7.drew.heap.size 1 A n (cs.map bv)) := (HAV.out.below HV7.out.drew).more (by show _ ≤ w7.heap.size; omega)
  go_region_held3 (fun w' => w'.cell? ⟨w4.heap.size, 0, none⟩ = some (.int .i64 wd) ∧ w'.cell? ⟨w4.heap.size, 1, none⟩ = some (.int .i64 hi) ∧ w'.cell? ⟨w4.heap.size, 2, none⟩ = some (.slice A4 n n) ∧
      w'.cell? ⟨w.heap.size, 0, none⟩ = some (.int .i64 wd) ∧ w'.cell? ⟨w.heap.size, 1, none⟩ = some (.int .i64 hi) ∧ w'.cell? ⟨w.heap.size, 2, none⟩ = some (.slice A n c) ∧ Below w7.heap.size w7 w')
    (first | exact SB.out _ (Below.refl _ _).drew | exact SB.out _ ((Below.refl _ _).drew.trans hb8) | exact SB.out _ (((Below.refl _ _).drew.trans hb8).trans (hb9.mono z8)))
    (first
      | (go_at_call 9; refine (toField_any wd hi A n c cs _ hn RA.out).mono ?_; rintro e w8 ⟨A8, rfl, ho8, hb8⟩; have z8 := hb8.size; unfold fieldV)
      | (go_at_call 12; refine (eqField_same wd hi A4 A8 n n n cs _ (by unfold maxLen; omega) (Rd.own (own_below (w := w7.drew) HO7.out hb8)) (Rd.own ho8)).mono ?_; rintro e w9 ⟨rfl, hb9⟩))
  have z8 := hb8.size
  have z8' : w7.heap.size ≤ w8.heap.size := z8
  have z9 := hb9.size
  have B9 : Hid (Below w7.heap.size w7 w9) := ((Below.refl _ _).drew.trans hb8).trans (hb9.mono z8)
  have HV9 := Lib.hid (HV7.out.trans (B9.out.mono (by omega)))
  have HT9 := Lib.hid (own_below HT7.out B9.out)
  have HO9 := Lib.hid (own_below HO7.out B9.out)
  have HG9 := Lib.hid (own_below HG7.out B9.out)
  have HK9 := Lib.hid (HK7.out.below B9.out HK7.out.lt)
  clear hb8 hb9 ho8 HT7 HO7 HG7 HK7 SB RA B9
  go_wp2_with (refine wpList_load_blk rfl _ _ rfl w4.heap.size 0 rfl 29 _ HK9.out [.int .i64 wd, .int .i64 hi, .slice A4 n n] rfl _ Try.underlying29 rfl (by kernel_rfl) ?_)
  refine (markField_any wd hi A4 n n 1 _ _ _ (by omega) HO9.out).mono ?_
  rintro e w10 ⟨rfl, hm10, g10⟩
  have z10 := g10.size
  have HV10 := Lib.hid (HV9.out.grown g10 (by omega) (fun k e => by have := (HO9.out.lt k e).1; omega))
  have HT10 := Lib.hid (own_kept HT9.out g10 (Dis.types HT9.out HO9.out (by decide)))
  have HG10 := Lib.hid (own_kept HG9.out g10 (Dis.types HG9.out HO9.out (by decide)))
  clear hm10 g10 HT9 HO9 HG9 HK9
  go_wp2_with fail
  refine (eqInt64S_same Ag At T.length cg ct T _ hTm (Rd.own HG10.out) (Rd.own HT10.out)).mono ?_
  rintro e w11 ⟨rfl, hb11⟩
  have z11 := hb11.size
  have HV11 := Lib.hid (HV10.out.trans (hb11.mono (by omega)))
  have HT11 := Lib.hid (own_below HT10.out hb11)
  have HG11 := Lib.hid (own_below HG10.out hb11)
  clear hb11 HT10 HG10
  go_wp2_with fail
  refine (markInt64S_any Ag T.length cg 1 _ _ _ (by omega) HG11.out).mono ?_
  rintro e w12 ⟨rfl, hm12, g12⟩
  have z12 := g12.size
  have HV12 := Lib.hid (HV11.out.grown g12 (by omega) (fun k e => by have := (HG11.out.lt k e).1; omega))
  have HT12 := Lib.hid (own_kept HT11.out g12 HD.out.symm)
  have HM12 := Lib.hid hm12
  clear hm12 g12 HT11 HG11
  go_wp2_with fail
  refine (heldInt64S_any Ag T.length cg 1 _ (by omega) (Rd.own HM12.out)).mono ?_
  rintro e w12' ⟨rfl, rfl⟩
  obtain ⟨d0, d1, d2⟩ := KB.out _ HV12.out
  go_wp2_with fail
  refine (toField_any wd hi A n c cs _ hn ((HAV.out.below HV12.out).more (by omega))).mono ?_
  rintro e w13 ⟨A13, rfl, ho13, hb13⟩
  have z13 := hb13.size
  have HV13 := Lib.hid (HV12.out.trans (hb13.mono (by omega)))
  have HT13 := Lib.hid (own_below HT12.out hb13)
  have HM13 := Lib.hid (own_below HM12.out hb13)
  have HO13 := Lib.hid ho13
  clear d0 d1 d2 ho13 hb13 HT12 HM12
  go_wp2_with fail
  refine (HI.out A13 n w13 (Rd.own HO13.out)).mono ?_
  rintro e w14 ⟨Ah, ch, rfl, hoh, hb14⟩
  have z14 := hb14.size
  have HV14 := Lib.hid (HV13.out.trans (hb14.mono (by omega)))
  have HT14 := Lib.hid (own_below HT13.out hb14)
  have HM14 := Lib.hid (own_below HM13.out hb14)
  have HH14 := Lib.hid hoh
  clear hoh hb14 HT13 HM13 HO13
  go_wp2_with fail
  refine (eqInt64S_same Ah At T.length ch ct T _ hTm (Rd.own HH14.out) (Rd.own HT14.out)).mono ?_
  rintro e w15 ⟨rfl, hb15⟩
  have z15 := hb15.size
  have HV15 := Lib.hid (HV14.out.trans (hb15.mono (by omega)))
  have HM15 := Lib.hid (own_below HM14.out hb15)
  clear hb15 HT14 HM14 HH14
  go_wp2_with fail
  refine (heldInt64S_any Ag T.length cg 1 _ (by omega) (Rd.own HM15.out)).mono ?_
  rintro e w16 ⟨rfl, rfl⟩
  go_wp2
  go_ret
  exact ⟨rfl, HWV.out.trans (HV15.out.mono (by omega))⟩
end Go.Proofs.Ytoclpjhhjkcejaa
