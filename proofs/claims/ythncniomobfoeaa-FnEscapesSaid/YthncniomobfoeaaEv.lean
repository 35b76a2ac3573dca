/- Walk: the law on escapes. Conditions: rows of bytes. -/
import Derived.Test.YthncniomobfoeaaEx
import Derived.Test.YthncniomobfoeaaEu
import Derived.Test.YthncniomobfoeaaEh
import Derived.Test.YthncniomobfoeaaEn
import Derived.Test.YthncniomobfoeaaHk
import Derived.Test.YthncniomobfoeaaLc
import Derived.Test.YthncniomobfoeaaEa
import Derived.StillTailTactics
import Derived.Deep.CutRange
import Derived.BigQuiet
import Derived.Deep.QuietTactic
import Derived.Deep.RegionHeld3
namespace Go.Proofs.Ythncniomobfoeaa
open Go.RowKit
open Num Quick Circ
attribute [local go_sem] run_store_fl run_store_cx

set_option maxRecDepth 100000 in
theorem lawEs_long (A1 A2 : Option Addr) (n1 c1 n2 c2 : Nat) (w : World) (hn1 : n1 ≤ maxLen) (hn2 : n2 ≤ maxLen) (hbig : ¬ (n1 ≤ 48 ∧ n2 ≤ 48)) :
    Calls Try.prog 3 #[.slice A1 n1 c1, .slice A2 n2 c2] w fun e w' => e = .returned (.bool true) ∧ Below w.heap.size w w' := by
  have LC := r8Long_any A1 A2 n1 c1 n2 c2 w hn1 hn2
  rw [show (decide (48 < n1) || decide (48 < n2)) = true by simp; omega] at LC
  have LCH := Lib.hid LC
  clear LC
  go_enter Try.func3, Try.ntmps3
  go_wp2_with fail
  refine LCH.out.mono ?_
  rintro e w1 ⟨rfl, rfl⟩
  go_wp2
  go_ret
  exact ⟨rfl, Below.refl _ _⟩
theorem rInt64' (n : Int) : ∀ w : World, (convert 2 37 (.int .i64 n)).run Try.prog w = .ok (.float .f64 (floatOfInt .f64 n)) w := fun w => run_convert_int_float w _ _ _ _ _ (by rw [Try.underlying2]; rfl) Try.underlying37
theorem rInt32' (n : Int) : ∀ w : World, (convert 2 31 (.int .i64 n)).run Try.prog w = .ok (.float .f32 (floatOfInt .f32 n)) w := fun w => run_convert_int_float w _ _ _ _ _ (by rw [Try.underlying2]; rfl) Try.underlying31
set_option maxRecDepth 100000 in
set_option maxHeartbeats 100000000 in
theorem lawEs_any (A1 A2 : Option Addr) (n1 c1 n2 c2 : Nat) (bs bs2 : List Nat) (w : World) (hn1 : n1 ≤ 48) (hn2 : n2 ≤ 48) (hc1 : n1 ≤ c1) (hc2 : n2 ≤ c2) (hbs : ∀ x ∈ bs, x < 256) (hbs2 : ∀ x ∈ bs2, x < 256) (hA : Rd w w.heap.size 1 A1 n1 (bs.map u8v)) (hA2 : Rd w w.heap.size 1 A2 n2 (bs2.map u8v)) :
    Calls Try.prog 3 #[.slice A1 n1 c1, .slice A2 n2 c2] w fun e w' => e = .returned (.bool true) ∧ Below w.heap.size w w' := by
  have LC := r8Long_any A1 A2 n1 c1 n2 c2 w (by unfold maxLen; omega) (by unfold maxLen; omega)
  rw [show (decide (48 < n1) || decide (48 < n2)) = false by simp; omega] at LC
  have LCH := Lib.hid LC
  have hl2 : bs2.length = n2 := by have := hA2.len; simpa using this
  obtain ⟨kd, hkd, K1⟩ := r8At_val A2 n2 c2 0 4 bs2 hl2 (by omega) (by omega) (by omega) (by omega) hbs2
  obtain ⟨mo, hmo, M1⟩ := r8At_val A2 n2 c2 1 24 bs2 hl2 (by omega) (by omega) (by omega) (by omega) hbs2
  have KD := Lib.hid K1
  have MO := Lib.hid M1
  have RC := Lib.hid (fun w' (hb : Below w.heap.size w w') => R8Point_any n1 c1 A1 bs w' (by omega) hc1 hbs ((hA.below hb).more hb.size))
  have RZ := Lib.hid (fun w' (hb : Below w.heap.size w w') => R8Point_any n2 c2 A2 bs2 w' (by omega) hc2 hbs2 ((hA2.below hb).more hb.size))
  have AL2 := Lib.hid hA2
  clear LC hA hbs hA2 hbs2 hl2 K1 M1
  go_enter Try.func3, Try.ntmps3
  go_wp2_with fail
  refine LCH.out.mono ?_
  rintro e w0 ⟨rfl, hw0⟩
  obtain rfl := hw0.symm
  clear LCH
  go_wp2_with fail
  refine (KD.out w.heap.size w AL2.out).mono ?_
  rintro e w1 ⟨rfl, hw1⟩
  obtain rfl := hw1.symm
  go_wp2_with fail
  refine (RC.out _ (Below.refl _ _)).mono ?_
  rintro e w1 ⟨cx, cy, hcx, hcy, rfl, hb1⟩
  have V1 := Lib.hid hb1
  have PC := Lib.hid (ew_cb hcx hcy)
  obtain ⟨p, ep⟩ : ∃ p, ew cx = p := ⟨_, rfl⟩
  obtain ⟨q, eq⟩ : ∃ q, ew cy = q := ⟨_, rfl⟩
  rw [ep, eq] at PC ⊢
  obtain ⟨gm, egm⟩ : ∃ g, w1.heap.size = g := ⟨_, rfl⟩
  obtain ⟨v1, ev1⟩ : ∃ v, v = w1.alloc (.cells #[.int .i64 (kd : Int), .complex .f32 p q] 28) := ⟨_, rfl⟩
  have S1 : Hid (Held [.blk gm 28 #[.int .i64 (kd : Int), .complex .f32 p q], .low w] v1) := by
    rw [ev1, ← egm]
    exact Lib.hid (((Held.nil _).put (f := .low w) ⟨(V1.out.alloc V1.out.size _).size, V1.out.alloc V1.out.size _⟩).put (f := .blk _ _ _) (Blk.new _ _ _))
  have EV1 := Lib.hid ev1
  clear hb1 KD ep eq hcx hcy V1 ev1
  go_wp2_with fail
  rw [← EV1.out]
  refine (RZ.out _ (S1.out.low 1 rfl).2).mono ?_
  rintro e w2 ⟨zx, zy, hzx, hzy, rfl, hb2⟩
  have S2 := Lib.hid (S1.out.below hb2)
  have PZ := Lib.hid (ew_cb hzx hzy)
  obtain ⟨za, ez⟩ : ∃ p, ew zx = p := ⟨_, rfl⟩
  obtain ⟨zb, ezb⟩ : ∃ p, ew zy = p := ⟨_, rfl⟩
  rw [ez, ezb] at PZ ⊢
  have HA2 := Lib.hid (AL2.out.below (S2.out.low 1 rfl).2)
  clear hb2 S1 EV1 ez ezb hzx hzy RZ
  go_wp2_with fail
  refine (MO.out w.heap.size w2 HA2.out).mono ?_
  rintro e w3 ⟨rfl, hw3⟩
  obtain rfl := hw3.symm
  clear MO AL2 HA2
  have HW := S2.out.low 1 rfl
  have e0 := (S2.out.blk 0 rfl).cell 0
  have e1 := (S2.out.blk 0 rfl).cell 1
  obtain ⟨hcb, hcw, hcp⟩ := PC.out
  obtain ⟨hzb, hzw, hzp⟩ := PZ.out
  have hz110 : Cb ((110 : Nat) : Rat) (za, zb) := stays_cb hzb (by omega)
  obtain ⟨cn, ecn⟩ : ∃ n, cnt kd (p, q) (za, zb) mo = n := ⟨_, rfl⟩
  obtain ⟨ob, eob⟩ : ∃ f, orb kd (p, q) (za, zb) = f := ⟨_, rfl⟩
  have CN := Lib.hid (cnt_ok kd mo (by omega) hcb hz110 hzw)
  have ES := Lib.hid (fun w => EscapeOf_ok kd mo (p, q) (za, zb) w (by omega) hcb hz110 hzw (by omega))
  have SM := Lib.hid (fun w => SmoothOf_ok kd mo (p, q) (za, zb) w (by omega) hcb hz110 hzw (by omega))
  have OR := Lib.hid (fun w => OrbitOf_ok kd (cn + 1) (p, q) (za, zb) w (by omega) hcb hz110 hzw (by omega) (by have := CN.out.1; omega) (fun i hi => CN.out.2.1 i (by omega)))
  have OM := Lib.hid (fun i (hi : i < cnt kd (p, q) (za, zb) mo) w => orb_map (by omega) hcb (CN.out.2.2.2 i (by omega)).1 (CN.out.2.2.2 i (by omega)).2 (CN.out.2.1 i hi) w)
  rw [eob, ecn] at CN
  rw [eob, ecn] at OM
  rw [ecn] at ES SM
  rw [eob] at OR
  unfold mapV at ES SM OR
  clear hcb hcw hcp hzb hzw hzp hz110 HW
  have hcn : cn ≤ mo := CN.out.1
  obtain ⟨l, el⟩ : ∃ l, cn + 1 = l := ⟨_, rfl⟩
  have hl : (cn : Int) + 1 = (l : Int) := by omega
  rw [el] at OR
  have EL := Lib.hid el
  have hl25 : l ≤ 25 := by omega
  clear el
  go_wp2_with fail
  refine (ES.out _).mono ?_
  rintro e w4 ⟨rfl, hb4⟩
  have S4 := Lib.hid (S2.out.below hb4)
  have e0 := (S4.out.blk 0 rfl).cell 0
  have e1 := (S4.out.blk 0 rfl).cell 1
  clear hb4 S2 ES
  go_wp2_with fail
  refine (SM.out _).mono ?_
  rintro e w5 ⟨sm, rfl, hsf, hs0, hsn, hse, hb5⟩
  have S5 := Lib.hid (S4.out.below hb5)
  have e0 := (S5.out.blk 0 rfl).cell 0
  have e1 := (S5.out.blk 0 rfl).cell 1
  have SF := Lib.hid (show _ ∧ _ ∧ _ ∧ _ from ⟨hsf, hs0, hsn, hse⟩)
  clear hb5 S4 SM hsf hs0 hsn hse
  go_wp2_with fail
  refine (OR.out _).mono ?_
  rintro e w6 ⟨go, co, rfl, ho6, hb6⟩
  have S6 : Hid (Held [.rd w6.heap.size 1 (some ⟨go, 0, none⟩) l ((List.range l).map (fun i => cxv (ob i))), .blk gm 28 #[.int .i64 (kd : Int), .complex .f32 p q], .low w] w6) := Lib.hid ((S5.out.below hb6).put (Held.of_own ho6))
  clear hb6 ho6 S5 OR e0 e1
  obtain ⟨hsf, hs0, hsn, hse⟩ := SF.out
  obtain ⟨a1, y, r, a2, a3, a4⟩ := smooth_facts hsf hs0 hsn (by omega)
  have k1 := rWide a2
  have k2 := rInt64' (cn : Int)
  have k3 := rInt32' (cn : Int)
  have GP := Lib.hid a3
  have hsame : (FloatKind.f32.format.order sm sm != some .eq) = false := by rw [cmp_eq' hsf hsf rfl]; decide
  have hmo0 : decide ((mo : Int) < (cn : Int)) = false := by simp; omega
  have HSE := Lib.hid hse
  have SMF := Lib.hid hsf
  clear hsf hs0 hsn hse SF a2 a3
  go_upto_region 9 with fail
  go_cut [121] from 73 to 121 (fun sf wx => sf = .bool false ∧ wx = w6)
  case first =>
    as_aux_lemma =>
      by_cases hce : cn = mo
      · subst hce
        rw [← HSE.out rfl] at k3
        go_wp2_with (refine (GP.out _).mono ?_; rintro e w7 ⟨rfl, hw7⟩; obtain rfl := hw7.symm)
        go_meet
        exact ⟨rfl, rfl⟩
      · have hne : ((cn : Int) == (mo : Int)) = false := by simp; omega
        go_wp2_with (refine (GP.out _).mono ?_; rintro e w7 ⟨rfl, hw7⟩; obtain rfl := hw7.symm)
        go_meet
        exact ⟨by congr 1; simp; omega, rfl⟩
  case rest =>
    obtain ⟨rfl, hwc⟩ := hcut
    obtain rfl := hwc.symm
    clear k1 k2 k3 GP HSE SMF a1 a4 hsame hmo0
    go_wp2
    go_loopw [14] (fun sk wr => ∃ k : Nat, sk = .int .i64 (k : Int) ∧ k ≤ l ∧ Hid (Held [.rd w6.heap.size 1 (some ⟨go, 0, none⟩) l ((List.range l).map (fun i => cxv (ob i))), .blk gm 28 #[.int .i64 (kd : Int), .complex .f32 p q], .low w] wr)) (fun sk _ => l - (intOf sk).toNat)
    case atStart => exact ⟨0, rfl, Nat.zero_le _, S6⟩
    case round =>
      obtain ⟨k, rfl, hkl, S7⟩ := hrel
      clear S6
      by_cases hlt : k < l
      · as_aux_lemma =>
        have hkc : (k : Int) ≤ (cn : Int) := by omega
        have hkl' : (k : Int) < (l : Int) := by omega
        have OBK := (CN.out.2.2.2 k (by have := EL.out; omega)).1
        have PW := Lib.hid (pw_ok OBK).1
        have ole := out_le OBK
        have opw : (FloatKind.f32.format.order (pw (ob k)) (pw (ob k)) != some .eq) = false := by rw [cmp_eq' (pw_ok OBK).2.fin (pw_ok OBK).2.fin rfl]; decide
        have cK := held_cx S7.out 0 rfl hlt
        have SCK := Lib.hid (fun w => sameComplex_self OBK.1 OBK.2.1 w)
        have O1 : Hid (k < cn → out (ob k) = false) := Lib.hid fun h => CN.out.2.1 k h
        have O2 : Hid (k = cn → cn < mo → out (ob k) = true) := Lib.hid fun h h2 => by rw [h]; exact CN.out.2.2.1 h2
        obtain ⟨ok, eok⟩ : ∃ o, out (ob k) = o := ⟨_, rfl⟩
        rw [eok] at ole O1 O2
        clear OBK eok
        generalize pw (ob k) = pk at PW ole opw
        go_wp2_with fail
        refine (PW.out _).mono ?_
        rintro e w7 ⟨rfl, hw7⟩
        obtain rfl := hw7.symm
        clear PW
        go_upto_region 15 with fail
        go_cut [153] from 134 to 153 (fun sf wx => sf = .bool false ∧ wx = wr)
        case first =>
          clear OM RC PC CN
          by_cases hc : k < cn
          · obtain rfl : ok = false := O1.out hc
            have hc2 : (k : Int) < (cn : Int) := by omega
            have hne : ((k : Int) == (cn : Int)) = false := by simp; omega
            go_wp2
            go_meet
            exact ⟨by simp, rfl⟩
          · obtain rfl : cn = k := by have := EL.out; omega
            by_cases hm : cn < mo
            · obtain rfl : ok = true := O2.out rfl hm
              have hm2 : (cn : Int) < (mo : Int) := by omega
              go_wp2
              go_meet
              exact ⟨by simp, rfl⟩
            · have hm2 : ¬ (cn : Int) < (mo : Int) := by omega
              cases ok
              all_goals
                go_wp2
                go_meet
                exact ⟨by simp; try omega, rfl⟩
        case rest =>
          obtain ⟨rfl, hwc⟩ := hcut
          obtain rfl := hwc.symm
          clear O1 O2 ole opw
          by_cases hk0 : k = 0
          · subst hk0
            go_wp2
            go_roundw
            case rel => exact ⟨1, by go_num, by omega, S7⟩
            case measure => simp [intOf]; omega
          · obtain ⟨j, hj⟩ : ∃ j, j + 1 = k := ⟨k - 1, by omega⟩
            have hj1 : (k : Int) - 1 = (j : Int) := by omega
            have hj2 : j < l := by omega
            have hk1 : (0 : Int) < (k : Int) := by omega
            have hj3 : (j : Int) < (l : Int) := by omega
            have hj0 : (0 : Int) ≤ (j : Int) := by omega
            have hw1 : IntKind.i64.wrap ((k : Int) - 1) = (j : Int) := by rw [hj1]; exact IntWalk.i64_in _ (by omega)
            have MO0 := OM.out j (by have := EL.out; omega)
            rw [hj] at MO0
            have MO := Lib.hid MO0
            clear MO0 hj1
            have cJ := held_cx S7.out 0 rfl hj2
            clear OM hj
            obtain ⟨oj, ej⟩ : ∃ o, ob j = o := ⟨_, rfl⟩
            obtain ⟨ok1, ek⟩ : ∃ o, ob k = o := ⟨_, rfl⟩
            rw [ej] at cJ MO
            rw [ek] at cK MO SCK ⊢
            obtain ⟨j1, j2⟩ := oj
            obtain ⟨k1, k2⟩ := ok1
            simp only at cJ cK MO SCK
            have GJ : Hid (ob j = (j1, j2)) := Lib.hid ej
            have GK : Hid (ob k = (k1, k2)) := Lib.hid ek
            clear ej ek
            have SPH : Hid (∀ w', Below wr.heap.size wr w' → w'.cell? ⟨gm, 0, none⟩ = some (.int .i64 (kd : Int)) ∧ w'.cell? ⟨gm, 1, none⟩ = some (.complex .f32 p q) ∧ w'.cell? ⟨go, j, none⟩ = some (.complex .f32 j1 j2) ∧ Below wr.heap.size wr w') := Lib.hid fun w' hb => by
              have T := S7.out.below hb
              have R := T.blk 1 rfl
              have := held_cx T 0 rfl hj2
              rw [GJ.out] at this
              exact ⟨R.cell 0, R.cell 1, this, hb⟩
            obtain ⟨v0, v1, v2, _⟩ := SPH.out wr (Below.refl _ _)
            clear v2
            go_wp2
            go_region_held3 (fun w' => w'.cell? ⟨gm, 0, none⟩ = some (.int .i64 (kd : Int)) ∧ w'.cell? ⟨gm, 1, none⟩ = some (.complex .f32 p q) ∧ w'.cell? ⟨go, j, none⟩ = some (.complex .f32 j1 j2) ∧ Below wr.heap.size wr w')
              (first
                | exact SPH.out _ (Below.refl _ _).drew
                | exact SPH.out _ H6.out
                | go_keep)
              (first
                | (go_at_call 13; refine (MO.out _).mono ?_; rintro e w8 ⟨rfl, hb6⟩
                   have H6 : Hid (Below wr.heap.size wr w8) := Lib.hid ((Below.refl wr.heap.size wr).drew.trans (hb6.mono (Nat.le_refl _)))
                   clear hb6))
            all_goals
              have S8 := Lib.hid (S7.out.below H6.out)
              have cK := held_cx S8.out 0 rfl hlt
              rw [GK.out] at cK
              simp only at cK
              go_wp2_with fail
              refine (SCK.out _).mono ?_
              rintro e w9 ⟨rfl, hw9⟩
              obtain rfl := hw9.symm
              go_wp2
              go_roundw
              case rel => exact ⟨k + 1, by go_num, by omega, S8⟩
              case measure => simp [intOf]; omega
      · have hlc : ¬ ((k : Int) ≤ (cn : Int)) := by have := EL.out; omega
        have hlt' : (cn : Int) < (k : Int) := by omega
        clear CN OM EL
        go_wp2_with fail
        refine (RC.out _ (S7.out.low 2 rfl).2).mono ?_
        rintro e w7 ⟨dx, dy, hdx, hdy, rfl, hb7⟩
        have LW := Lib.hid ((S7.out.below hb7).low 2 rfl)
        have PD := (ew_cb hdx hdy).1
        have RL := rests_law hdx hdy PD
        have HL := heart_law hdx hdy PD
        have IV := inv5 PD PZ.out.1 PZ.out.2.2
        dsimp only at IV
        obtain ⟨r, er⟩ : ∃ p, ew dx = p := ⟨_, rfl⟩
        obtain ⟨s, es⟩ : ∃ p, ew dy = p := ⟨_, rfl⟩
        rw [er, es] at PD RL HL IV ⊢
        obtain ⟨a1, a2, b1, b2, RO, sa, sb, s1, s2, t1, t2, AD, SB, SH⟩ := RL
        obtain ⟨ib, IHC, EHC⟩ := HL
        obtain ⟨iv, sd, iv0, sd77, LED, IW5, IW0⟩ := IV
        obtain ⟨ua, va, MA, xa, ya, SA, LA⟩ := stays_map PD sa
        obtain ⟨ub, vb, MB, xb, yb, SBB, LB⟩ := stays_map PD sb
        have PD := Lib.hid PD
        have RO := Lib.hid RO
        have IHC := Lib.hid IHC
        have EHC := Lib.hid EHC
        have IV0 := Lib.hid iv0
        have SD := Lib.hid sd77
        have LED := Lib.hid LED
        have IW5 := Lib.hid IW5
        have IW0 := Lib.hid IW0
        have MA := Lib.hid MA
        have MB := Lib.hid MB
        have ALG := Lib.hid (show (_ ∧ _) ∧ (_ ∧ _) ∧ _ ∧ _ ∧ _ from ⟨⟨SA, LA⟩, ⟨SBB, LB⟩, AD, SB, SH⟩)
        obtain ⟨gs, egs⟩ : ∃ g, w7.heap.size = g := ⟨_, rfl⟩
        obtain ⟨v7, ev7⟩ : ∃ v, v = w7.alloc (.cells #[.int .i64 0, .complex .f32 r s] 28) := ⟨_, rfl⟩
        have S8 : Hid (Held [.blk gs 28 #[.int .i64 0, .complex .f32 r s], .low w] v7) := by
          rw [ev7, ← egs]
          exact Lib.hid (((Held.nil _).put (f := .low w) ⟨(LW.out.2.alloc LW.out.2.size _).size, LW.out.2.alloc LW.out.2.size _⟩).put (f := .blk _ _ _) (Blk.new _ _ _))
        have E7 := Lib.hid ev7
        have z0 : v7.cell? ⟨w7.heap.size, 0, none⟩ = some (.int .i64 0) := by rw [egs]; exact (S8.out.blk 0 rfl).cell 0
        have z1 : v7.cell? ⟨w7.heap.size, 1, none⟩ = some (.complex .f32 r s) := by rw [egs]; exact (S8.out.blk 0 rfl).cell 1
        rw [ev7] at z0 z1
        clear sa sb iv0 sd77 SA LA SBB LB AD SB SH er es hdx hdy hb7 S7 PC PZ ev7 RC hw0 hw1
        go_wp2_with fail
        refine (RO.out _).mono ?_
        rintro e w8 ⟨rfl, hw8⟩
        obtain rfl := hw8.symm
        clear RO
        go_wp2_with fail
        rw [← E7.out]
        refine (MA.out _).mono ?_
        rintro e w9 ⟨rfl, hb9⟩
        have S9 := Lib.hid (S8.out.below hb9)
        clear z0 z1 egs hb9 S8 E7 MA
        have z0 := (S9.out.blk 0 rfl).cell 0
        have z1 := (S9.out.blk 0 rfl).cell 1
        go_wp2_with fail
        refine (MB.out _).mono ?_
        rintro e w10 ⟨rfl, hb10⟩
        have S10 := Lib.hid (S9.out.below hb10)
        clear z0 z1 hb10 S9 MB
        obtain ⟨⟨SA, lA, vA, LA, qA, oA⟩, ⟨SBB, lB, vB, LB, qB, oB⟩, AD, SB, lC, vC, LC, qC, oC⟩ := ALG.out
        clear ALG
        have LA := Lib.hid LA
        have LB := Lib.hid LB
        have LC := Lib.hid LC
        have qA := rWide qA
        have qB := rWide qB
        have qC := rWide qC
        go_wp2_with fail
        refine (LA.out _).mono ?_
        rintro e w11 ⟨rfl, hw11⟩
        obtain rfl := hw11.symm
        clear LA
        go_wp2_with fail
        refine (LB.out _).mono ?_
        rintro e w11 ⟨rfl, hw11⟩
        obtain rfl := hw11.symm
        clear LB
        go_wp2_with fail
        refine (LC.out _).mono ?_
        rintro e w11 ⟨rfl, hw11⟩
        obtain rfl := hw11.symm
        clear LC
        go_upto_region 28 with fail
        clear SA SBB AD SB qA qB qC oA oB oC
        go_wp2_with fail
        refine (IHC.out _).mono ?_
        rintro e w11 ⟨rfl, hw11⟩
        obtain rfl := hw11.symm
        go_upto_if 235 with fail
        clear IHC
        go_cut [] from 236 to 246 (fun wx => Hid (Held [.blk gs 28 #[.int .i64 0, .complex .f32 r s], .low w] wx))
        case first =>
          as_aux_lemma =>
            have z0 := (S10.out.blk 0 rfl).cell 0
            have z1 := (S10.out.blk 0 rfl).cell 1
            cases ib with
            | false =>
              go_wp2
              go_meet
              exact S10
            | true =>
              have EC := Lib.hid (EHC.out rfl)
              clear EHC
              go_wp2_with fail
              refine (EC.out _).mono ?_
              rintro e w12 ⟨rfl, hb12⟩
              have S12 := Lib.hid (S10.out.below hb12)
              go_wp2
              go_meet
              exact S12
        case rest =>
          have S11 := hcut
          clear hcut EHC S10
          generalize wc = w11 at *
          go_wp2_with fail
          refine (IW5.out _).mono ?_
          rintro e w12 ⟨gl, cl, rfl, ho12, hb12⟩
          have S12 : Hid (Held [.rd w12.heap.size 1 (some ⟨gl, 0, none⟩) 5 ((List.range 5).map (fun i => cxv (iv (i + 1)))), .blk gs 28 #[.int .i64 0, .complex .f32 r s], .low w] w12) := Lib.hid ((S11.out.below hb12).put (Held.of_own ho12))
          clear hb12 ho12 S11 IW5
          go_wp2_with fail
          refine (IW0.out _).mono ?_
          rintro e w13 ⟨g0, c0, rfl, hb13⟩
          have S13 := Lib.hid (S12.out.below hb13)
          clear hb13 S12 IW0
          have hsd : ((sd : Int) == 77) = false := by have := SD.out; simp; omega
          clear SD
          go_wp2
          go_loopw [35, 36] (fun sl sk wr => ∃ k : Nat, sk = .int .i64 (k : Int) ∧ k ≤ 5 ∧ sl = .complex .f32 (iv k).1 (iv k).2 ∧ Hid (Held [.rd w12.heap.size 1 (some ⟨gl, 0, none⟩) 5 ((List.range 5).map (fun i => cxv (iv (i + 1)))), .blk gs 28 #[.int .i64 0, .complex .f32 r s], .low w] wr)) (fun _ sk _ => 5 - (intOf sk).toNat)
          case atStart => exact ⟨0, rfl, by omega, by rw [IV0.out], S13⟩
          case round =>
            clear S13 IV0
            obtain ⟨k, rfl, hk5, rfl, S14⟩ := hrel
            by_cases hlt : k < 5
            · as_aux_lemma =>
              have hk5' : (k : Int) < 5 := by omega
              obtain ⟨u, v, MO, dx, dy, SB, lD, vD, LD, qD, oD⟩ := led_map PD.out (LED.out k)
              have MO := Lib.hid MO
              have LD := Lib.hid LD
              have qD := rWide qD
              obtain ⟨o1, e1⟩ : ∃ o, iv k = o := ⟨_, rfl⟩
              obtain ⟨o2, e2⟩ : ∃ o, iv (k + 1) = o := ⟨_, rfl⟩
              rw [e1] at SB ⊢
              rw [e2] at MO
              obtain ⟨x1, y1⟩ := o1
              obtain ⟨x2, y2⟩ := o2
              simp only at SB MO
              have G2 : Hid (iv (k + 1) = (x2, y2)) := Lib.hid e2
              clear LED PD e1 e2
              have SPH : Hid (∀ w', Below wr.heap.size wr w' → w'.cell? ⟨gs, 0, none⟩ = some (.int .i64 0) ∧ w'.cell? ⟨gs, 1, none⟩ = some (.complex .f32 r s) ∧ w'.cell? ⟨gl, k, none⟩ = some (.complex .f32 x2 y2) ∧ Below wr.heap.size wr w') := Lib.hid fun w' hb => by
                have T := S14.out.below hb
                have R := T.blk 1 rfl
                have := held_cx (f := fun i => iv (i + 1)) T 0 rfl hlt
                simp only [G2.out] at this
                exact ⟨R.cell 0, R.cell 1, this, hb⟩
              obtain ⟨v0, v1, v2, _⟩ := SPH.out wr (Below.refl _ _)
              go_wp2
              go_region_held3 (fun w' => w'.cell? ⟨gs, 0, none⟩ = some (.int .i64 0) ∧ w'.cell? ⟨gs, 1, none⟩ = some (.complex .f32 r s) ∧ w'.cell? ⟨gl, k, none⟩ = some (.complex .f32 x2 y2) ∧ Below wr.heap.size wr w')
                (first
                  | exact SPH.out _ (Below.refl _ _).drew
                  | exact SPH.out _ H6.out
                  | go_keep)
                (first
                  | (go_at_call 13; refine (MO.out _).mono ?_; rintro e w15 ⟨rfl, hb6⟩
                     have H6 : Hid (Below wr.heap.size wr w15) := Lib.hid ((Below.refl wr.heap.size wr).drew.trans (hb6.mono (Nat.le_refl _)))
                     clear hb6))
              all_goals
                have S15 := Lib.hid (S14.out.below H6.out)
                obtain ⟨v0, v1, v2, _⟩ := SPH.out _ H6.out
                go_wp2_with fail
                refine (LD.out _).mono ?_
                rintro e w16 ⟨rfl, hw16⟩
                obtain rfl := hw16.symm
                go_wp2
                go_roundw
                case rel => exact ⟨k + 1, by go_num, by omega, by rw [G2.out], S15⟩
                case measure => simp [intOf]; omega
            · obtain rfl : k = 5 := by omega
              go_wp2
              go_ret
              exact ⟨rfl, (S14.out.low 2 rfl).2⟩
end Go.Proofs.Ythncniomobfoeaa
