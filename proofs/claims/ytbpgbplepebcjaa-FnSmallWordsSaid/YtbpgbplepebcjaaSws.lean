/- Walk: the law FnSmallWords: it returns true. Conditions: at most 2^20 bytes each (the longer ones apart). -/
import Derived.Test.YtbpgbplepebcjaaSwr
import Derived.Test.YtbpgbplepebcjaaSwn
import Derived.Test.YtbpgbplepebcjaaSwp
import Derived.Test.YtbpgbplepebcjaaLc
namespace Go.Proofs.Ytbpgbplepebcjaa
open Go.RowKit
open Num Quick
attribute [local go_sem] run_store_fl run_store_cx

theorem rd_nv {w' : World} {g n B : Nat} {D : List Nat} (h : Rd w' B 1 (some ⟨g, 0, none⟩) n (D.map nv)) (hl : D.length = n) {i : Nat} (hi : i < n) : w'.cell? ⟨g, i, none⟩ = some (.int .i64 ((D.getD i 0 : Nat) : Int)) := by
  obtain ⟨b, off, e, _, hc⟩ := h.2 (by omega)
  obtain ⟨rfl, rfl⟩ : g = b ∧ 0 = off := by injection e with e; injection e with e1 e2; exact ⟨e1, e2⟩
  have := hc i _ (nv_get hl hi)
  simpa using this
theorem rd_nvA {w' : World} {A : Option Addr} {n B : Nat} {D : List Nat} (h : Rd w' B 1 A n (D.map nv)) (hl : D.length = n) {i : Nat} (hi : i < n) : ∃ b off, A = some ⟨b, off, none⟩ ∧ w'.cell? ⟨b, off + i, none⟩ = some (.int .i64 ((D.getD i 0 : Nat) : Int)) := by
  obtain ⟨b, off, e, _, hc⟩ := h.2 (by omega)
  exact ⟨b, off, e, hc i _ (nv_get hl hi)⟩
set_option maxRecDepth 100000 in
set_option maxHeartbeats 400000 in
theorem lawSw_long (A1 A2 : Option Addr) (n1 c1 n2 c2 : Nat) (w : World) (hn1 : n1 ≤ maxLen) (hn2 : n2 ≤ maxLen) (hbig : ¬ (n1 ≤ 1048576 ∧ n2 ≤ 1048576)) :
    Calls Try.prog 5 #[.slice A1 n1 c1, .slice A2 n2 c2] w fun e w' => e = .returned (.bool true) ∧ Below w.heap.size w w' := by
  have e : (decide (1048576 < n1) || decide (1048576 < n2)) = true := by
    by_cases h : n1 ≤ 1048576
    · have : 1048576 < n2 := by omega
      simp [this]
    · have : 1048576 < n1 := by omega
      simp [this]
  have LC := b10Long_any A1 A2 n1 c1 n2 c2 w hn1 hn2
  rw [e] at LC
  have LCH := Lib.hid LC
  clear LC e
  go_enter Try.func5, Try.ntmps5
  go_wp2_with fail
  refine LCH.out.mono ?_
  rintro e w1 ⟨rfl, rfl⟩
  go_wp2
  go_ret
  exact ⟨rfl, Below.refl _ _⟩
set_option maxRecDepth 100000 in
set_option maxHeartbeats 32000000 in
theorem lawSw_any (A1 A2 : Option Addr) (n1 c1 n2 c2 : Nat) (bs bs2 : List Nat) (w : World) (hn1 : n1 ≤ 1048576) (hn2 : n2 ≤ 1048576) (hc1 : n1 ≤ c1) (hc2 : n2 ≤ c2) (hbs : ∀ x ∈ bs, x < 256) (hbs2 : ∀ x ∈ bs2, x < 256) (hA : Rd w w.heap.size 1 A1 n1 (bs.map u8v)) (hA2 : Rd w w.heap.size 1 A2 n2 (bs2.map u8v)) :
    Calls Try.prog 5 #[.slice A1 n1 c1, .slice A2 n2 c2] w fun e w' => e = .returned (.bool true) ∧ Below w.heap.size w w' := by
  have LC := b10Long_any A1 A2 n1 c1 n2 c2 w (by unfold maxLen; omega) (by unfold maxLen; omega)
  rw [show (decide (1048576 < n1) || decide (1048576 < n2)) = false by simp; omega] at LC
  have LCH := Lib.hid LC
  have SC := Lib.hid (B10Smalls_any n1 c1 A1 bs w hn1 hc1 hbs hA)
  have hl2 : bs2.length = n2 := by have := hA2.len; simpa using this
  obtain ⟨y, hy, YC⟩ := b10At_val A2 n2 c2 0 3 bs2 hl2 hn2 (by omega) (by omega) (by omega) hbs2
  replace YC := Lib.hid (fun w' (hb : Below w.heap.size w w') => YC _ _ (hA2.below hb))
  have ZC := Lib.hid (fun i (hi : i ≤ 999) => b10At_val A2 n2 c2 i 16 bs2 hl2 hn2 (by omega) (by omega) (by omega) hbs2)
  have HA2 := Lib.hid hA2
  have HB2 := Lib.hid hbs2
  clear LC hA hbs hA2 hbs2 hl2
  go_enter Try.func5, Try.ntmps5
  go_wp2_with fail
  refine LCH.out.mono ?_
  rintro e w0 ⟨rfl, hw0⟩
  obtain rfl := hw0.symm
  go_wp2_with fail
  refine SC.out.mono ?_
  intro e w1 hD
  obtain ⟨L, N, g, cc, rfl, hL, hN, hok, hR, hG⟩ := hD
  rw [hL] at hR ⊢
  have RD := Lib.hid (Rd.own hR)
  have B1 := Lib.hid hG
  clear LCH SC hw0 hR hG
  go_wp2_with fail
  refine (YC.out _ B1.out).mono ?_
  rintro e w2 ⟨rfl, hw2⟩
  obtain rfl := hw2.symm
  clear hw2 YC
  obtain ⟨l, el⟩ : ∃ l, y + 1 = l := ⟨_, rfl⟩
  have hl1 : 1 ≤ l := by omega
  have hl3 : l ≤ 3 := by omega
  have elI : (1 : Int) + (y : Int) = (l : Int) := by omega
  obtain ⟨C, hC⟩ : ∃ C, N ^ l = C := ⟨_, rfl⟩
  have hC64 : C ≤ 64 := by rw [← hC]; exact pow_le64 hN hl3
  have hC1 : 1 ≤ C := by rw [← hC]; exact Nat.pow_pos (by omega)
  have HCC := Lib.hid hC
  have HLN := Lib.hid (show L.length = N ∧ (N = 1 ∨ N = 2 ∨ N = 4) ∧ ∀ x ∈ L, x.ok N from ⟨hL, hN, hok⟩)
  have hN1 : 1 ≤ N := by omega
  have hN4 : N ≤ 4 := by omega
  have PW := Lib.hid (fun i (hi : i ≤ l) => pow_le64 (l := i) hN (by omega))
  clear el hy hL hN hok hC
  go_wp2
  go_loop [8, 9] (fun s8 s9 => ∃ i x : Nat, s9 = .int .i64 (i : Int) ∧ i ≤ l ∧ s8 = .int .i64 (x : Int) ∧ Hid (x = N ^ i)) (fun _ s9 => l - (intOf s9).toNat)
  case atStart => exact ⟨0, 1, rfl, Nat.zero_le _, rfl, rfl⟩
  case round =>
    obtain ⟨i, x, rfl, hi, rfl, HX⟩ := hrel
    by_cases hil : i < l
    · obtain ⟨x', hx'⟩ : ∃ x', x * N = x' := ⟨_, rfl⟩
      have hxI : (x : Int) * (N : Int) = (x' : Int) := by rw [← hx']; simp
      have hx64 : x' ≤ 64 := by
        have h := PW.out (i + 1) hil
        rw [Nat.pow_succ, ← HX.out, hx'] at h
        exact h
      have hxw : wrap64 (x' : Int) = (x' : Int) := IntWalk.wrap64_in _ (by omega)
      have HX' : Hid (x' = N ^ (i + 1)) := Lib.hid (by rw [← hx', HX.out, Nat.pow_succ])
      have hilI : (i : Int) < (l : Int) := Int.ofNat_lt.mpr hil
      have HXW := Lib.hid hxw
      clear hx' HX hxw
      go_wp2
      go_round
      case rel =>
        clear hxI
        exact ⟨i + 1, x', by go_num, by omega, by first | rfl | rw [HXW.out] | go_num, HX'⟩
      case measure => simp [intOf]; omega
    · obtain rfl : l = i := by omega
      obtain rfl : C = x := by rw [HX.out]; exact HCC.out.symm
      clear HX PW elI
      have PT := Lib.hid (B10Points_any n2 c2 1 A2 bs2 w1 (by omega) hn2 hc2 HB2.out ((HA2.out.below B1.out).more B1.out.size))
      go_wp2_with fail
      refine PT.out.mono ?_
      rintro e w4 ⟨Z, Az, cz, rfl, hZ, hZok, hZr, hb4⟩
      obtain ⟨z, rfl⟩ : ∃ z, Z = [z] := by
        rcases Z with _ | ⟨z, _ | ⟨z', Z⟩⟩
        · simp at hZ
        · exact ⟨z, rfl⟩
        · simp at hZ
      obtain ⟨gz, oz, rfl, hgz, hcz⟩ := (Rd.own hZr).2 (by simp)
      have z0 : w4.cell? ⟨gz, oz, none⟩ = some (.complex .f32 z.1 z.2) := by have := hcz 0 _ rfl; rwa [Nat.add_zero] at this
      have ZOK := Lib.hid (hZok z (by simp))
      have B4 := Lib.hid (B1.out.trans (hb4.mono B1.out.size))
      have R4 := Lib.hid ((RD.out.below hb4).more hb4.size)
      clear hZ hZok hZr hcz hgz hb4 PT RD B1
      go_wp2
      clear z0
      have LN := HLN
      have WA := Lib.hid (fun k (hk : k ≤ C) w' (hb : Below w4.heap.size w4 w') => wordAt_w L N l k (some ⟨g, 0, none⟩) cc w' LN.out.1 LN.out.2.1 LN.out.2.2 ((R4.out.below hb).more hb.size) hl1 (by omega) (by omega))
      have WS := Lib.hid (fun D w' (hb : Below w4.heap.size w4 w') AD cD (hDl : D.length = l) (hD : ∀ d ∈ D, d < N) (hRD : Rd w' w'.heap.size 1 AD l (D.map nv)) => wordSmall_w L N l D (some ⟨g, 0, none⟩) AD cc cD w' LN.out.1 LN.out.2.1 LN.out.2.2 ((R4.out.below hb).more hb.size) hl1 hl3 hDl hD hRD)
      have WH := Lib.hid (fun D w' (hb : Below w4.heap.size w4 w') AD cD (hDl : D.length = l) (hD : ∀ d ∈ D, d < N) (hRD : Rd w' w'.heap.size 1 AD l (D.map nv)) => wordShare_w L N l D (some ⟨g, 0, none⟩) AD cc cD w' LN.out.1 LN.out.2.1 LN.out.2.2 ((R4.out.below hb).more hb.size) hl1 hl3 hDl hD hRD)
      have WP := Lib.hid (fun D w' (hb : Below w4.heap.size w4 w') AD cD (hDl : D.length = l) (hD : ∀ d ∈ D, d < N) (hRD : Rd w' w'.heap.size 1 AD l (D.map nv)) => wordPlace_w L N l D (some ⟨g, 0, none⟩) AD cc cD z w' LN.out.1 LN.out.2.1 LN.out.2.2 ((R4.out.below hb).more hb.size) hl1 hl3 hDl hD hRD ZOK.out)
      go_loopw [11, 12, 13] (fun s11 s12 s13 wr => ∃ (k S : Nat) (Ab : Option Addr) (lb cb : Nat), s13 = .int .i64 (k : Int) ∧ k ≤ C ∧ s11 = .float .f64 S ∧ Hid (SumR C k S) ∧ s12 = .slice Ab lb cb ∧ Hid (1 ≤ k → lb = l ∧ Rd wr wr.heap.size 1 Ab l ((dgs N l (k - 1)).map nv)) ∧ Hid (Below w4.heap.size w4 wr)) (fun _ _ s13 _ => C - (intOf s13).toNat)
      case atStart => exact ⟨0, 0, none, 0, 0, rfl, Nat.zero_le _, rfl, Lib.hid (sum_start C), rfl, Lib.hid (fun h => absurd h (by decide)), Lib.hid (Below.refl _ _)⟩
      case round =>
        obtain ⟨k, S, Ab, lb, cb, rfl, hk, rfl, HS, rfl, HBF, HB⟩ := hrel
        by_cases hkC : k < C
        · have hkI : (k : Int) < (C : Int) := Int.ofNat_lt.mpr hkC
          have CA := Lib.hid (WA.out k hk wr HB.out)
          have K0 : Hid (k / N ^ l = 0) := Lib.hid (by rw [HCC.out]; exact Nat.div_eq_of_lt hkC)
          go_wp2_with fail
          refine CA.out.mono ?_
          intro e w5 hD
          obtain ⟨hD1, _, hb5⟩ := hD
          obtain ⟨gw, hgw, rfl, hwo⟩ := hD1 K0.out
          have W5 := Lib.hid (Rd.own hwo)
          have B5 := Lib.hid (HB.out.trans (hb5.mono HB.out.size))
          have BF5 := Lib.hid (fun (h : 1 ≤ k) => show lb = l ∧ Rd w5 w5.heap.size 1 Ab l ((dgs N l (k - 1)).map nv) from ⟨(HBF.out h).1, ((HBF.out h).2.below hb5).more hb5.size⟩)
          have DL : Hid ((dgs N l k).length = l) := Lib.hid (dgs_length N l k)
          have DN : Hid (∀ d ∈ dgs N l k, d < N) := Lib.hid (dgs_lt (by omega))
          have CS := Lib.hid (WS.out (dgs N l k) w5 B5.out (some ⟨gw, 0, none⟩) l DL.out DN.out W5.out)
          clear hD1 hb5 hwo hgw CA K0 HBF HB
          go_wp2_with fail
          refine CS.out.mono ?_
          intro e w6 hD
          obtain ⟨o, rfl, hoC, hoR, hb6⟩ := hD
          have HO := Lib.hid hoC
          have HOR := Lib.hid hoR
          have B6 := Lib.hid (B5.out.trans (hb6.mono B5.out.size))
          have W6 := Lib.hid ((W5.out.below hb6).more hb6.size)
          have BF6 := Lib.hid (fun (h : 1 ≤ k) => show lb = l ∧ Rd w6 w6.heap.size 1 Ab l ((dgs N l (k - 1)).map nv) from ⟨(BF5.out h).1, ((BF5.out h).2.below hb6).more hb6.size⟩)
          clear hoC hoR hb6 CS B5 W5 BF5
          unfold smallV
          obtain ⟨v6, ev6⟩ : ∃ v6, v6 = w6.alloc (.cells (smallC o.a o.b o.c o.d o.fl o.s) 29) := ⟨_, rfl⟩
          have A6 : Below w6.heap.size w6 v6 := by rw [ev6]; exact (Below.refl _ _).alloc (Nat.le_refl _) _
          have KB : Hid (Blk v6 w6.heap.size 29 (smallC o.a o.b o.c o.d o.fl o.s)) := by rw [ev6]; exact Blk.new _ _ _
          have B7 := Lib.hid (B6.out.trans (A6.mono B6.out.size))
          have W7 := Lib.hid ((W6.out.below A6).more A6.size)
          have BF7 := Lib.hid (fun (h : 1 ≤ k) => show lb = l ∧ Rd v6 v6.heap.size 1 Ab l ((dgs N l (k - 1)).map nv) from ⟨(BF6.out h).1, ((BF6.out h).2.below A6).more A6.size⟩)
          have EV6 := Lib.hid ev6
          unfold smallC at EV6
          have CH := Lib.hid (WH.out (dgs N l k) v6 B7.out (some ⟨gw, 0, none⟩) l DL.out DN.out W7.out)
          clear ev6 A6 B6 W6 BF6
          go_wp2_with fail
          rw [← EV6.out]
          refine CH.out.mono ?_
          intro e w8 hD
          obtain ⟨s8, rfl, hs8, hb8⟩ := hD
          have HS8 := Lib.hid hs8
          have B8 := Lib.hid (B7.out.trans (hb8.mono B7.out.size))
          have W8 := Lib.hid ((W7.out.below hb8).more hb8.size)
          have BF8 := Lib.hid (fun (h : 1 ≤ k) => show lb = l ∧ Rd w8 w8.heap.size 1 Ab l ((dgs N l (k - 1)).map nv) from ⟨(BF7.out h).1, ((BF7.out h).2.below hb8).more hb8.size⟩)
          have K8 := Lib.hid (KB.out.below hb8 KB.out.lt)
          have CP := Lib.hid (WP.out (dgs N l k) w8 B8.out (some ⟨gw, 0, none⟩) l DL.out DN.out W8.out)
          clear hs8 hb8 CH B7 W7 BF7 KB EV6
          go_wp2_with fail
          refine CP.out.mono ?_
          intro e w9 hD
          obtain ⟨zp, rfl, hzp, hzR, hb9⟩ := hD
          have HZP := Lib.hid hzp
          have HZR := Lib.hid hzR
          have B9 := Lib.hid (B8.out.trans (hb9.mono B8.out.size))
          have W9 := Lib.hid ((W8.out.below hb9).more hb9.size)
          have BF9 := Lib.hid (fun (h : 1 ≤ k) => show lb = l ∧ Rd w9 w9.heap.size 1 Ab l ((dgs N l (k - 1)).map nv) from ⟨(BF8.out h).1, ((BF8.out h).2.below hb9).more hb9.size⟩)
          have K9 := Lib.hid (K8.out.below hb9 K8.out.lt)
          clear hzp hzR hb9 CP B8 W8 BF8 K8
          obtain ⟨za, fa1, fa2, MC, haR⟩ := cp_mapSmall HO.out ZOK.out (by omega)
          have hpt : ptR zp = ptR za := by rw [HZR.out, haR, HOR.out]
          obtain ⟨dx, dy, dl, dq, q1, q2, q3, hgt⟩ := same_point HZP.out.x.fin HZP.out.y.fin fa1 fa2 hpt
          have MCH := Lib.hid MC
          have LCH := Lib.hid q2
          obtain ⟨m0, m1, m2, m3⟩ := K9.out.smC
          clear MC q2 hpt haR fa1 fa2 HZP HZR HOR HO K9
          obtain ⟨oa, ob, oc, od', of, os⟩ := o
          simp only at m0 m1 m2 m3 MCH
          unfold smallV at MCH
          go_wp2_with fail
          refine (MCH.out _).mono ?_
          rintro e w10 ⟨rfl, hb10⟩
          have B10 := Lib.hid (B9.out.trans (hb10.mono B9.out.size))
          have W10 := Lib.hid ((W9.out.below hb10).more hb10.size)
          have BF10 := Lib.hid (fun (h : 1 ≤ k) => show lb = l ∧ Rd w10 w10.heap.size 1 Ab l ((dgs N l (k - 1)).map nv) from ⟨(BF9.out h).1, ((BF9.out h).2.below hb10).more hb10.size⟩)
          clear hb10 MCH m0 m1 m2 m3 B9 W9 BF9
          go_wp2_with fail
          refine (LCH.out _).mono ?_
          rintro e w11 ⟨rfl, hw11⟩
          obtain rfl := hw11.symm
          clear hw11 LCH
          go_wp2
          clear hgt q1 q3
          have OU : Hid (1 ≤ k → ordF (dgs N l k) (dgs N l (k - 1)) l = 1) := Lib.hid (fun h => ord_up N LN.out.2.1 l hl1 hl3 k h (by rw [HCC.out]; exact hkC))
          go_loopw [24, 131] (fun s24 s131 wr => ∃ (i : Nat) (o : Int), s131 = .int .i64 (i : Int) ∧ i ≤ l ∧ s24 = .int .i64 o ∧ Hid (k = 0 → o = 0) ∧ Hid (1 ≤ k → o = ordF (dgs N l k) (dgs N l (k - 1)) i) ∧ Hid (Rd wr wr.heap.size 1 (some ⟨gw, 0, none⟩) l ((dgs N l k).map nv)) ∧
            Hid (1 ≤ k → lb = l ∧ Rd wr wr.heap.size 1 Ab l ((dgs N l (k - 1)).map nv)) ∧ Hid (Below w4.heap.size w4 wr)) (fun _ s131 _ => l - (intOf s131).toNat)
          case atStart => exact ⟨0, 0, rfl, Nat.zero_le _, rfl, Lib.hid (fun _ => rfl), Lib.hid (fun _ => rfl), W10, BF10, B10⟩
          case round =>
            obtain ⟨i, o, rfl, hi, rfl, HO0, HO1, HW, HBF, HB⟩ := hrel
            clear W10 BF10 B10
            by_cases hil : i < l
            · have hilI : (i : Int) < (l : Int) := Int.ofNat_lt.mpr hil
              have ca := rd_nv HW.out (dgs_length N l k) hil
              have haN : (dgs N l k).getD i 0 < N := DN.out _ (by
                have h : i < (dgs N l k).length := by rw [DL.out]; exact hil
                rw [List.getD_eq_getElem?_getD, List.getElem?_eq_getElem h]
                exact List.getElem_mem h)
              obtain ⟨a, ha⟩ : ∃ a, (dgs N l k).getD i 0 = a := ⟨_, rfl⟩
              rw [ha] at ca haN
              have haI : (a : Int) < (N : Int) := Int.ofNat_lt.mpr haN
              have ha0 : (0 : Int) ≤ (a : Int) := Int.natCast_nonneg a
              have HA := Lib.hid ha
              clear ha haN
              have DRW : Hid (∀ n, Rd (wr.drewN n) (wr.drewN n).heap.size 1 (some ⟨gw, 0, none⟩) l ((dgs N l k).map nv) ∧ (1 ≤ k → lb = l ∧ Rd (wr.drewN n) (wr.drewN n).heap.size 1 Ab l ((dgs N l (k - 1)).map nv)) ∧ Below w4.heap.size w4 (wr.drewN n)) := Lib.hid (fun n => ⟨HW.out.below (below_drewN (Below.refl _ _) n), fun h => ⟨(HBF.out h).1, (HBF.out h).2.below (below_drewN (Below.refl _ _) n)⟩, below_drewN HB.out n⟩)
              by_cases hk0 : k = 0
              · obtain rfl := HO0.out hk0
                have hkd : decide ((0 : Int) < (k : Int)) = false := by rw [hk0]; rfl
                have hkd2 : decide (0 < k) = false := by rw [hk0]; rfl
                have HK0 := Lib.hid hk0
                clear hk0 HO0 HO1 HW HBF HB
                go_wp2
                go_quiet (fail)
                go_wp2
                go_roundw
                case rel => exact ⟨i + 1, 0, by go_num, by omega, rfl, Lib.hid (fun _ => rfl), Lib.hid (fun h => absurd HK0.out (by omega)), Lib.hid (DRW.out _).1, Lib.hid (DRW.out _).2.1, Lib.hid (DRW.out _).2.2⟩
                case measure => simp [intOf]; omega
              · have hk1 : 1 ≤ k := by omega
                have ho := HO1.out hk1
                obtain ⟨elb, hRB⟩ := HBF.out hk1
                obtain ⟨bb, ob, eAb, cb1⟩ := rd_nvA hRB (dgs_length N l (k - 1)) hil
                have OST : Hid (ordF (dgs N l k) (dgs N l (k - 1)) (i + 1) = if o = 0 ∧ a ≠ (dgs N l (k - 1)).getD i 0 then (if a < (dgs N l (k - 1)).getD i 0 then -1 else 1) else o) := Lib.hid (by rw [ho, ← HA.out]; rfl)
                obtain ⟨b, hb⟩ : ∃ b, (dgs N l (k - 1)).getD i 0 = b := ⟨_, rfl⟩
                rw [hb] at OST cb1
                have HKN := Lib.hid hk0
                have hkd : decide ((0 : Int) < (k : Int)) = true := decide_eq_true (by omega)
                have hkd2 : decide (0 < k) = true := decide_eq_true (by omega)
                clear hb hRB HO0 HO1 HW HBF HB ho hk0
                subst elb
                subst eAb
                by_cases ho0 : o = 0
                · subst ho0
                  by_cases hab : a = b
                  · subst hab
                    go_wp2
                    go_quiet (fail)
                    go_wp2
                    go_roundw
                    case rel => exact ⟨i + 1, 0, by go_num, by omega, rfl, Lib.hid (fun h => absurd h HKN.out), Lib.hid (fun h => by rw [OST.out, if_neg (fun h => h.2 rfl)]), Lib.hid (DRW.out _).1, Lib.hid (DRW.out _).2.1, Lib.hid (DRW.out _).2.2⟩
                    case measure => simp [intOf]; omega
                  · have x1 : ((a : Int) == (b : Int)) = false := by simp; omega
                    have x2 : (a == b) = false := by simpa using hab
                    have x3 : ((a : Int) != (b : Int)) = true := by simp; omega
                    have x4 : (a != b) = true := by simpa using hab
                    by_cases hlt : a < b
                    · have y1 : decide ((a : Int) < (b : Int)) = true := decide_eq_true (by omega)
                      have y2 : decide (a < b) = true := decide_eq_true hlt
                      have HAB := Lib.hid (And.intro hab hlt)
                      clear hab hlt
                      go_wp2
                      go_quiet (fail)
                      go_wp2
                      go_quiet (fail)
                      go_wp2
                      go_roundw
                      case rel => exact ⟨i + 1, -1, by go_num, by omega, rfl, Lib.hid (fun h => absurd h HKN.out), Lib.hid (fun h => by rw [OST.out, if_pos ⟨by first | rfl | trivial, HAB.out.1⟩, if_pos HAB.out.2]), Lib.hid (DRW.out _).1, Lib.hid (DRW.out _).2.1, Lib.hid (DRW.out _).2.2⟩
                      case measure => simp [intOf]; omega
                    · have y1 : decide ((a : Int) < (b : Int)) = false := decide_eq_false (by omega)
                      have y2 : decide (a < b) = false := decide_eq_false hlt
                      have HAB := Lib.hid (And.intro hab hlt)
                      clear hab hlt
                      go_wp2
                      go_quiet (fail)
                      go_wp2
                      go_quiet (fail)
                      go_wp2
                      go_roundw
                      case rel => exact ⟨i + 1, 1, by go_num, by omega, rfl, Lib.hid (fun h => absurd h HKN.out), Lib.hid (fun h => by rw [OST.out, if_pos ⟨by first | rfl | trivial, HAB.out.1⟩, if_neg HAB.out.2]), Lib.hid (DRW.out _).1, Lib.hid (DRW.out _).2.1, Lib.hid (DRW.out _).2.2⟩
                      case measure => simp [intOf]; omega
                · have x1 : (o == 0) = false := by simpa using ho0
                  have HOZ := Lib.hid ho0
                  clear ho0
                  go_wp2
                  go_quiet (fail)
                  go_wp2
                  go_roundw
                  case rel => exact ⟨i + 1, o, by go_num, by omega, rfl, Lib.hid (fun h => absurd h HKN.out), Lib.hid (fun h => by rw [OST.out, if_neg (fun h => HOZ.out h.1)]), Lib.hid (DRW.out _).1, Lib.hid (DRW.out _).2.1, Lib.hid (DRW.out _).2.2⟩
                  case measure => simp [intOf]; omega
            · obtain rfl : l = i := by omega
              obtain ⟨Q, S', hq1, hq2, hS'⟩ : ∃ Q S', (∀ w : World, (convert 27 40 (.float .f32 s8)).run Try.prog w = .ok (.float .f64 Q) w) ∧ (∀ w : World, (binOp .add 40 (.float .f64 S) (.float .f64 Q)).run Try.prog w = .ok (.float .f64 S') w) ∧ SumR C (k + 1) S' := by
                have := sum_step LN.out.2.1 hl3 (by rw [HCC.out]; exact hkC) (by rw [HCC.out]; exact HS.out) HS8.out
                rw [HCC.out] at this
                exact this
              have HS' := Lib.hid hS'
              have BFN : Hid (1 ≤ k + 1 → l = l ∧ Rd wr wr.heap.size 1 (some ⟨gw, 0, none⟩) l ((dgs N l (k + 1 - 1)).map nv)) := Lib.hid (fun _ => ⟨rfl, HW.out⟩)
              clear hS' HW HBF
              by_cases hk0 : k = 0
              · have hkd : decide ((0 : Int) < (k : Int)) = false := by rw [hk0]; rfl
                have hkd2 : decide (0 < k) = false := by rw [hk0]; rfl
                clear hk0 HO0 HO1 HS
                go_wp2
                go_roundw
                case rel => exact ⟨k + 1, S', _, l, l, by go_num, by omega, rfl, HS', rfl, BFN, HB⟩
                case measure => simp [intOf]; omega
              · have hkd : decide ((0 : Int) < (k : Int)) = true := decide_eq_true (by omega)
                have hkd2 : decide (0 < k) = true := decide_eq_true (by omega)
                obtain rfl : o = 1 := by rw [HO1.out (by omega)]; exact OU.out (by omega)
                clear hk0 HO0 HO1 HS OU
                go_wp2
                go_roundw
                case rel => exact ⟨k + 1, S', _, l, l, by go_num, by omega, rfl, HS', rfl, BFN, HB⟩
                case measure => simp [intOf]; omega
        · obtain rfl : C = k := by omega
          have CA := Lib.hid (WA.out C (Nat.le_refl _) wr HB.out)
          have K0 : Hid (0 < C / N ^ l) := Lib.hid (by rw [HCC.out, Nat.div_self (by omega)]; decide)
          obtain ⟨gd, gd1, gd2⟩ := gap_one HS.out.fl (sum_end (by omega) HS.out)
          have GC := Lib.hid gd1
          have BO := Lib.hid (fun w' (hb : Below w4.heap.size w4 w') => ballOf_w L N (some ⟨g, 0, none⟩) cc w' LN.out.1 LN.out.2.1 LN.out.2.2 ((R4.out.below hb).more hb.size))
          clear gd1 WA WS WH WP HBF HS hk hkC
          go_wp2_with fail
          refine CA.out.mono ?_
          intro e w5 hD
          obtain ⟨_, hD1, hb5⟩ := hD
          obtain rfl := hD1 K0.out
          have B5 := Lib.hid (HB.out.trans (hb5.mono HB.out.size))
          clear hD1 hb5 HB CA K0
          go_wp2_with fail
          refine (BO.out _ B5.out).mono ?_
          intro e w6 hD
          obtain ⟨B, rfl, hBB, hb6⟩ := hD
          have HBB := Lib.hid hBB
          have B6 := Lib.hid (B5.out.trans (hb6.mono B5.out.size))
          clear hBB hb6 B5 BO
          go_wp2_with fail
          refine (GC.out _).mono ?_
          rintro e w7 ⟨rfl, hw7⟩
          obtain rfl := hw7.symm
          clear hw7 GC
          go_wp2
          clear gd2
          go_loopw [30, 31, 32, 33, 209] (fun _ _ _ _ s209 wr => ∃ i : Nat, s209 = .int .i64 (i : Int) ∧ i ≤ N ∧ Hid (Below w4.heap.size w4 wr)) (fun _ _ _ _ s209 _ => N - (intOf s209).toNat)
          case atStart => exact ⟨0, rfl, Nat.zero_le _, B6⟩
          case round =>
            clear B6
            obtain ⟨i, rfl, hi, HB⟩ := hrel
            by_cases hiN : i < N
            · have hiI : (i : Int) < (N : Int) := Int.ofNat_lt.mpr hiN
              obtain ⟨j, hj, JC⟩ := ZC.out i (by omega)
              have JCH := Lib.hid (JC _ _ (HA2.out.below (B4.out.trans (HB.out.mono B4.out.size))))
              obtain ⟨t, pa, pb, T1, PC, fpa, fpb, lp⟩ := edge_all j hj
              obtain ⟨Tm, Sh', hT, hSh, hT1, hS2, hTS⟩ := HBB.out.all i hiN
              have hxo : (L.getD i noSm).ok N := LN.out.2.2 _ (List.mem_of_getElem? (getS (by rw [LN.out.1]; exact hiN)))
              obtain ⟨eu, ev, u, v, ll, q, qB, mm, ss, E1, E2, E3, E4, E5, E6, E7, E8⟩ := edge_map hN1 hxo HBB.out.fB HBB.out.B0 HBB.out.B8 hT hSh hT1 hS2 hTS fpa fpb lp
              obtain ⟨g0, g1, g2, g3⟩ := smCells_get L i _ (getS (by rw [LN.out.1]; exact hiN))
              have RB := Lib.hid (R4.out.below HB.out)
              have JI := rFrom (j : Int)
              generalize Circ.fi (j : Int) = fj at T1 JI
              have PCH := Lib.hid PC
              have E1H := Lib.hid E1
              have E2H := Lib.hid E2
              have E3H := Lib.hid E3
              obtain ⟨bg, og, eg, _, hcell⟩ := RB.out.2 (by omega)
              obtain ⟨rfl, rfl⟩ : g = bg ∧ 0 = og := by injection eg with e; injection e with e1 e2; exact ⟨e1, e2⟩
              have d0 := hcell _ _ g0
              have d1 := hcell _ _ g1
              have d2 := hcell _ _ g2
              have d3 := hcell _ _ g3
              rw [Nat.zero_add] at d0 d1 d2 d3
              clear JC PC E1 E2 E3 fpa fpb lp hT hSh hT1 hS2 hTS hxo g0 g1 g2 g3 hcell eg RB hj
              obtain ⟨x, hx⟩ : ∃ x, L.getD i noSm = x := ⟨_, rfl⟩
              rw [hx] at d0 d1 d2 d3 E2H
              clear hx
              obtain ⟨xa, xb, xc, xd, xf, xs⟩ := x
              simp only at d0 d1 d2 d3 E2H
              unfold smallV at E2H
              go_wp2_with fail
              refine JCH.out.mono ?_
              rintro e w8 ⟨rfl, hw8⟩
              obtain rfl := hw8.symm
              go_wp2_with fail
              refine (PCH.out _).mono ?_
              rintro e w8 ⟨rfl, hw8⟩
              obtain rfl := hw8.symm
              go_wp2_with fail
              refine (E1H.out _).mono ?_
              rintro e w8 ⟨rfl, hw8⟩
              obtain rfl := hw8.symm
              go_wp2_with fail
              refine (E2H.out _).mono ?_
              rintro e w9 ⟨rfl, hb9⟩
              have B9 := Lib.hid (HB.out.trans (hb9.mono HB.out.size))
              clear hb9 HB d0 d1 d2 d3 JCH PCH E1H E2H hw8 T1 JI
              go_wp2_with fail
              refine (E3H.out _).mono ?_
              rintro e w10 ⟨rfl, hw10⟩
              obtain rfl := hw10.symm
              clear hw10 E3H
              go_wp2
              go_roundw
              case rel => exact ⟨i + 1, by go_num, by omega, B9⟩
              case measure => simp [intOf]; omega
            · obtain rfl : N = i := by omega
              obtain ⟨u, v, EQ, fu, fv', iu, iv⟩ := eighth_c ZOK.out.1 ZOK.out.2
              have k1 : (1 : Rat) ≤ 1000 := by decide
              have HSM : Hid (smallP (u, v)) := Lib.hid ⟨in_mono iu k1, in_mono iv k1⟩
              have HFP : Hid (FinP (u, v)) := Lib.hid ⟨fu, fv'⟩
              have RI := Lib.hid ((R4.out.below HB.out).more HB.out.size)
              have AC := Lib.hid (addressOf_w L N l (some ⟨g, 0, none⟩) cc (u, v) wr LN.out.1 LN.out.2.1 LN.out.2.2 RI.out (by omega) HFP.out HSM.out)
              have SCA := Lib.hid (fun w' (hb : Below w4.heap.size w4 w') => saddressOf_w L N l (some ⟨g, 0, none⟩) cc (u, v) w' LN.out.1 LN.out.2.1 LN.out.2.2 ((R4.out.below hb).more hb.size) (by omega) HFP.out HSM.out)
              have FIN := Lib.hid (fun w' (hb : Below w4.heap.size w4 w') => B4.out.trans (hb.mono B4.out.size))
              clear fu fv' iu iv k1 RI
              go_wp2_with fail
              refine AC.out.mono ?_
              intro e w5 hD
              obtain ⟨hD1, hD2, hb5⟩ := hD
              have B5 := Lib.hid (HB.out.trans (hb5.mono HB.out.size))
              clear hb5 AC HB
              by_cases hall : allSmall L N (u, v) l
              · obtain ⟨Aw, cw, rfl, hwo⟩ := hD1 hall
                have W5 := Lib.hid (Rd.own hwo)
                have HALL := Lib.hid hall
                clear hD1 hD2 hwo hall
                go_wp2_with fail
                refine (SCA.out _ B5.out).mono ?_
                intro e w6 hD
                obtain ⟨hD1, _, hb6⟩ := hD
                obtain ⟨Av, cv, rfl, hvo⟩ := hD1 HALL.out
                have W6 := Lib.hid ((W5.out.below hb6).more hb6.size)
                have V6 := Lib.hid (Rd.own hvo)
                have B6 := Lib.hid (B5.out.trans (hb6.mono B5.out.size))
                have IC := Lib.hid (b10Ints_same Aw Av l cw cv (letters L N (u, v) l) w6 (by omega) (by simp [letters]) W6.out V6.out)
                clear hD1 hvo hb6 W5 B5 SCA W6 V6
                go_wp2_with fail
                refine IC.out.mono ?_
                rintro e w7 ⟨rfl, hb7⟩
                have B7 := Lib.hid (FIN.out _ (B6.out.trans (hb7.mono B6.out.size)))
                clear hb7 B6 IC
                go_wp2
                go_ret
                exact ⟨rfl, B7.out⟩
              · obtain rfl := hD2 hall
                have HALL := Lib.hid hall
                clear hD1 hD2 hall
                go_wp2_with fail
                refine (SCA.out _ B5.out).mono ?_
                intro e w6 hD
                obtain ⟨_, hD2, hb6⟩ := hD
                obtain rfl := hD2 HALL.out
                have B6 := Lib.hid (FIN.out _ (B5.out.trans (hb6.mono B5.out.size)))
                clear hD2 hb6 B5 SCA
                go_wp2
                go_ret
                exact ⟨rfl, B6.out⟩
end Go.Proofs.Ytbpgbplepebcjaa
