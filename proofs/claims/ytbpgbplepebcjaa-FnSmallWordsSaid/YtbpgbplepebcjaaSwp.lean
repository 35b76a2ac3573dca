/- Walk: the reference's AddressOf. Conditions: lists as the reference draws them, a small number, words of at most 24 letters. -/
import Derived.Test.YtbpgbplepebcjaaSwo
import Derived.Test.YtbpgbplepebcjaaApp
namespace Go.Proofs.Ytbpgbplepebcjaa
open Go.RowKit
open Num Quick
attribute [local go_sem] run_store_fl run_store_cx

set_option maxRecDepth 100000 in
theorem l00In_ok (x a b : Int) (h1 : a ≤ x) (h2 : x ≤ b) (w : World) : Calls Try.prog 74 #[.int .i64 x, .int .i64 a, .int .i64 b] w fun e w' => e = .returned (.bool true) ∧ w' = w := by
  go_enter Try.func74, Try.ntmps74
  go_wp2
  go_ret
  simp
set_option maxRecDepth 100000 in
set_option maxHeartbeats 8000000 in
theorem saddressOf_w (L : List Sm) (N l : Nat) (A : Option Addr) (c : Nat) (z : Nat × Nat) (w : World) (hL : L.length = N) (hN : N = 1 ∨ N = 2 ∨ N = 4) (hok : ∀ x ∈ L, x.ok N) (hR : Rd w w.heap.size 4 A N (smCells L)) (hl : l ≤ 24) (hz : FinP z) (hs : smallP z) :
    Calls Try.prog 30 #[.slice A N c, .complex .f32 z.1 z.2, .int .i64 (l : Int)] w fun e w' => (allSmall L N z l → ∃ A' c', e = .returned (.tuple #[.slice A' l c', .bool true]) ∧ w'.ownsRow w.heap.size 2 1 (.slice A' l c') l ((letters L N z l).map nv)) ∧
      (¬ allSmall L N z l → e = .returned (.tuple #[.slice none 0 0, .bool false])) ∧ Below w.heap.size w w' := by
  have AS := Lib.hid (sare_ok L N A c w hL hN hok hR)
  have ZS := Lib.hid (fun w => ssmall_val hz.1 hz.2 w)
  rw [decide_eq_true hs] at ZS
  have WI := Lib.hid (fun w => l00In_ok (l : Int) 0 24 (by omega) (by omega) w)
  obtain ⟨b, off, rfl, hbb, hcell⟩ := hR.2 (by omega)
  have HC := Lib.hid hcell
  have ZB := Lib.hid (fun m (hf : FinP (zsN L N z m)) (hs : smallP (zsN L N z m)) i (hi : i < N) => zs_back (by omega) hL hok hf hs hi)
  have TN := Lib.hid (fun i (hi : i < N) => turn_ne (hok (L.getD i noSm) (List.mem_of_getElem? (getS (by rw [hL]; exact hi)))))
  have GS := Lib.hid (fun d (hd : d < N) => smCells_get L d _ (getS (by rw [hL]; exact hd)))
  have HZ := Lib.hid hz
  have HS := Lib.hid hs
  have hN4 : N ≤ 4 := by omega
  have hN1 : 1 ≤ N := by omega
  clear hL hN hok hR hz hs hcell
  go_enter Try.func30, Try.ntmps30
  go_wp2_with fail
  refine AS.out.mono ?_
  rintro e w1 ⟨rfl, hw⟩
  obtain rfl := hw.symm
  clear AS hw
  go_wp2_with fail
  refine (ZS.out _).mono ?_
  rintro e w2 ⟨rfl, hw⟩
  obtain rfl := hw.symm
  clear hw ZS
  go_wp2_with fail
  refine (WI.out _).mono ?_
  rintro e w2 ⟨rfl, hw⟩
  obtain rfl := hw.symm
  clear hw WI
  go_wp2
  go_loop [8, 30] (fun s8 s30 => ∃ (i : Nat) (p : Bool), s8 = .bool p ∧ s30 = .int .i64 (i : Int) ∧ i ≤ N ∧ Hid (p = decide (0 < i))) (fun _ s30 => N - (intOf s30).toNat)
  case atStart => exact ⟨0, false, rfl, rfl, Nat.zero_le _, rfl⟩
  case round =>
    obtain ⟨i, p, rfl, rfl, hi, HP⟩ := hrel
    by_cases hik : i < N
    · have hiI : (i : Int) < (N : Int) := Int.ofNat_lt.mpr hik
      obtain ⟨g0', _, _, _⟩ := GS.out i hik
      have hne := TN.out i hik
      have hne' : (FloatKind.f32.format.order (L.getD i noSm).a 0 != some .eq) = true := by unfold bne; rw [hne]; rfl
      have d0 := HC.out _ _ g0'
      clear g0'
      have HP1 : Hid (true = decide (0 < i + 1)) := Lib.hid (by simp)
      generalize L.getD i noSm = x at *
      clear HP
      cases p
      · go_wp2
        go_round
        case rel => exact ⟨i + 1, true, rfl, by go_num, by omega, HP1⟩
        case measure => simp [intOf]; omega
      · go_wp2
        go_round
        case rel => exact ⟨i + 1, true, rfl, by go_num, by omega, HP1⟩
        case measure => simp [intOf]; omega
    · obtain rfl : p = true := by rw [HP.out]; exact decide_eq_true (by omega)
      obtain rfl : N = i := by omega
      clear HP
      go_wp2
      obtain ⟨g0, HG, HG2, M0⟩ : ∃ g0, w.heap.size ≤ g0 ∧ g0 ≤ (w.alloc (.cells #[] 2)).heap.size ∧ Hid ((w.alloc (.cells #[] 2)).ownsRow g0 2 1 (.slice (some ⟨w.heap.size, 0, none⟩) 0 0) 0 []) := ⟨_, Nat.le_refl _, by simp, Lib.hid ((Blk.new w _ _).own (n := 0) (size := 1) (Nat.le_refl _) rfl (by unfold maxLen; omega))⟩
      have B2 := Lib.hid ((Below.refl w.heap.size w).alloc (Nat.le_refl _) (.cells #[] 2))
      go_loopw [1, 2, 10, 11, 12, 13, 14] (fun s1 s2 s10 _ _ _ _ wr => ∃ (m q : Nat) (A' : Option Addr) (c' : Nat), s2 = .int .i64 (q : Int) ∧ m + q = l ∧ s1 = .complex .f32 (zsN L N z m).1 (zsN L N z m).2 ∧ s10 = .slice A' m c' ∧ Hid (FinP (zsN L N z m)) ∧ Hid (smallP (zsN L N z m)) ∧ Hid (∀ i, i < m → smallP (zsN L N z (i + 1))) ∧
          Hid (wr.ownsRow g0 2 1 (.slice A' m c') m ((letters L N z m).map nv)) ∧ Hid (Below w.heap.size w wr) ∧ g0 ≤ wr.heap.size) (fun _ s2 _ _ _ _ _ _ => (intOf s2).toNat)
      case atStart => exact ⟨0, l, _, 0, rfl, by omega, rfl, rfl, HZ, HS, Lib.hid (fun i h => absurd h (by omega)), M0, B2, HG2⟩
      case round =>
        obtain ⟨m, q, A', c', rfl, hm, rfl, rfl, HF, HP, HA, HO, HB, hg⟩ := hrel
        clear M0 B2 HG2
        by_cases hq0 : 0 < q
        · have hqI : (0 : Int) < (q : Int) := by omega
          obtain ⟨q1, hq1⟩ : ∃ q1, q = q1 + 1 := ⟨q - 1, by omega⟩
          have hq1I : (q : Int) - 1 = (q1 : Int) := by omega
          have hlt : m < l := by omega
          have ZM := Lib.hid (fun i (hi : i < N) => ZB.out m HF.out HP.out i hi)
          obtain ⟨y, hy⟩ : ∃ y, zsN L N z m = y := ⟨_, rfl⟩
          have HY := Lib.hid hy
          rw [hy] at ZM
          rw [hy]
          have BS1 := Lib.hid (fun i (hi : i < N) (h0 : i ≠ 0) => show bst L y (i + 1) = if ltw (lnN (bkN (L.getD i noSm) y)) (lnN (bkN (L.getD (bst L y i) noSm) y)) then i else bst L y i by
            conv => lhs; unfold bst
            rw [if_neg h0])
          have BL := Lib.hid (bst_lt L y)
          obtain ⟨y1, y2⟩ := y
          have HQ1 := Lib.hid hq1
          clear hy hq1
          go_wp2
          go_loopw [11, 12, 13, 14, 52] (fun s11 s12 _ _ s52 wr => ∃ (i : Nat) (q : Int) (d : Nat), s52 = .int .i64 (i : Int) ∧ i ≤ N ∧ s11 = .int .i64 q ∧ s12 = .float .f32 d ∧ Hid (i = 0 → q = -1) ∧ Hid (i ≠ 0 → q = (bst L (y1, y2) i : Nat) ∧ d = lnN (bkN (L.getD (bst L (y1, y2) i) noSm) (y1, y2))) ∧
            Hid (wr.ownsRow g0 2 1 (.slice A' m c') m ((letters L N z m).map nv)) ∧ Hid (Below w.heap.size w wr) ∧ g0 ≤ wr.heap.size) (fun _ _ _ _ s52 _ => N - (intOf s52).toNat)
          case atStart => exact ⟨0, -1, 0, rfl, Nat.zero_le _, rfl, rfl, Lib.hid (fun _ => rfl), Lib.hid (fun h => absurd rfl h), HO, HB, hg⟩
          case round =>
            obtain ⟨i, q', d, rfl, hi, rfl, rfl, HQ0, HQ1', HO, HB, hg⟩ := hrel
            by_cases hik : i < N
            · have hiI : (i : Int) < (N : Int) := Int.ofNat_lt.mpr hik
              obtain ⟨g0', g1', g2', g3'⟩ := GS.out i hik
              have hne := TN.out i hik
              have BK := Lib.hid (ZM.out i hik)
              obtain ⟨p1, p2', hr0⟩ : ∃ p1 p2, bkN (L.getD i noSm) (y1, y2) = (p1, p2) := ⟨_, _, rfl⟩
              have HR0 := Lib.hid hr0
              have LB1 := Lib.hid (lnN_spec BK.out)
              have d0 := (HB.out.cell (p := ⟨b, off + i * 4, none⟩) hbb).trans (HC.out _ _ g0')
              have d1 := (HB.out.cell (p := ⟨b, off + i * 4 + 1, none⟩) hbb).trans (HC.out _ _ g1')
              have d2 := (HB.out.cell (p := ⟨b, off + i * 4 + 2, none⟩) hbb).trans (HC.out _ _ g2')
              have BI := Lib.hid (BK.out.sp wr b (off + i * 4) d0 d1 d2)
              rw [hr0] at LB1 BI
              have LC1 := Lib.hid LB1.out.sp
              obtain ⟨x, hx⟩ : ∃ x, L.getD i noSm = x := ⟨_, rfl⟩
              rw [hx] at d0 hne
              clear hr0 g0' g1' g2' g3' d1 d2 hx
              go_wp2_with fail
              refine BI.out.mono ?_
              rintro e w4 ⟨rfl, m4, hw4⟩
              have L4 : Hid (Below wr.heap.size wr w4) := Lib.hid (by rw [hw4]; exact below_drewN (Below.refl _ _) m4)
              have O4 := Lib.hid (own_below HO.out L4.out)
              have B4 := Lib.hid (HB.out.trans (L4.out.mono HB.out.size))
              have hg4 := Nat.le_trans hg L4.out.size
              clear hw4 HB HO L4 d0 hg hne
              go_wp2_with fail
              refine (LC1.out _).mono ?_
              rintro e w5 ⟨rfl, hw5⟩
              obtain rfl := hw5.symm
              have hb := BS1.out i hik
              rw [HR0.out] at hb
              by_cases h0 : i = 0
              · obtain rfl := HQ0.out h0
                subst h0
                have HD1 : Hid (lnN (p1, p2') = lnN (bkN (L.getD (bst L (y1, y2) 1) noSm) (y1, y2))) := Lib.hid (by rw [show bst L (y1, y2) 1 = 0 from rfl, HR0.out])
                clear hb
                generalize lnN (p1, p2') = a1 at *
                go_wp2
                go_roundw
                case rel => exact ⟨1, _, a1, by go_num, by omega, rfl, rfl, Lib.hid (fun h => absurd h (by decide)), Lib.hid (fun _ => ⟨rfl, HD1.out⟩), O4, B4, hg4⟩
                case measure => simp [intOf]; omega
              · obtain ⟨hq, hr⟩ := HQ1'.out h0
                replace hb := hb h0
                have hbl := BL.out i (by omega)
                obtain ⟨k, hk⟩ : ∃ k, bst L (y1, y2) i = k := ⟨_, rfl⟩
                rw [hk] at hq hr hb hbl
                rw [← hr] at hb
                have hkn : (0 : Int) ≤ (k : Int) := by omega
                have HRK := Lib.hid hr
                subst hq
                clear hk hr LB1 BK BI
                obtain ⟨t, ht⟩ : ∃ t, ltw (lnN (p1, p2')) d = t := ⟨_, rfl⟩
                rw [ht] at hb
                unfold ltw at ht
                obtain ⟨a1, ha1⟩ : ∃ a1, lnN (p1, p2') = a1 := ⟨_, rfl⟩
                rw [ha1] at ht LC1 ⊢
                have HA1 := Lib.hid ha1
                have HB' := Lib.hid hb
                clear hb ha1
                cases t
                · go_wp2
                  go_roundw
                  case rel => exact ⟨i + 1, _, d, by go_num, by omega, rfl, rfl, Lib.hid (fun h => absurd h (by omega)), Lib.hid (fun _ => by rw [HB'.out]; exact ⟨rfl, HRK.out⟩), O4, B4, hg4⟩
                  case measure => simp [intOf]; omega
                · go_wp2
                  go_roundw
                  case rel => exact ⟨i + 1, _, a1, by go_num, by omega, rfl, rfl, Lib.hid (fun h => absurd h (by omega)), Lib.hid (fun _ => by rw [HB'.out]; exact ⟨rfl, by first | rw [if_pos rfl, HR0.out, HA1.out] | rw [if_pos trivial, HR0.out, HA1.out]⟩), O4, B4, hg4⟩
                  case measure => simp [intOf]; omega
            · obtain rfl : N = i := by omega
              obtain ⟨hq, _⟩ := HQ1'.out (by omega)
              have hbl := BL.out N (by omega)
              have BK := Lib.hid (ZM.out _ hbl)
              obtain ⟨g0', g1', g2', g3'⟩ := GS.out _ hbl
              have d0 := (HB.out.cell (p := ⟨b, off + bst L (y1, y2) N * 4, none⟩) hbb).trans (HC.out _ _ g0')
              have d1 := (HB.out.cell (p := ⟨b, off + bst L (y1, y2) N * 4 + 1, none⟩) hbb).trans (HC.out _ _ g1')
              have d2 := (HB.out.cell (p := ⟨b, off + bst L (y1, y2) N * 4 + 2, none⟩) hbb).trans (HC.out _ _ g2')
              have BI := Lib.hid (BK.out.sp wr b (off + bst L (y1, y2) N * 4) d0 d1 d2)
              clear g0' g1' g2' g3' d0 d1 d2
              obtain ⟨r1, r2, hr⟩ : ∃ r1 r2, bkN (L.getD (bst L (y1, y2) N) noSm) (y1, y2) = (r1, r2) := ⟨_, _, rfl⟩
              have HZ1 : Hid (zsN L N z (m + 1) = (r1, r2)) := Lib.hid (by
                show bkN (L.getD (bst L (zsN L N z m) N) noSm) (zsN L N z m) = _
                rw [HY.out]; exact hr)
              have HLT : Hid (letters L N z (m + 1) = letters L N z m ++ [bst L (y1, y2) N]) := Lib.hid (by rw [letters_succ, HY.out])
              obtain ⟨x, hx⟩ : ∃ x, L.getD (bst L (y1, y2) N) noSm = x := ⟨_, rfl⟩
              clear hx
              rw [hr] at BK BI
              have FR1 : Hid (FinP (r1, r2)) := Lib.hid ⟨BK.out.f1, BK.out.f2⟩
              have SV := Lib.hid (fun w => ssmall_val (z := (r1, r2)) FR1.out.1 FR1.out.2 w)
              clear BK hr
              generalize bst L (y1, y2) N = k at *
              subst hq
              have hkI : (k : Int) < (N : Int) := by omega
              go_wp2_with fail
              refine BI.out.mono ?_
              rintro e w4 ⟨rfl, m4, hw4⟩
              have L4 : Hid (Below wr.heap.size wr w4) := Lib.hid (by rw [hw4]; exact below_drewN (Below.refl _ _) m4)
              have O4 := Lib.hid (own_below HO.out L4.out)
              have B4 := Lib.hid (HB.out.trans (L4.out.mono HB.out.size))
              have hg4 := Nat.le_trans hg L4.out.size
              clear hw4 HB HO L4 hg BI
              by_cases hsm : smallP (r1, r2)
              · rw [decide_eq_true hsm] at SV
                have HSM := Lib.hid hsm
                clear hsm
                go_wp2_with fail
                refine (SV.out _).mono ?_
                rintro e w6 ⟨rfl, hw6⟩
                obtain rfl := hw6.symm
                go_wp2_with (at_builtin; refine wpList_append_one (W := w4) rfl _ _ _ rfl g0 2 (.int .i64 0) 8 Try.underlying48 intInfo rfl A' m c' _ rfl O4.out (.int .i64 (k : Int)) _ rfl (by simp) rfl (by unfold maxLen; omega) (by omega) hg4 ?_; intro A3 c3 w3' ho3 hg3 hd3)
                have O6 := Lib.hid ho3
                have B6 := Lib.hid (B4.out.grown hg3 B4.out.size (fun j e => Nat.le_trans HG (O4.out.lt j e).1))
                have Z6 := Nat.le_trans hg4 hg3.size
                rw [show [Value.int .i64 (k : Int)] = [k].map nv from rfl, ← List.map_append, ← HLT.out] at O6
                clear ho3 hg3 hd3 O4 B4
                go_roundw
                case rel => exact ⟨m + 1, q1, A3, c3, by first | rfl | go_num, by have := HQ1.out; omega, by rw [HZ1.out], rfl, by rw [HZ1.out]; exact FR1, by rw [HZ1.out]; exact HSM, Lib.hid (fun i hi => by
                  rcases Nat.lt_or_eq_of_le (Nat.le_of_lt_succ hi) with h | h
                  · exact HA.out i h
                  · rw [h, HZ1.out]; exact HSM.out), O6, B6, Z6⟩
                case measure => simp [intOf]; omega
              · rw [decide_eq_false hsm] at SV
                have HSM : Hid (¬ allSmall L N z l) := Lib.hid (fun h => hsm (by have := h m hlt; rwa [HZ1.out] at this))
                clear hsm
                go_wp2_with fail
                refine (SV.out _).mono ?_
                rintro e w6 ⟨rfl, hw6⟩
                obtain rfl := hw6.symm
                go_wp2
                go_ret2
                exact ⟨fun h => absurd h HSM.out, fun _ => rfl, B4.out⟩
        · obtain rfl : q = 0 := by omega
          obtain rfl : m = l := by omega
          have HO2 := Lib.hid (own_base HO.out HG)
          clear HO
          go_wp2
          go_ret2
          exact ⟨fun _ => ⟨A', c', rfl, HO2.out⟩, fun h => absurd HA.out h, HB.out⟩
end Go.Proofs.Ytbpgbplepebcjaa
