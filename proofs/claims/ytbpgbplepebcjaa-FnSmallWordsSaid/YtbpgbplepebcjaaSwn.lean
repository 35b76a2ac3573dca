/- Walk: the program's AddressOf. Conditions: lists as the reference draws them, a small number, words of at most 24 letters. -/
import Derived.Test.YtbpgbplepebcjaaSwm
import Derived.Test.YtbpgbplepebcjaaApp
namespace Go.Proofs.Ytbpgbplepebcjaa
open Go.RowKit
open Num Quick
attribute [local go_sem] run_store_fl run_store_cx

open Classical in
set_option maxRecDepth 100000 in
set_option maxHeartbeats 8000000 in
theorem addressOf_w (L : List Sm) (N l : Nat) (A : Option Addr) (c : Nat) (z : Nat × Nat) (w : World) (hL : L.length = N) (hN : N = 1 ∨ N = 2 ∨ N = 4) (hok : ∀ x ∈ L, x.ok N) (hR : Rd w w.heap.size 4 A N (smCells L)) (hl : l ≤ 24) (hz : FinP z) (hs : smallP z) :
    Calls Try.prog 29 #[.slice A N c, .complex .f32 z.1 z.2, .int .i64 (l : Int)] w fun e w' => (allSmall L N z l → ∃ A' c', e = .returned (.tuple #[.slice A' l c', .bool true]) ∧ w'.ownsRow w.heap.size 2 1 (.slice A' l c') l ((letters L N z l).map nv)) ∧
      (¬ allSmall L N z l → e = .returned (.tuple #[.slice none 0 0, .bool false])) ∧ Below w.heap.size w w' := by
  have AS := Lib.hid (areSmalls_ok L N A c w hL hN hok hR)
  have ZS := Lib.hid (fun w => isSmall_val hz.1 hz.2 w)
  rw [decide_eq_true hs] at ZS
  have WI := Lib.hid (fun w => within_ok (l : Int) 0 24 (by omega) (by omega) w)
  obtain ⟨b, off, rfl, hbb, hcell⟩ := hR.2 (by omega)
  have HC := Lib.hid hcell
  have ZB := Lib.hid (fun m (hf : FinP (zsN L N z m)) (hs : smallP (zsN L N z m)) i (hi : i < N) => zs_back (by omega) hL hok hf hs hi)
  have TN := Lib.hid (fun i (hi : i < N) => turn_ne (hok (L.getD i noSm) (List.mem_of_getElem? (getS (by rw [hL]; exact hi)))))
  have GS := Lib.hid (fun d (hd : d < N) => smCells_get L d _ (getS (by rw [hL]; exact hd)))
  have HZ := Lib.hid hz
  have HS := Lib.hid hs
  have hN4 : N ≤ 4 := by omega
  have hN1 : 1 ≤ N := by omega
  clear hL hN hok hR hz hs hcell
  go_enter Try.func29, Try.ntmps29
  go_wp2_with fail
  refine AS.out.mono ?_
  rintro e w1 ⟨rfl, hb1⟩
  have B1 := Lib.hid hb1
  clear hb1 AS
  go_wp2_with fail
  refine (ZS.out _).mono ?_
  rintro e w2 ⟨rfl, hw⟩
  obtain rfl := hw.symm
  clear hw ZS
  go_wp2_with fail
  refine (WI.out _).mono ?_
  rintro e w2 ⟨rfl, hw⟩
  obtain rfl := hw.symm
  clear hw WI
  go_wp2
  obtain ⟨g0, G0, HG, M0⟩ : ∃ g0, w.heap.size ≤ g0 ∧ g0 ≤ (w1.alloc (.cells #[] 2)).heap.size ∧ Hid ((w1.alloc (.cells #[] 2)).ownsRow g0 2 1 (.slice (some ⟨w1.heap.size, 0, none⟩) 0 0) 0 []) := ⟨_, B1.out.size, by simp, Lib.hid ((Blk.new w1 _ _).own (n := 0) (size := 1) (Nat.le_refl _) rfl (by unfold maxLen; omega))⟩
  have B2 := Lib.hid (B1.out.alloc B1.out.size (.cells #[] 2))
  go_loopw [1, 8, 9, 10, 11, 12, 13, 29] (fun s1 s8 _ _ _ _ _ s29 wr => ∃ (m : Nat) (A' : Option Addr) (c' : Nat), s29 = .int .i64 (m : Int) ∧ m ≤ l ∧ s1 = .complex .f32 (zsN L N z m).1 (zsN L N z m).2 ∧ s8 = .slice A' m c' ∧ Hid (FinP (zsN L N z m)) ∧ Hid (smallP (zsN L N z m)) ∧ Hid (∀ i, i < m → smallP (zsN L N z (i + 1))) ∧
      Hid (wr.ownsRow g0 2 1 (.slice A' m c') m ((letters L N z m).map nv)) ∧ Hid (Below w.heap.size w wr) ∧ g0 ≤ wr.heap.size) (fun _ _ _ _ _ _ _ s29 _ => l - (intOf s29).toNat)
  case atStart => exact ⟨0, _, 0, rfl, Nat.zero_le _, rfl, rfl, HZ, HS, Lib.hid (fun i h => absurd h (by omega)), M0, B2, HG⟩
  case round =>
    obtain ⟨m, A', c', rfl, hm, rfl, rfl, HF, HP, HA, HO, HB, hg⟩ := hrel
    clear M0 B2 B1 HG
    by_cases hlt : m < l
    · have hmI : (m : Int) < (l : Int) := Int.ofNat_lt.mpr hlt
      have ZM := Lib.hid (fun i (hi : i < N) => ZB.out m HF.out HP.out i hi)
      obtain ⟨y, hy⟩ : ∃ y, zsN L N z m = y := ⟨_, rfl⟩
      have HY := Lib.hid hy
      rw [hy] at ZM
      rw [hy]
      have BS1 := Lib.hid (fun i (hi : i < N) (h0 : i ≠ 0) => show bst L y (i + 1) = if ltw (lnN (bkN (L.getD i noSm) y)) (lnN (bkN (L.getD (bst L y i) noSm) y)) then i else bst L y i by
        conv => lhs; unfold bst
        rw [if_neg h0])
      have BL := Lib.hid (bst_lt L y)
      obtain ⟨y1, y2⟩ := y
      clear hy
      go_wp2
      go_loopw [9, 10, 11, 12, 13, 33] (fun s9 s10 _ _ _ s33 wr => ∃ (i : Nat) (q : Int) (r1 r2 : Nat), s33 = .int .i64 (i : Int) ∧ i ≤ N ∧ s9 = .int .i64 q ∧ s10 = .complex .f32 r1 r2 ∧ Hid (i = 0 → q = -1) ∧ Hid (i ≠ 0 → q = (bst L (y1, y2) i : Nat) ∧ (r1, r2) = bkN (L.getD (bst L (y1, y2) i) noSm) (y1, y2)) ∧
        Hid (wr.ownsRow g0 2 1 (.slice A' m c') m ((letters L N z m).map nv)) ∧ Hid (Below w.heap.size w wr) ∧ g0 ≤ wr.heap.size) (fun _ _ _ _ _ s33 _ => N - (intOf s33).toNat)
      case atStart => exact ⟨0, -1, 0, 0, rfl, Nat.zero_le _, rfl, rfl, Lib.hid (fun _ => rfl), Lib.hid (fun h => absurd rfl h), HO, HB, hg⟩
      case round =>
        obtain ⟨i, q, r1, r2, rfl, hi, rfl, rfl, HQ0, HQ1, HO, HB, hg⟩ := hrel
        by_cases hik : i < N
        · have hiI : (i : Int) < (N : Int) := Int.ofNat_lt.mpr hik
          obtain ⟨g0', g1', g2', g3'⟩ := GS.out i hik
          have hne := TN.out i hik
          have BK := Lib.hid (ZM.out i hik)
          have hr0 : ∃ p1 p2, bkN (L.getD i noSm) (y1, y2) = (p1, p2) := ⟨_, _, rfl⟩
          obtain ⟨p1, p2', hr0⟩ := hr0
          have HR0 := Lib.hid hr0
          have LB1 := Lib.hid (lnN_spec BK.out)
          have BI := Lib.hid BK.out.im
          rw [hr0] at LB1 BI
          have LC1 := Lib.hid LB1.out.im
          clear hr0
          obtain ⟨x, hx⟩ : ∃ x, L.getD i noSm = x := ⟨_, rfl⟩
          have HX := Lib.hid hx
          rw [hx] at g0' g1' g2' g3' hne BI
          obtain ⟨xa, xb, xc, xd, xf, xs⟩ := x
          simp only at g0' g1' g2' g3' hne BI
          unfold smallV at BI
          have d0 := (HB.out.cell (p := ⟨b, off + i * 4, none⟩) hbb).trans (HC.out _ _ g0')
          have d1 := (HB.out.cell (p := ⟨b, off + i * 4 + 1, none⟩) hbb).trans (HC.out _ _ g1')
          have d2 := (HB.out.cell (p := ⟨b, off + i * 4 + 2, none⟩) hbb).trans (HC.out _ _ g2')
          have d3 := (HB.out.cell (p := ⟨b, off + i * 4 + 3, none⟩) hbb).trans (HC.out _ _ g3')
          clear g0' g1' g2' g3' hx
          have LA : Hid (Below wr.heap.size wr (wr.alloc (.cells #[.complex .f32 xa xb, .complex .f32 xc xd, .bool xf, .float .f32 xs] 29))) := Lib.hid ((Below.refl _ _).alloc (Nat.le_refl _) _)
          go_wp2_with fail
          refine (BI.out _).mono ?_
          rintro e w4 ⟨rfl, hb4⟩
          have L4 := Lib.hid (LA.out.trans (hb4.mono LA.out.size))
          have O4 := Lib.hid (own_below HO.out L4.out)
          have B4 := Lib.hid (HB.out.trans (L4.out.mono HB.out.size))
          have hg4 := Nat.le_trans hg L4.out.size
          clear hb4 HB HO LA L4 d0 d1 d2 d3 hg hne
          by_cases h0 : i = 0
          · obtain rfl := HQ0.out h0
            subst h0
            go_wp2
            go_roundw
            case rel => exact ⟨1, _, p1, p2', by go_num, by omega, rfl, rfl, Lib.hid (fun h => absurd h (by decide)), Lib.hid (fun _ => ⟨rfl, HR0.out.symm⟩), O4, B4, hg4⟩
            case measure => simp [intOf]; omega
          · obtain ⟨hq, hr⟩ := HQ1.out h0
            have hb := BS1.out i hik h0
            have hbl := BL.out i (by omega)
            obtain ⟨k, hk⟩ : ∃ k, bst L (y1, y2) i = k := ⟨_, rfl⟩
            rw [hk] at hq hr hb hbl
            have LB2 := Lib.hid (lnN_spec (ZM.out k (by omega)))
            rw [← hr] at LB2 hb
            rw [HR0.out] at hb
            have LC2 := Lib.hid LB2.out.im
            have hkn : (0 : Int) ≤ (k : Int) := by omega
            have HRK := Lib.hid hr
            subst hq
            clear hk hr LB2 LB1 BK BI
            obtain ⟨t, ht⟩ : ∃ t, ltw (lnN (p1, p2')) (lnN (r1, r2)) = t := ⟨_, rfl⟩
            rw [ht] at hb
            unfold ltw at ht
            generalize lnN (p1, p2') = a1 at *
            generalize lnN (r1, r2) = a2 at *
            have HB' := Lib.hid hb
            clear hb
            cases t
            · go_wp2_with fail
              refine (LC1.out _).mono ?_
              rintro e w5 ⟨rfl, hw5⟩
              obtain rfl := hw5.symm
              go_wp2_with fail
              refine (LC2.out _).mono ?_
              rintro e w6 ⟨rfl, hw6⟩
              obtain rfl := hw6.symm
              go_wp2
              go_roundw
              case rel => exact ⟨i + 1, _, r1, r2, by go_num, by omega, rfl, rfl, Lib.hid (fun h => absurd h (by omega)), Lib.hid (fun _ => by rw [HB'.out]; exact ⟨rfl, HRK.out⟩), O4, B4, hg4⟩
              case measure => simp [intOf]; omega
            · go_wp2_with fail
              refine (LC1.out _).mono ?_
              rintro e w5 ⟨rfl, hw5⟩
              obtain rfl := hw5.symm
              go_wp2_with fail
              refine (LC2.out _).mono ?_
              rintro e w6 ⟨rfl, hw6⟩
              obtain rfl := hw6.symm
              go_wp2
              go_roundw
              case rel => exact ⟨i + 1, _, p1, p2', by go_num, by omega, rfl, rfl, Lib.hid (fun h => absurd h (by omega)), Lib.hid (fun _ => by rw [HB'.out]; exact ⟨rfl, HR0.out.symm⟩), O4, B4, hg4⟩
              case measure => simp [intOf]; omega
        · obtain rfl : N = i := by omega
          obtain ⟨hq, hr⟩ := HQ1.out (by omega)
          have hbl := BL.out N (by omega)
          have BK := Lib.hid (ZM.out _ hbl)
          have HZ1 : Hid (zsN L N z (m + 1) = (r1, r2)) := Lib.hid (by
            show bkN (L.getD (bst L (zsN L N z m) N) noSm) (zsN L N z m) = _
            rw [HY.out]; exact hr.symm)
          have HLT : Hid (letters L N z (m + 1) = letters L N z m ++ [bst L (y1, y2) N]) := Lib.hid (by rw [letters_succ, HY.out])
          rw [← hr] at BK
          have FR1 : Hid (FinP (r1, r2)) := Lib.hid ⟨BK.out.f1, BK.out.f2⟩
          have SV := Lib.hid (fun w => isSmall_val (z := (r1, r2)) FR1.out.1 FR1.out.2 w)
          generalize bst L (y1, y2) N = k at *
          subst hq
          have hkn : (0 : Int) ≤ (k : Int) := by omega
          by_cases hsm : smallP (r1, r2)
          · rw [decide_eq_true hsm] at SV
            have HSM := Lib.hid hsm
            clear hsm hr BK
            go_wp2_with fail
            refine (SV.out _).mono ?_
            rintro e w6 ⟨rfl, hw6⟩
            obtain rfl := hw6.symm
            go_wp2_with (at_builtin; refine wpList_append_one (W := wr) rfl _ _ _ rfl g0 2 (.int .i64 0) 8 Try.underlying48 intInfo rfl A' m c' _ rfl HO.out (.int .i64 (k : Int)) _ rfl (by simp) rfl (by unfold maxLen; omega) (by omega) hg ?_; intro A3 c3 w3' ho3 hg3 hd3)
            have O6 := Lib.hid ho3
            have B6 := Lib.hid (HB.out.grown hg3 HB.out.size (fun j e => Nat.le_trans G0 (HO.out.lt j e).1))
            have Z6 := Nat.le_trans hg hg3.size
            rw [show [Value.int .i64 (k : Int)] = [k].map nv from rfl, ← List.map_append, ← HLT.out] at O6
            clear ho3 hg3 hd3 HO HB
            go_roundw
            case rel => exact ⟨m + 1, A3, c3, by go_num, by omega, by rw [HZ1.out], rfl, by rw [HZ1.out]; exact FR1, by rw [HZ1.out]; exact HSM, Lib.hid (fun i hi => by
              rcases Nat.lt_or_eq_of_le (Nat.le_of_lt_succ hi) with h | h
              · exact HA.out i h
              · rw [h, HZ1.out]; exact HSM.out), O6, B6, Z6⟩
            case measure => simp [intOf]; omega
          · rw [decide_eq_false hsm] at SV
            have HSM : Hid (¬ allSmall L N z l) := Lib.hid (fun h => hsm (by have := h m hlt; rwa [HZ1.out] at this))
            clear hsm hr BK
            go_wp2_with fail
            refine (SV.out _).mono ?_
            rintro e w6 ⟨rfl, hw6⟩
            obtain rfl := hw6.symm
            go_wp2
            go_ret2
            exact ⟨fun h => absurd h HSM.out, fun _ => rfl, HB.out⟩
    · obtain rfl : m = l := by omega
      have HO2 := Lib.hid (own_base HO.out G0)
      clear HO
      go_wp2
      go_ret2
      exact ⟨fun _ => ⟨A', c', rfl, HO2.out⟩, fun h => absurd HA.out h, HB.out⟩
end Go.Proofs.Ytbpgbplepebcjaa
