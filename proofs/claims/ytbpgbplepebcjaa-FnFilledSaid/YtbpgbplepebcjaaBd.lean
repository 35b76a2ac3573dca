/- Walk: boxStep. Conditions: sides of 1 to 8, at most 4 maps, as the reference draws them. -/
import Derived.Test.YtbpgbplepebcjaaBc
import Derived.Test.YtbpgbplepebcjaaMr
import Derived.Test.YtbpgbplepebcjaaSl
namespace Go.Proofs.Ytbpgbplepebcjaa
open Go.RowKit
open Num Quick
attribute [local go_sem] run_store_fl run_store_cx

set_option maxRecDepth 100000 in
set_option maxHeartbeats 4000000 in
theorem boxStep_w (L : List Sm) (N side n : Nat) (M : List Bool) (A AM : Option Addr) (c cM : Nat) (w : World) (hL : L.length = N) (hN1 : 1 ≤ N) (hN4 : N ≤ 4) (hok : ∀ x ∈ L, x.ok N) (h1 : 1 ≤ side) (h8 : side ≤ 8) (hn : side * side = n) (hlM : M.length = n)
    (hR : Rd w w.heap.size 4 A N (smCells L)) (hM : Rd w w.heap.size 1 AM n (M.map bv)) :
    Calls Try.prog 65 #[.slice A N c, .slice AM n cM, .int .i64 (side : Int)] w fun e w' => e = .returned (.slice (some ⟨w.heap.size, 0, none⟩) n n) ∧ w'.ownsRow w.heap.size 4 1 (.slice (some ⟨w.heap.size, 0, none⟩) n n) n ((imgOf L side M).map bv) ∧ Below w.heap.size w w' := by
  obtain ⟨i0, hi, hz0, hz1, hz2⟩ := info_parts boolInfo
  have hn64 : n ≤ 64 := by rw [← hn]; exact Nat.mul_le_mul h8 h8
  have hn1 : 1 ≤ n := by rw [← hn]; exact Nat.mul_le_mul h1 h1
  obtain ⟨b, off, rfl, hbb, hcell⟩ := hR.2 (by omega)
  obtain ⟨bm, om, rfl, hbm, hcm⟩ := hM.2 (by omega)
  have HC := Lib.hid hcell
  have HCM := Lib.hid hcm
  have HOK := Lib.hid hok
  have HL := Lib.hid hL
  have HLM := Lib.hid hlM
  have HS := Lib.hid hn
  clear hcell hcm hok hL hlM hR hM hn
  go_enter Try.func65, Try.ntmps65
  go_wp2_with (at_make; refine wpList_make_full _ rfl _ _ _ rfl w.heap.size 4 i0 (.bool false) 1 Try.underlying43 hi hz0 hz1 .i64 .i64 n n n rfl rfl rfl rfl (by rw [hz2]; omega) (by unfold maxLen; omega) (Nat.le_refl _) ?_; intro w1 ho1 hg1)
  rw [made_bool] at ho1
  have hb1 := below_of_grown (B := w.heap.size) hg1 (Nat.le_refl _) (by simp)
  go_loopw [23] (fun si wr => ∃ (i : Nat) (O : List Bool), si = .int .i64 (i : Int) ∧ i ≤ n ∧ Hid (PartO L side M i O) ∧ Hid (wr.ownsRow w.heap.size 4 1 (.slice (some ⟨w.heap.size, 0, none⟩) n n) n (O.map bv)) ∧ Hid (Below w.heap.size w wr)) (fun si _ => n - (intOf si).toNat)
  case atStart =>
    refine ⟨0, _, rfl, Nat.zero_le _, Lib.hid (part_start L side M), Lib.hid ?_, Lib.hid hb1⟩
    rw [HS.out]
    exact ho1
  case round =>
    obtain ⟨i, O, rfl, hin, HP, HO, HB⟩ := hrel
    clear ho1 hg1 hb1
    by_cases hlt : i < n
    · have c1 : wr.cell? ⟨bm, om + i, none⟩ = some (.bool (M.getD i false)) := by
        refine (HB.out.cell (p := ⟨bm, om + i, none⟩) hbm).trans (HCM.out _ _ ?_)
        have hkl : i < M.length := by have := HLM.out; omega
        rw [List.getElem?_map, List.getElem?_eq_getElem hkl, List.getD_eq_getElem?_getD, List.getElem?_eq_getElem hkl]; rfl
      have hii : (i : Int) < (n : Int) := by omega
      cases hMi : M.getD i false
      · rw [hMi] at c1
        have HM := Lib.hid hMi
        clear hMi
        go_wp2
        go_roundw
        case rel => exact ⟨i + 1, O, by go_num, by omega, Lib.hid (part_skip HP.out HM.out), HO, HB⟩
        case measure => simp [intOf]; omega
      · rw [hMi] at c1
        have HM := Lib.hid hMi
        clear hMi
        obtain ⟨y, ey⟩ : ∃ y, i / side = y := ⟨_, rfl⟩
        obtain ⟨x, ex⟩ : ∃ x, i % side = x := ⟨_, rfl⟩
        have hxs : x < side := by rw [← ex]; exact Nat.mod_lt _ (by omega)
        have hys : y < side := by rw [← ey]; exact (Nat.div_lt_iff_lt_mul (by omega)).2 (by rw [HS.out]; exact hlt)
        have BZ := Lib.hid (fun z (hz : z < side) => (bmOf_spec (x := z) h8 hz).1)
        have hmid : Hid (midOf side i = (bmOf side x, bmOf side y)) := by unfold midOf; rw [ex, ey]; exact Lib.hid rfl
        generalize bmOf side = mb at *
        have e1 : Int.tmod (i : Int) (side : Int) = (x : Int) := by rw [← ex]; rfl
        have e2 : Int.tdiv (i : Int) (side : Int) = (y : Int) := by rw [← ey]; rfl
        have hs0 : (side : Int) ≠ 0 := by omega
        clear ex ey
        go_wp2
        go_quiet (first | (go_at_call 96; exact Calls.quiet_of_same (BZ.out _ (by first | exact hxs | exact hys) _)))
        go_wp2
        clear c1
        go_loopw [43] (fun sk wk => ∃ (k : Nat) (O' : List Bool), sk = .int .i64 (k : Int) ∧ k ≤ N ∧ Hid (PartI L side M i k O') ∧ Hid (wk.ownsRow w.heap.size 4 1 (.slice (some ⟨w.heap.size, 0, none⟩) n n) n (O'.map bv)) ∧ Hid (Below w.heap.size w wk)) (fun sk _ => N - (intOf sk).toNat)
        case atStart => exact ⟨0, O, rfl, Nat.zero_le _, Lib.hid (part_in HP.out), HO, Lib.hid ⟨HB.out.os, HB.out.tape, HB.out.output, HB.out.size, HB.out.block⟩⟩
        case round =>
          obtain ⟨k, O', rfl, hk, HP2, HO2, HB2⟩ := hrel
          clear HP HO HB
          by_cases hlk : k < N
          · obtain ⟨m, hm⟩ : ∃ m, L[k]? = some m := ⟨_, List.getElem?_eq_getElem (by have := HL.out; omega)⟩
            obtain ⟨g0, g1, g2, g3⟩ := smCells_get L k m hm
            have hmo : m.ok N := HOK.out m (List.mem_of_getElem? hm)
            obtain ⟨u, v, X, Y, p, q, hh⟩ := hitOf_hit hmo h1 h8 (i := i) (by rw [HS.out]; exact hlt)
            have CM := Lib.hid hh.maps
            rw [hmid.out] at CM
            have CX := Lib.hid hh.bx
            have CY := Lib.hid hh.by_
            have HT := Lib.hid hh.ht
            have hX := hh.hX
            have hY := hh.hY
            clear hh hmo
            have HMK := Lib.hid hm
            obtain ⟨xa, xb, xc, xd, xf, xs⟩ := m
            simp only at g0 g1 g2 g3 CM
            unfold smallV at CM
            have hkN : (k : Int) < (N : Int) := by omega
            have hzr := HB2.out.size
            obtain ⟨t, et⟩ : ∃ t, Y * side + X = t := ⟨_, rfl⟩
            have htn : t < n := by
              rw [← HS.out, ← et]
              have : Y * side + side ≤ side * side := by
                have := Nat.mul_le_mul_right side (show Y + 1 ≤ side from hY)
                rwa [Nat.add_mul, Nat.one_mul] at this
              omega
            obtain ⟨Z, eZ⟩ : ∃ Z, Y * side = Z := ⟨_, rfl⟩
            have eY : (Y : Int) * (side : Int) = (Z : Int) := by rw [← eZ]; simp
            rw [eZ] at et
            have eT : (Z : Int) + (X : Int) = (t : Int) := by omega
            rw [eZ, et] at HT
            clear et eZ hm
            have d0 := (HB2.out.cell (p := ⟨b, off + k * 4, none⟩) hbb).trans (HC.out _ _ g0)
            have d1 := (HB2.out.cell (p := ⟨b, off + k * 4 + 1, none⟩) hbb).trans (HC.out _ _ g1)
            have d2 := (HB2.out.cell (p := ⟨b, off + k * 4 + 2, none⟩) hbb).trans (HC.out _ _ g2)
            have d3 := (HB2.out.cell (p := ⟨b, off + k * 4 + 3, none⟩) hbb).trans (HC.out _ _ g3)
            clear g0 g1 g2 g3
            have OL : Hid (w.heap.size < wr.heap.size) := by
              obtain ⟨g, cap, hv, _, hgl⟩ := HO2.out.form (by omega)
              obtain rfl : w.heap.size = g := by injection hv with h1; injection h1 with h2; injection h2
              exact Lib.hid hgl
            go_wp2_with fail
            refine (CM.out _).mono ?_
            rintro e w4 ⟨rfl, hb4⟩
            have L4 : Hid (Below wr.heap.size wr w4) := Lib.hid (((Below.refl _ _).alloc (Nat.le_refl _) _).trans (hb4.mono (by simp)))
            have B4 : Hid (Below w.heap.size w w4) := Lib.hid (HB2.out.trans (L4.out.mono hzr))
            have O4 := Lib.hid (own_below HO2.out L4.out)
            clear hb4 L4 d0 d1 d2 d3 HO2 HB2 OL hzr
            go_wp2_with fail
            refine (CX.out _).mono ?_
            rintro e w5 ⟨rfl, hw⟩
            obtain rfl := hw.symm
            clear hw
            go_wp2_with fail
            refine (CY.out _).mono ?_
            rintro e w5 ⟨rfl, hw⟩
            obtain rfl := hw.symm
            clear hw
            have f1 : t < (O'.map bv).length := by have := HP2.out.1; rw [HS.out] at this; rw [List.length_map, this]; exact htn
            have cA : w4.cell? ⟨w.heap.size, t, none⟩ = some (O'.map bv)[t] := by rw [O4.out.cellAt _ (by omega), List.getElem?_eq_getElem f1]
            have fA : w4.frozen? ⟨w.heap.size, t, none⟩ = false := O4.out.frozenAt _
            obtain ⟨ho2, hg2⟩ := O4.out.stored t (bv true)
            have O5 : Hid ((w4.setCell ⟨w.heap.size, t, none⟩ (.bool true)).ownsRow w.heap.size 4 1 (.slice (some ⟨w.heap.size, 0, none⟩) n n) n ((O'.set t true).map bv)) := by rw [List.map_set]; exact Lib.hid ho2
            have B5 : Hid (Below w.heap.size w (w4.setCell ⟨w.heap.size, t, none⟩ (.bool true))) := Lib.hid (B4.out.setCell (Nat.le_refl _) _)
            clear ho2 hg2
            generalize (O'.map bv)[t] = old at *
            have htI : (t : Int) < (n : Int) := by omega
            cases p
            · go_wp2
              go_roundw
              case rel => exact ⟨k + 1, O', by go_num, by omega, Lib.hid (part_none HP2.out HMK.out (by rw [HT.out]; rfl)), O4, B4⟩
              case measure => simp [intOf]; omega
            · cases q
              · go_wp2
                go_roundw
                case rel => exact ⟨k + 1, O', by go_num, by omega, Lib.hid (part_none HP2.out HMK.out (by rw [HT.out]; rfl)), O4, B4⟩
                case measure => simp [intOf]; omega
              · go_wp2
                go_roundw
                case rel => exact ⟨k + 1, _, by go_num, by omega, Lib.hid (part_some HP2.out HMK.out (by rw [HT.out]; rfl) (by rw [HS.out]; exact htn)), O5, B5⟩
                case measure => simp [intOf]; omega
          · obtain rfl : k = N := by omega
            go_wp2
            go_roundw
            case rel => exact ⟨i + 1, O', by go_num, by omega, Lib.hid (part_out HP2.out (Nat.le_of_eq HL.out) HM.out), HO2, HB2⟩
            case measure => simp [intOf]; omega
    · obtain rfl : i = n := by omega
      go_wp2
      go_ret
      refine ⟨rfl, ?_, HB.out⟩
      have := HP.out
      rw [← HS.out] at this
      rw [← part_img this]
      exact HO.out
end Go.Proofs.Ytbpgbplepebcjaa
