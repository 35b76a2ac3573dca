/- Walk: the law FnFilled: it returns true. Conditions: at most 2^20 bytes each (the longer ones apart). -/
import Derived.Test.YtbpgbplepebcjaaBf
import Derived.Test.YtbpgbplepebcjaaMo
import Derived.Test.YtbpgbplepebcjaaLc
namespace Go.Proofs.Ytbpgbplepebcjaa
open Go.RowKit
open Num Quick

set_option maxRecDepth 100000 in
set_option maxHeartbeats 400000 in
theorem lawFi_long (A1 A2 : Option Addr) (n1 c1 n2 c2 : Nat) (w : World) (hn1 : n1 ≤ maxLen) (hn2 : n2 ≤ maxLen) (hbig : ¬ (n1 ≤ 1048576 ∧ n2 ≤ 1048576)) :
    Calls Try.prog 4 #[.slice A1 n1 c1, .slice A2 n2 c2] w fun e w' => e = .returned (.bool true) ∧ Below w.heap.size w w' := by
  have e : (decide (1048576 < n1) || decide (1048576 < n2)) = true := by
    by_cases h : n1 ≤ 1048576
    · have : 1048576 < n2 := by omega
      simp [this]
    · have : 1048576 < n1 := by omega
      simp [this]
  have LC := b10Long_any A1 A2 n1 c1 n2 c2 w hn1 hn2
  rw [e] at LC
  have LCH := Lib.hid LC
  clear LC e
  go_enter Try.func4, Try.ntmps4
  go_wp2_with fail
  refine LCH.out.mono ?_
  rintro e w1 ⟨rfl, rfl⟩
  go_wp2
  go_ret
  exact ⟨rfl, Below.refl _ _⟩
/-- What reads stays. -/
def Keeps (w : World) (F : World → Prop) : Prop := F w ∧ ∀ w', Below w.heap.size w w' → F w'
theorem rd_bool {w' : World} {g n B : Nat} {M : List Bool} (h : Rd w' B 1 (some ⟨g, 0, none⟩) n (M.map bv)) (hl : M.length = n) {i : Nat} (hi : i < n) : w'.cell? ⟨g, i, none⟩ = some (.bool (M.getD i false)) := by
  obtain ⟨b, off, e, _, hc⟩ := h.2 (by omega)
  obtain ⟨rfl, rfl⟩ : g = b ∧ 0 = off := by injection e with e; injection e with e1 e2; exact ⟨e1, e2⟩
  have := hc i (.bool (M.getD i false)) (by
    have hkl : i < M.length := by omega
    rw [List.getElem?_map, List.getElem?_eq_getElem hkl, List.getD_eq_getElem?_getD, List.getElem?_eq_getElem hkl]; rfl)
  simpa using this
theorem rd_boolA {w' : World} {n B : Nat} {A : Option Addr} {M : List Bool} (h : Rd w' B 1 A n (M.map bv)) (hl : M.length = n) {i : Nat} (hi : i < n) : ∃ b off, A = some ⟨b, off, none⟩ ∧ w'.cell? ⟨b, off + i, none⟩ = some (.bool (M.getD i false)) := by
  obtain ⟨b, off, e, _, hc⟩ := h.2 (by omega)
  refine ⟨b, off, e, hc i (.bool (M.getD i false)) ?_⟩
  have hkl : i < M.length := by omega
  rw [List.getElem?_map, List.getElem?_eq_getElem hkl, List.getD_eq_getElem?_getD, List.getElem?_eq_getElem hkl]; rfl
theorem snoc_sub {S M : List Bool} {i : Nat} (h : ∀ q, S.getD q false = true → M.getD q false = true) (hl : S.length = i) (p : Bool) (hp : p = true → M.getD i false = true) (q : Nat) (hq : (S ++ [p]).getD q false = true) : M.getD q false = true := by
  rw [List.getD_eq_getElem?_getD] at hq
  by_cases h1 : q < S.length
  · rw [List.getElem?_append_left h1] at hq
    exact h q (by rw [List.getD_eq_getElem?_getD]; exact hq)
  · rw [List.getElem?_append_right (by omega)] at hq
    by_cases h2 : q - S.length = 0
    · rw [h2] at hq
      have hqi : q = i := by omega
      rw [hqi]; exact hp (by simpa using hq)
    · obtain ⟨m, hm⟩ : ∃ m, q - S.length = m + 1 := ⟨q - S.length - 1, by omega⟩
      rw [hm] at hq
      simp at hq
set_option maxRecDepth 100000 in
set_option maxHeartbeats 16000000 in
theorem lawFi_any (A1 A2 : Option Addr) (n1 c1 n2 c2 : Nat) (bs bs2 : List Nat) (w : World) (hn1 : n1 ≤ 1048576) (hn2 : n2 ≤ 1048576) (hc1 : n1 ≤ c1) (hc2 : n2 ≤ c2) (hbs : ∀ x ∈ bs, x < 256) (hbs2 : ∀ x ∈ bs2, x < 256) (hA : Rd w w.heap.size 1 A1 n1 (bs.map u8v)) (hA2 : Rd w w.heap.size 1 A2 n2 (bs2.map u8v)) :
    Calls Try.prog 4 #[.slice A1 n1 c1, .slice A2 n2 c2] w fun e w' => e = .returned (.bool true) ∧ Below w.heap.size w w' := by
  have LC := b10Long_any A1 A2 n1 c1 n2 c2 w (by unfold maxLen; omega) (by unfold maxLen; omega)
  rw [show (decide (1048576 < n1) || decide (1048576 < n2)) = false by simp; omega] at LC
  have LCH := Lib.hid LC
  have SC := Lib.hid (B10Smalls_any n1 c1 A1 bs w hn1 hc1 hbs hA)
  have hl2 : bs2.length = n2 := by have := hA2.len; simpa using this
  obtain ⟨y, hy, YC⟩ := b10At_val A2 n2 c2 0 8 bs2 hl2 hn2 (by omega) (by omega) (by omega) hbs2
  replace YC := Lib.hid (fun w' (hb : Below w.heap.size w w') => YC _ _ (hA2.below hb))
  have ZC := Lib.hid (fun i (hi : i ≤ 999) => b10At_val A2 n2 c2 (i + 1) 2 bs2 hl2 hn2 (by omega) (by omega) (by omega) hbs2)
  have HA2 := Lib.hid hA2
  clear LC hA hbs hA2 hbs2 hl2
  go_enter Try.func4, Try.ntmps4
  go_wp2_with fail
  refine LCH.out.mono ?_
  rintro e w0 ⟨rfl, hw0⟩
  obtain rfl := hw0.symm
  go_wp2_with fail
  refine SC.out.mono ?_
  intro e w1 hD
  obtain ⟨L, N, g, cc, rfl, hL, hN, hok, hR, hG⟩ := hD
  rw [hL] at hR ⊢
  have RD := Lib.hid (Rd.own hR)
  have B1 := Lib.hid hG
  clear LCH SC hw0 hR hG
  go_wp2_with fail
  refine (YC.out _ B1.out).mono ?_
  rintro e w2 ⟨rfl, hw2⟩
  obtain rfl := hw2.symm
  clear hw2 YC
  obtain ⟨s, es⟩ : ∃ s, y + 1 = s := ⟨_, rfl⟩
  have hs1 : 1 ≤ s := by omega
  have hs8 : s ≤ 8 := by omega
  have esI : (1 : Int) + (y : Int) = (s : Int) := by omega
  have hsw : wrap64 (s : Int) = (s : Int) := IntWalk.wrap64_in _ (by omega)
  obtain ⟨n, hn⟩ : ∃ n, s * s = n := ⟨_, rfl⟩
  have hnI : (s : Int) * (s : Int) = (n : Int) := by rw [← hn]; simp
  have hn64 : n ≤ 64 := by rw [← hn]; exact Nat.mul_le_mul hs8 hs8
  have hnw : wrap64 (n : Int) = (n : Int) := IntWalk.wrap64_in _ (by omega)
  have hn1' : 1 ≤ n := by rw [← hn]; exact Nat.mul_le_mul hs1 hs1
  have FC := Lib.hid (FilledBoxes_w L N s n (some ⟨g, 0, none⟩) cc w1 hL hN hok hs1 hs8 hn RD.out)
  have BS := Lib.hid (fun w' (hb : Below w1.heap.size w1 w') M AM cM (hlM : M.length = n) (hM : Rd w' w'.heap.size 1 AM n (M.map bv)) => BoxStep_w L N s n M (some ⟨g, 0, none⟩) AM cc cM w' hL hN hok hs1 hs8 hn hlM ((RD.out.below hb).more hb.size) hM)
  have SL := Lib.hid (fun k => (setAt_length L s k).trans hn)
  have IL := Lib.hid (fun M => (imgOf_img L s M).1.trans hn)
  have FL := Lib.hid (setAt_falls L s)
  have HNN := Lib.hid hn
  clear es hL hN hok hn hs1 hs8 hy
  go_wp2_with fail
  refine FC.out.mono ?_
  intro e w3 hD
  obtain ⟨gm, T, hgm, hT1, hT2, hT3, rfl, ho3, hb3⟩ := hD
  have O3 := Lib.hid ho3
  have B3 := Lib.hid hb3
  have HT3 := Lib.hid hT3
  clear FC ho3 hb3 hgm hT3
  have C3 := Lib.hid (BS.out w3 B3.out (setAt L s T) (some ⟨gm, 0, none⟩) n (SL.out T) (Rd.own O3.out))
  go_wp2_with fail
  refine C3.out.mono ?_
  intro e w4 hD
  obtain ⟨gs, hgs, rfl, ho4, hb4⟩ := hD
  have hT1I : (1 : Int) ≤ (T : Int) := by omega
  have hT2I : (T : Int) ≤ 64 := by omega
  have B4 := Lib.hid (B3.out.trans (hb4.mono B3.out.size))
  have RM := Lib.hid (Rd.own (own_below O3.out hb4))
  have RS := Lib.hid (Rd.own ho4)
  clear C3 ho4 hb4 hgs O3 B3
  go_wp2
  clear hsw hnw hnI esI
  have M0 : Hid ((w4.alloc (.cells #[] 4)).ownsRow w4.heap.size 4 1 (.slice (some ⟨w4.heap.size, 0, none⟩) 0 0) 0 []) := Lib.hid ((Blk.new w4 _ _).own (n := 0) (size := 1) (Nat.le_refl _) rfl (by unfold maxLen; omega))
  go_loopw [12, 77] (fun s12 s77 wr => ∃ (k : Nat) (A : Option Addr) (c : Nat), s12 = .slice A k c ∧ s77 = .int .i64 (k : Int) ∧ k ≤ n ∧ Hid (wr.ownsRow w4.heap.size 4 1 (.slice A k c) k (List.replicate k (.bool true))) ∧ Hid (Below w4.heap.size w4 wr)) (fun _ s77 _ => n - (intOf s77).toNat)
  case atStart => exact ⟨0, _, 0, rfl, rfl, Nat.zero_le _, M0, Lib.hid ((Below.refl _ _).alloc (Nat.le_refl _) _)⟩
  case round =>
    obtain ⟨k, A, c, rfl, rfl, hk, HO, HB⟩ := hrel
    clear M0
    by_cases hlt : k < n
    · have hkI : (k : Int) < (n : Int) := by omega
      go_wp2_with (at_builtin; refine wpList_append_one (W := wr) rfl _ _ _ rfl w4.heap.size 4 (.bool false) 1 Try.underlying43 boolInfo rfl A k c _ rfl HO.out (.bool true) _ rfl (by simp) rfl (by unfold maxLen; omega) (by omega) HB.out.size ?_; intro A3 c3 w3' ho3 hg3 hd3)
      have O6 := Lib.hid ho3
      have B6 := Lib.hid (HB.out.grown hg3 HB.out.size (fun j e => (HO.out.lt j e).1))
      rw [← List.replicate_succ'] at O6
      clear ho3 hg3 hd3 HO HB
      go_roundw
      case rel => exact ⟨k + 1, A3, c3, rfl, by go_num, by omega, O6, B6⟩
      case measure => simp [intOf]; omega
    · obtain rfl : k = n := by omega
      have R0 : Hid (Rd wr wr.heap.size 1 A k ((setAt L s 0).map bv)) := by
        have := Rd.own HO.out
        unfold setAt
        rw [List.map_replicate, HNN.out]
        exact Lib.hid this
      clear HO
      go_wp2
      have B0 := HB
      clear HB
      go_loopw [12, 13] (fun s12 s13 wr => ∃ (j : Nat) (A : Option Addr) (c : Nat), j ≤ T ∧ s12 = .slice A k c ∧ s13 = .int .i64 (j : Int) ∧ Hid (Rd wr wr.heap.size 1 A k ((setAt L s j).map bv)) ∧ Hid (Below w4.heap.size w4 wr)) (fun _ s13 _ => T - (intOf s13).toNat)
      case atStart => exact ⟨0, A, c, Nat.zero_le _, rfl, rfl, R0, B0⟩
      case round =>
        clear R0 B0
        obtain ⟨j, A', c', hj, rfl, rfl, HR, HB⟩ := hrel
        by_cases hjT : j < T
        · have hjI : (j : Int) < (T : Int) := by omega
          have C5 := Lib.hid (BS.out wr (B4.out.trans (HB.out.mono B4.out.size)) (setAt L s j) A' c' (SL.out j) HR.out)
          obtain ⟨b', off', rfl, hbb', hc'⟩ := HR.out.2 hn1'
          have HC' := Lib.hid hc'
          clear hc'
          go_wp2_with fail
          refine C5.out.mono ?_
          intro e w5 hD
          obtain ⟨gn, hgn, rfl, ho5, hb5⟩ := hD
          have R5 := Lib.hid (Rd.own ho5)
          have B5 := Lib.hid (HB.out.trans (hb5.mono HB.out.size))
          have K5 := Lib.hid (fun i (hi : i < k) => show w5.cell? ⟨b', off' + i, none⟩ = some (.bool ((setAt L s j).getD i false)) from (hb5.cell (p := ⟨b', off' + i, none⟩) hbb').trans (HC'.out i _ (by
            have hkl : i < (setAt L s j).length := by rw [SL.out]; exact hi
            rw [List.getElem?_map, List.getElem?_eq_getElem hkl, List.getD_eq_getElem?_getD, List.getElem?_eq_getElem hkl]; rfl)))
          have FJ := Lib.hid (FL.out j)
          have LJ := Lib.hid (IL.out (setAt L s j))
          clear C5 ho5 hb5 hgn HR HB HC' hbb'
          go_wp2
          go_loop [106] (fun si => ∃ i : Nat, si = .int .i64 (i : Int) ∧ i ≤ k) (fun si => k - (intOf si).toNat)
          case atStart => exact ⟨0, rfl, Nat.zero_le _⟩
          case round =>
            obtain ⟨i, rfl, hi⟩ := hrel
            by_cases hik : i < k
            · have hiI : (i : Int) < (k : Int) := Int.ofNat_lt.mpr hik
              have d1 := rd_bool R5.out LJ.out hik
              have d2 := K5.out i hik
              have hpq : (imgOf L s (setAt L s j)).getD i false = true → (setAt L s j).getD i false = true := FJ.out i (by rw [HNN.out]; exact hik)
              generalize (imgOf L s (setAt L s j)).getD i false = p at *
              generalize (setAt L s j).getD i false = q at *
              cases p
              · clear hpq
                go_wp2
                go_round
                case rel => exact ⟨i + 1, by go_num, by omega⟩
                case measure => simp [intOf]; omega
              · obtain rfl := hpq rfl
                clear hpq
                go_wp2
                go_round
                case rel => exact ⟨i + 1, by go_num, by omega⟩
                case measure => simp [intOf]; omega
            · obtain rfl : i = k := by omega
              go_wp2
              go_roundw
              case rel => exact ⟨j + 1, _, _, by omega, rfl, by go_num, R5, B5⟩
              case measure => simp [intOf]; omega
        · obtain rfl : j = T := by omega
          go_wp2
          go_loopw [124] (fun s124 wr => ∃ i : Nat, i ≤ k ∧ s124 = .int .i64 (i : Int) ∧ Hid (Rd wr wr.heap.size 1 A' k ((setAt L s j).map bv)) ∧ Hid (Below w4.heap.size w4 wr)) (fun s124 _ => k - (intOf s124).toNat)
          case atStart => exact ⟨0, Nat.zero_le _, rfl, HR, HB⟩
          case round =>
            clear HR HB
            obtain ⟨i, hi, rfl, HR, HB⟩ := hrel
            by_cases hik : i < k
            · have hiI : (i : Int) < (k : Int) := Int.ofNat_lt.mpr hik
              obtain ⟨b', off', rfl, e2⟩ := rd_boolA HR.out (SL.out j) hik
              have e1 := rd_bool (RM.out.below HB.out) (SL.out j) hik
              have e3 := rd_bool (RS.out.below HB.out) (IL.out (setAt L s j)) hik
              by_cases hT : j < 64
              · have hst : (imgOf L s (setAt L s j)).getD i false = (setAt L s j).getD i false := congrArg (fun M => M.getD i false) (HT3.out hT)
                rw [hst] at e3
                clear hst
                have hTI : (j : Int) < 64 := Int.ofNat_lt.mpr hT
                generalize (setAt L s j).getD i false = p at *
                cases p <;> (
                  go_wp2
                  go_quiet (fail)
                  go_wp2
                  go_roundw
                  case rel => exact ⟨i + 1, by omega, by go_num, Lib.hid (HR.out.below ⟨rfl, rfl, rfl, Nat.le_refl _, fun _ _ => rfl⟩), ⟨HB.out.os, HB.out.tape, HB.out.output, HB.out.size, HB.out.block⟩⟩
                  case measure => simp [intOf]; omega)
              · have hTI : decide ((j : Int) < 64) = false := decide_eq_false (fun h => hT (Int.ofNat_lt.mp h))
                generalize (setAt L s j).getD i false = p at *
                cases p <;> (
                  go_wp2
                  go_quiet (fail)
                  go_wp2
                  go_roundw
                  case rel => exact ⟨i + 1, by omega, by go_num, Lib.hid (HR.out.below ⟨rfl, rfl, rfl, Nat.le_refl _, fun _ _ => rfl⟩), ⟨HB.out.os, HB.out.tape, HB.out.output, HB.out.size, HB.out.block⟩⟩
                  case measure => simp [intOf]; omega)
            · obtain rfl : k = i := by omega
              clear HR
              go_wp2
              obtain ⟨g0, HS0, HS1, M1⟩ : ∃ g0, w4.heap.size ≤ g0 ∧ g0 ≤ wr.heap.size ∧ Hid ((wr.alloc (.cells #[] 4)).ownsRow g0 4 1 (.slice (some ⟨wr.heap.size, 0, none⟩) 0 0) 0 []) := ⟨_, HB.out.size, Nat.le_refl _, Lib.hid ((Blk.new wr _ _).own (n := 0) (size := 1) (Nat.le_refl _) rfl (by unfold maxLen; omega))⟩
              go_loopw [18, 155] (fun s18 s155 wr => ∃ (i : Nat) (A : Option Addr) (c : Nat) (S : List Bool), i ≤ k ∧ s18 = .slice A i c ∧ s155 = .int .i64 (i : Int) ∧ S.length = i ∧ Hid (∀ q, S.getD q false = true → (setAt L s j).getD q false = true) ∧ Hid (wr.ownsRow g0 4 1 (.slice A i c) i (S.map bv)) ∧ Hid (Below w4.heap.size w4 wr) ∧ g0 ≤ wr.heap.size) (fun _ s155 _ => k - (intOf s155).toNat)
              case atStart => exact ⟨0, _, 0, [], Nat.zero_le _, rfl, rfl, rfl, Lib.hid (fun q h => by simp at h), M1, Lib.hid (HB.out.alloc HB.out.size _), Nat.le_trans HS1 (by simp)⟩
              case round =>
                clear M1 HB
                obtain ⟨i, A, c, S, hi, rfl, rfl, hSl, HSub, HO, HB, hsz⟩ := hrel
                by_cases hik : i < k
                · have hiI : (i : Int) < (k : Int) := Int.ofNat_lt.mpr hik
                  have e1 := rd_bool (RM.out.below HB.out) (SL.out j) hik
                  have HQ : Hid (∀ p : Bool, (p = true → (setAt L s j).getD i false = true) → ∀ q, (S ++ [p]).getD q false = true → (setAt L s j).getD q false = true) := Lib.hid (snoc_sub HSub.out hSl)
                  obtain ⟨a, ha⟩ : ∃ a, i + 1 = a := ⟨_, rfl⟩
                  have haI : (i : Int) + 1 = (a : Int) := by omega
                  obtain ⟨y2, hy2, YC⟩ := ZC.out i (by omega)
                  rw [ha] at YC
                  replace YC := Lib.hid YC
                  generalize (setAt L s j).getD i false = p at *
                  cases p
                  · go_wp2_with (at_builtin; refine wpList_append_one (W := wr) rfl _ _ _ rfl g0 4 (.bool false) 1 Try.underlying43 boolInfo rfl A i c _ rfl HO.out (.bool false) _ rfl (by simp) rfl (by unfold maxLen; omega) (by omega) hsz ?_; intro A3 c3 w3' ho3 hg3 hd3)
                    have O6 := Lib.hid ho3
                    have B6 := Lib.hid (HB.out.grown hg3 HB.out.size (fun j e => Nat.le_trans HS0 (HO.out.lt j e).1))
                    have Z6 := Nat.le_trans hsz hg3.size
                    have Q6 := Lib.hid (HQ.out false (fun h => nomatch h))
                    rw [show [Value.bool false] = [false].map bv from rfl, ← List.map_append, ha] at O6
                    clear ho3 hg3 hd3 HO HB HQ
                    go_roundw
                    case rel => exact ⟨a, A3, c3, S ++ [false], by omega, rfl, by first | rfl | go_num, by simp [hSl, ha], Q6, O6, B6, Z6⟩
                    case measure => simp [intOf]; omega
                  · go_wp2_with fail
                    refine (YC.out _ _ (HA2.out.below (B1.out.trans ((B4.out.mono B1.out.size).trans (HB.out.mono (Nat.le_trans B1.out.size B4.out.size)))))).mono ?_
                    rintro e w6 ⟨rfl, hw6⟩
                    obtain rfl := hw6.symm
                    by_cases hy0 : y2 = 0
                    · subst hy0
                      go_wp2_with (at_builtin; refine wpList_append_one (W := wr) rfl _ _ _ rfl g0 4 (.bool false) 1 Try.underlying43 boolInfo rfl A i c _ rfl HO.out (.bool true) _ rfl (by simp) rfl (by unfold maxLen; omega) (by omega) hsz ?_; intro A3 c3 w3' ho3 hg3 hd3)
                      have O6 := Lib.hid ho3
                      have B6 := Lib.hid (HB.out.grown hg3 HB.out.size (fun j e => Nat.le_trans HS0 (HO.out.lt j e).1))
                      have Z6 := Nat.le_trans hsz hg3.size
                      have Q6 := Lib.hid (HQ.out true (fun _ => by first | rfl | trivial))
                      rw [show [Value.bool true] = [true].map bv from rfl, ← List.map_append, ha] at O6
                      clear ho3 hg3 hd3 HO HB HQ
                      go_roundw
                      case rel => exact ⟨a, A3, c3, S ++ [true], by omega, rfl, by first | rfl | go_num, by simp [hSl, ha], Q6, O6, B6, Z6⟩
                      case measure => simp [intOf]; omega
                    · obtain rfl : y2 = 1 := by omega
                      go_wp2_with (at_builtin; refine wpList_append_one (W := wr) rfl _ _ _ rfl g0 4 (.bool false) 1 Try.underlying43 boolInfo rfl A i c _ rfl HO.out (.bool false) _ rfl (by simp) rfl (by unfold maxLen; omega) (by omega) hsz ?_; intro A3 c3 w3' ho3 hg3 hd3)
                      have O6 := Lib.hid ho3
                      have B6 := Lib.hid (HB.out.grown hg3 HB.out.size (fun j e => Nat.le_trans HS0 (HO.out.lt j e).1))
                      have Z6 := Nat.le_trans hsz hg3.size
                      have Q6 := Lib.hid (HQ.out false (fun h => nomatch h))
                      rw [show [Value.bool false] = [false].map bv from rfl, ← List.map_append, ha] at O6
                      clear ho3 hg3 hd3 HO HB HQ
                      go_roundw
                      case rel => exact ⟨a, A3, c3, S ++ [false], by omega, rfl, by first | rfl | go_num, by simp [hSl, ha], Q6, O6, B6, Z6⟩
                      case measure => simp [intOf]; omega
                · obtain rfl : k = i := by omega
                  have C6 := Lib.hid (BS.out wr (B4.out.trans (HB.out.mono B4.out.size)) S A c hSl (Rd.own HO.out))
                  have HM : Hid (Sub (s * s) (imgOf L s S) (imgOf L s (setAt L s j))) := Lib.hid ((imgOf_img L s S).mono (imgOf_img L s (setAt L s j)) (fun q _ h => HSub.out q h))
                  have LS := Lib.hid (IL.out S)
                  clear HO HSub hSl
                  go_wp2_with fail
                  refine C6.out.mono ?_
                  intro e w7 hD
                  obtain ⟨gf, hgf, rfl, ho7, hb7⟩ := hD
                  have B7 := Lib.hid (HB.out.trans (hb7.mono HB.out.size))
                  have RF := Lib.hid (Rd.own ho7)
                  have RS7 := Lib.hid (RS.out.below B7.out)
                  have FIN := Lib.hid (B1.out.trans ((B4.out.mono B1.out.size).trans (B7.out.mono (Nat.le_trans B1.out.size B4.out.size))))
                  clear C6 ho7 hb7 hgf HB BS ZC
                  go_wp2
                  go_loop [191] (fun si => ∃ i : Nat, si = .int .i64 (i : Int) ∧ i ≤ k) (fun si => k - (intOf si).toNat)
                  case atStart => exact ⟨0, rfl, Nat.zero_le _⟩
                  case round =>
                    obtain ⟨i, rfl, hi⟩ := hrel
                    by_cases hik : i < k
                    · have hiI : (i : Int) < (k : Int) := Int.ofNat_lt.mpr hik
                      have d1 := rd_bool RF.out LS.out hik
                      have d2 := rd_bool RS7.out (IL.out (setAt L s j)) hik
                      have hpq : (imgOf L s S).getD i false = true → (imgOf L s (setAt L s j)).getD i false = true := HM.out i (by rw [HNN.out]; exact hik)
                      generalize (imgOf L s S).getD i false = p at *
                      generalize (imgOf L s (setAt L s j)).getD i false = q at *
                      cases p
                      · clear hpq
                        go_wp2
                        go_round
                        case rel => exact ⟨i + 1, by go_num, by omega⟩
                        case measure => simp [intOf]; omega
                      · obtain rfl := hpq rfl
                        clear hpq
                        go_wp2
                        go_round
                        case rel => exact ⟨i + 1, by go_num, by omega⟩
                        case measure => simp [intOf]; omega
                    · obtain rfl : k = i := by omega
                      go_wp2
                      go_ret
                      exact ⟨rfl, FIN.out⟩
end Go.Proofs.Ytbpgbplepebcjaa
