/- Walk: the library's symmetric merge at single-precision numbers. Conditions: finite numbers, at most 2^20. -/
import Derived.Test.YtbkacmklgkgamaaVu
namespace Go.Proofs.Ytbkacmklgkgamaa
open Go.RowKit
attribute [local go_sem] run_store_fl

set_option maxRecDepth 100000 in
set_option maxHeartbeats 2000000 in
/-- One element ahead of a row in order. -/
theorem merge_left (base g n c a b : Nat) (L : List (Nat × Nat)) (w : World) (hn : n ≤ 1048576) (hO : w.ownsRow base 50 1 (.slice (some ⟨g, 0, none⟩) n c) n (L.map tv)) (hab : a + 1 < b) (hb : b ≤ n) (hF : FinAll L) (hs : Srt fval L (a + 1) b) (hT : Tg L a (a + 1) b) :
    Calls Try.prog 71 #[.slice (some ⟨g, 0, none⟩) n c, .int .i64 (a : Int), .int .i64 ((a + 1 : Nat) : Int), .int .i64 (b : Int), .func (.func 43) #[] #[]] w (SortPost w base g n c a b L fun M => Srt fval M a b) := by
  have hl : L.length = n := by have := hO.1; simpa using this
  obtain ⟨m, hm⟩ : ∃ m, a + 1 = m := ⟨_, rfl⟩
  rw [hm] at hab hs hT ⊢
  have z1 : (m : Int) - (a : Int) = 1 := by omega
  have HO := Lib.hid hO
  have HL := Lib.hid hl
  have HF := Lib.hid hF
  have HT := Lib.hid hT
  have HS := Lib.hid hs
  clear hO hl hF hT hs
  go_enter Try.func71, Try.ntmps71
  go_wp2
  go_loopw [10, 11] (fun si sj wr => ∃ (i j : Nat), si = .int .i64 (i : Int) ∧ sj = .int .i64 (j : Int) ∧ m ≤ i ∧ i ≤ j ∧ j ≤ b ∧ Hid (∀ q, m ≤ q → q < i → fval (el L q).1 < fval (el L a).1) ∧ Hid (∀ q, j ≤ q → q < b → fval (el L a).1 ≤ fval (el L q).1) ∧ Hid (wr.ownsRow base 50 1 (.slice (some ⟨g, 0, none⟩) n c) n (L.map tv)) ∧ Hid (w.grownBy wr (some g))) (fun si sj _ => (intOf sj).toNat - (intOf si).toNat)
  case atStart => exact ⟨m, b, rfl, rfl, Nat.le_refl _, by omega, Nat.le_refl _, fun q h1 h2 => by omega, fun q h1 h2 => by omega, HO, grown_of_below (Below.refl _ _) _⟩
  case round =>
    clear HO
    obtain ⟨i, j, rfl, rfl, hmi, hij, hjb, hlo, hhi, hO, hG⟩ := hrel
    obtain ⟨wo, hwo⟩ : ∃ q, q = wr := ⟨_, rfl⟩
    subst hwo
    by_cases hlt : i < j
    · have hlti : (i : Int) < (j : Int) := by omega
      obtain ⟨h, hh⟩ : ∃ h, (i + j) / 2 = h := ⟨_, rfl⟩
      have zh : ((i : Int) + (j : Int)) / 2 = (h : Int) := by omega
      have hib : i ≤ h := by omega
      have hhj : h < j := by omega
      have hhn : h < n := by omega
      have han : a < n := by omega
      have hhni : (h : Int) < (n : Int) := by omega
      have hani : (a : Int) < (n : Int) := by omega
      have c1 := own_cellF hO.out hhn
      have c2 := own_cellF hO.out han
      have CC := Lib.hid (fun w => compareNumbers_any (el L h).1 (el L a).1 (HF.out h) (HF.out a) w)
      obtain ⟨q, hq⟩ : ∃ q, cmpI (el L h).1 (el L a).1 = q := ⟨_, rfl⟩
      have hc : decide (q < 0) = decide (fval (el L h).1 < fval (el L a).1) := by rw [← hq]; exact cmpI_neg
      rw [hq] at CC
      clear hq hh
      by_cases hless : fval (el L h).1 < fval (el L a).1
      · rw [decide_eq_true hless] at hc
        have hlo' : Hid (∀ q, m ≤ q → q < h + 1 → fval (el L q).1 < fval (el L a).1) := fun q h1 h2 => by
          have := HS.out.key h1 (show q ≤ h by omega) (by omega)
          omega
        clear hless hlo
        go_wp2
        go_quiet ((go_at_call 43; exact Calls.quiet_of_same (CC.out _)))
        go_wp2
        generalize hw : World.drewN wo _ = w1
        have WO : Hid (w1.ownsRow base 50 1 (.slice (some ⟨g, 0, none⟩) n c) n (L.map tv)) := by rw [← hw]; exact hO.out
        have WG : Hid (w.grownBy w1 (some g)) := by rw [← hw]; exact ⟨hG.out.os, hG.out.tape, hG.out.output, hG.out.size, hG.out.block⟩
        clear c1 c2 hO hG hw CC
        go_roundw
        case rel => exact ⟨h + 1, j, by go_num, rfl, by omega, by omega, hjb, hlo', hhi, WO, WG⟩
        case measure => simp [intOf]; omega
      · rw [decide_eq_false hless] at hc
        have hhi' : Hid (∀ q, h ≤ q → q < b → fval (el L a).1 ≤ fval (el L q).1) := fun q h1 h2 => by
          have := HS.out.key (show m ≤ h by omega) h1 h2
          omega
        clear hless hhi
        go_wp2
        go_quiet ((go_at_call 43; exact Calls.quiet_of_same (CC.out _)))
        go_wp2
        generalize hw : World.drewN wo _ = w1
        have WO : Hid (w1.ownsRow base 50 1 (.slice (some ⟨g, 0, none⟩) n c) n (L.map tv)) := by rw [← hw]; exact hO.out
        have WG : Hid (w.grownBy w1 (some g)) := by rw [← hw]; exact ⟨hG.out.os, hG.out.tape, hG.out.output, hG.out.size, hG.out.block⟩
        clear c1 c2 hO hG hw CC
        go_roundw
        case rel => exact ⟨i, h, rfl, rfl, hmi, by omega, by omega, hlo, hhi', WO, WG⟩
        case measure => simp [intOf]; omega
    · obtain rfl : i = j := by omega
      obtain ⟨t, ht⟩ : ∃ t, i - 1 = t := ⟨_, rfl⟩
      have zt : (i : Int) - 1 = (t : Int) := by omega
      go_wp2
      go_loopw [13] (fun sk wr => ∃ (k : Nat) (N : List (Nat × Nat)), sk = .int .i64 (k : Int) ∧ a ≤ k ∧ k ≤ t ∧ Hid (MovR L N a k) ∧ Hid (Shuf a b L N) ∧ Hid (wr.ownsRow base 50 1 (.slice (some ⟨g, 0, none⟩) n c) n (N.map tv)) ∧ Hid (w.grownBy wr (some g))) (fun sk _ => t - (intOf sk).toNat)
      case atStart => exact ⟨a, L, rfl, Nat.le_refl _, by omega, MovR.zero _ _, .refl, hO, hG⟩
      case round =>
        clear hO hG
        obtain ⟨k, N, rfl, hak, hkt, hR, hS, hO, hG⟩ := hrel
        obtain ⟨wi, hwi⟩ : ∃ q, q = wr := ⟨_, rfl⟩
        subst hwi
        have HNL : Hid (N.length = n) := by unfold Hid; rw [hS.out.len]; exact HL.out
        by_cases hlt2 : k < t
        · have hki : (k : Int) < (t : Int) := by omega
          have hkn : k < n := by omega
          have hkn1 : k + 1 < n := by omega
          obtain ⟨p, hp⟩ : ∃ p, k + 1 = p := ⟨_, rfl⟩
          have zp : (k : Int) + 1 = (p : Int) := by omega
          have hpn : p < n := by omega
          have hkni : (k : Int) < (n : Int) := by omega
          have hpni : (p : Int) < (n : Int) := by omega
          have d1 := own_cellF hO.out hkn
          have d2 := own_cellF hO.out hpn
          have g1 : wi.frozen? ⟨g, k, none⟩ = false := hO.out.frozenAt _
          have g2 : wi.frozen? ⟨g, p, none⟩ = false := hO.out.frozenAt _
          have NR : Hid (MovR L (swp N k p) a p) := by rw [← hp]; exact hR.out.step hak (by rw [HNL.out]; omega)
          have NS : Hid (Shuf a b L (swp N k p)) := .step hS.out (by omega) (by omega) (by omega) (by omega) (by rw [HNL.out]; omega)
          have NO := Lib.hid (own_swp hO.out k p).1
          have NG := Lib.hid (grown_trans' hG.out (own_swp hO.out k p).2)
          clear hp hR hS hO hG
          go_wp2
          go_region
          go_wp2
          go_roundw
          case rel => exact ⟨p, swp N k p, by first | rfl | go_num, by omega, by omega, NR, NS, NO.out, grown_drew NG.out⟩
          case measure => simp [intOf]; omega
        · obtain rfl : k = t := by omega
          have F : Hid (Srt fval N a b) := by
            have hR' := hR.out
            rw [← ht] at hR'
            exact hR'.done (by omega) (by omega) (by rw [hm]; exact HS.out) (by rw [hm]; exact HT.out) (by rw [hm]; exact hlo.out) (fun q h1 h2 => by have := hhi.out q h1 h2; omega)
          go_wp2
          go_end0
          exact ⟨rfl, N, hS.out, F.out, hO.out, hG.out⟩
set_option maxRecDepth 100000 in
set_option maxHeartbeats 2000000 in
/-- One element behind a row in order. -/
theorem merge_right (base g n c a m : Nat) (L : List (Nat × Nat)) (w : World) (hn : n ≤ 1048576) (hO : w.ownsRow base 50 1 (.slice (some ⟨g, 0, none⟩) n c) n (L.map tv)) (ham : a + 1 < m) (hm : m + 1 ≤ n) (hF : FinAll L) (hs : Srt fval L a m) (hT : Tg L a m (m + 1)) :
    Calls Try.prog 71 #[.slice (some ⟨g, 0, none⟩) n c, .int .i64 (a : Int), .int .i64 (m : Int), .int .i64 ((m + 1 : Nat) : Int), .func (.func 43) #[] #[]] w (SortPost w base g n c a (m + 1) L fun M => Srt fval M a (m + 1)) := by
  have hl : L.length = n := by have := hO.1; simpa using this
  obtain ⟨b, hb⟩ : ∃ b, m + 1 = b := ⟨_, rfl⟩
  rw [hb] at hm hT ⊢
  have z0 : decide ((m : Int) - (a : Int) = 1) = false := by simp; omega
  have z1 : (b : Int) - (m : Int) = 1 := by omega
  have HO := Lib.hid hO
  have HL := Lib.hid hl
  have HF := Lib.hid hF
  have HT := Lib.hid hT
  have HS := Lib.hid hs
  clear hO hl hF hT hs
  go_enter Try.func71, Try.ntmps71
  go_wp2
  go_loopw [14, 15] (fun si sj wr => ∃ (i j : Nat), si = .int .i64 (i : Int) ∧ sj = .int .i64 (j : Int) ∧ a ≤ i ∧ i ≤ j ∧ j ≤ m ∧ Hid (∀ q, a ≤ q → q < i → fval (el L q).1 ≤ fval (el L m).1) ∧ Hid (∀ q, j ≤ q → q < m → fval (el L m).1 < fval (el L q).1) ∧ Hid (wr.ownsRow base 50 1 (.slice (some ⟨g, 0, none⟩) n c) n (L.map tv)) ∧ Hid (w.grownBy wr (some g))) (fun si sj _ => (intOf sj).toNat - (intOf si).toNat)
  case atStart => exact ⟨a, m, rfl, rfl, Nat.le_refl _, by omega, Nat.le_refl _, fun q h1 h2 => by omega, fun q h1 h2 => by omega, HO, grown_of_below (Below.refl _ _) _⟩
  case round =>
    clear HO
    obtain ⟨i, j, rfl, rfl, hmi, hij, hjb, hlo, hhi, hO, hG⟩ := hrel
    obtain ⟨wo, hwo⟩ : ∃ q, q = wr := ⟨_, rfl⟩
    subst hwo
    by_cases hlt : i < j
    · have hlti : (i : Int) < (j : Int) := by omega
      obtain ⟨h, hh⟩ : ∃ h, (i + j) / 2 = h := ⟨_, rfl⟩
      have zh : ((i : Int) + (j : Int)) / 2 = (h : Int) := by omega
      have hib : i ≤ h := by omega
      have hhj : h < j := by omega
      have hhn : h < n := by omega
      have han : m < n := by omega
      have hhni : (h : Int) < (n : Int) := by omega
      have hani : (m : Int) < (n : Int) := by omega
      have c1 := own_cellF hO.out hhn
      have c2 := own_cellF hO.out han
      have CC := Lib.hid (fun w => compareNumbers_any (el L m).1 (el L h).1 (HF.out m) (HF.out h) w)
      obtain ⟨q, hq⟩ : ∃ q, cmpI (el L m).1 (el L h).1 = q := ⟨_, rfl⟩
      have hc : decide (q < 0) = decide (fval (el L m).1 < fval (el L h).1) := by rw [← hq]; exact cmpI_neg
      rw [hq] at CC
      clear hq hh
      by_cases hless : fval (el L m).1 < fval (el L h).1
      · rw [decide_eq_true hless] at hc
        have hhi' : Hid (∀ q, h ≤ q → q < m → fval (el L m).1 < fval (el L q).1) := fun q h1 h2 => by
          have := HS.out.key (show a ≤ h by omega) h1 h2
          omega
        clear hless hhi
        go_wp2
        go_quiet ((go_at_call 43; exact Calls.quiet_of_same (CC.out _)))
        go_wp2
        generalize hw : World.drewN wo _ = w1
        have WO : Hid (w1.ownsRow base 50 1 (.slice (some ⟨g, 0, none⟩) n c) n (L.map tv)) := by rw [← hw]; exact hO.out
        have WG : Hid (w.grownBy w1 (some g)) := by rw [← hw]; exact ⟨hG.out.os, hG.out.tape, hG.out.output, hG.out.size, hG.out.block⟩
        clear c1 c2 hO hG hw CC
        go_roundw
        case rel => exact ⟨i, h, rfl, rfl, hmi, by omega, by omega, hlo, hhi', WO, WG⟩
        case measure => simp [intOf]; omega
      · rw [decide_eq_false hless] at hc
        have hlo' : Hid (∀ q, a ≤ q → q < h + 1 → fval (el L q).1 ≤ fval (el L m).1) := fun q h1 h2 => by
          have := HS.out.key h1 (show q ≤ h by omega) (by omega)
          omega
        clear hless hlo
        go_wp2
        go_quiet ((go_at_call 43; exact Calls.quiet_of_same (CC.out _)))
        go_wp2
        generalize hw : World.drewN wo _ = w1
        have WO : Hid (w1.ownsRow base 50 1 (.slice (some ⟨g, 0, none⟩) n c) n (L.map tv)) := by rw [← hw]; exact hO.out
        have WG : Hid (w.grownBy w1 (some g)) := by rw [← hw]; exact ⟨hG.out.os, hG.out.tape, hG.out.output, hG.out.size, hG.out.block⟩
        clear c1 c2 hO hG hw CC
        go_roundw
        case rel => exact ⟨h + 1, j, by go_num, rfl, by omega, by omega, hjb, hlo', hhi, WO, WG⟩
        case measure => simp [intOf]; omega
    · obtain rfl : i = j := by omega
      go_wp2
      go_loopw [17] (fun sk wr => ∃ (k : Nat) (N : List (Nat × Nat)), sk = .int .i64 (k : Int) ∧ i ≤ k ∧ k ≤ m ∧ Hid (MovL L N m k) ∧ Hid (Shuf a b L N) ∧ Hid (wr.ownsRow base 50 1 (.slice (some ⟨g, 0, none⟩) n c) n (N.map tv)) ∧ Hid (w.grownBy wr (some g))) (fun sk _ => (intOf sk).toNat)
      case atStart => exact ⟨m, L, rfl, by omega, Nat.le_refl _, MovL.zero _ _, .refl, hO, hG⟩
      case round =>
        clear hO hG
        obtain ⟨k, N, rfl, hak, hkt, hR, hS, hO, hG⟩ := hrel
        obtain ⟨wi, hwi⟩ : ∃ q, q = wr := ⟨_, rfl⟩
        subst hwi
        have HNL : Hid (N.length = n) := by unfold Hid; rw [hS.out.len]; exact HL.out
        by_cases hlt2 : i < k
        · have hki : (i : Int) < (k : Int) := by omega
          have hkn : k < n := by omega
          obtain ⟨p, hp⟩ : ∃ p, k - 1 = p := ⟨_, rfl⟩
          have zp : (k : Int) - 1 = (p : Int) := by omega
          have hpn : p < n := by omega
          have hkni : (k : Int) < (n : Int) := by omega
          have hpni : (p : Int) < (n : Int) := by omega
          have d1 := own_cellF hO.out hkn
          have d2 := own_cellF hO.out hpn
          have g1 : wi.frozen? ⟨g, k, none⟩ = false := hO.out.frozenAt _
          have g2 : wi.frozen? ⟨g, p, none⟩ = false := hO.out.frozenAt _
          have NR : Hid (MovL L (swp N k p) m p) := by rw [← hp]; exact hR.out.step (by omega) hkt (by rw [HNL.out]; omega)
          have NS : Hid (Shuf a b L (swp N k p)) := .step hS.out (by omega) (by omega) (by omega) (by omega) (by rw [HNL.out]; omega)
          have NO := Lib.hid (own_swp hO.out k p).1
          have NG := Lib.hid (grown_trans' hG.out (own_swp hO.out k p).2)
          clear hp hR hS hO hG
          go_wp2
          go_region
          go_wp2
          go_roundw
          case rel => exact ⟨p, swp N k p, by first | rfl | go_num, by omega, by omega, NR, NS, NO.out, grown_drew NG.out⟩
          case measure => simp [intOf]; omega
        · obtain rfl : k = i := by omega
          have F : Hid (Srt fval N a b) := by
            have := hR.out.done (a := a) (by omega) (by omega) HS.out (by rw [hb]; exact HT.out) (fun q h1 h2 => by have := hlo.out q h1 h2; omega) hhi.out
            rwa [hb] at this
          go_wp2
          go_end0
          exact ⟨rfl, N, hS.out, F.out, hO.out, hG.out⟩
end Go.Proofs.Ytbkacmklgkgamaa
