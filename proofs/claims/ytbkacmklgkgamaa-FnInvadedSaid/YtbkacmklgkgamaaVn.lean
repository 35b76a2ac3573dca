/- Walks: the library's symmetric merge in whole, and its stable sort, at single-precision numbers. Conditions: finite numbers, at most 2^20. -/
import Derived.Test.YtbkacmklgkgamaaVm
namespace Go.Proofs.Ytbkacmklgkgamaa
open Go.RowKit
attribute [local go_sem] run_store_fl

/-- The merge at [a, m) and [m, b) does what it should. -/
def MergeC (base g n c a m b : Nat) (L : List (Nat × Nat)) (w : World) : Prop :=
    Calls Try.prog 71 #[.slice (some ⟨g, 0, none⟩) n c, .int .i64 (a : Int), .int .i64 (m : Int), .int .i64 (b : Int), .func (.func 43) #[] #[]] w (SortPost w base g n c a b L fun M => Srt fval M a b)
set_option maxRecDepth 100000 in
set_option maxHeartbeats 8000000 in
theorem merge_mid (base g n c a m b : Nat) (L : List (Nat × Nat)) (w : World) (hn : n ≤ 1048576) (hO : w.ownsRow base 50 1 (.slice (some ⟨g, 0, none⟩) n c) n (L.map tv)) (ham : a + 2 ≤ m) (hmb : m + 2 ≤ b) (hb : b ≤ n) (hF : FinAll L) (hs1 : Srt fval L a m) (hs2 : Srt fval L m b) (hT : Tg L a m b)
    (IH : ∀ (a' m' b' : Nat) (L' : List (Nat × Nat)) (w' : World), b' - a' < b - a → a' < m' → m' < b' → b' ≤ n → w'.ownsRow base 50 1 (.slice (some ⟨g, 0, none⟩) n c) n (L'.map tv) → FinAll L' → Srt fval L' a' m' → Srt fval L' m' b' → Tg L' a' m' b' → MergeC base g n c a' m' b' L' w') :
    MergeC base g n c a m b L w := by
  have hl : L.length = n := by have := hO.1; simpa using this
  obtain ⟨mid, hmid⟩ : ∃ mid, (a + b) / 2 = mid := ⟨_, rfl⟩
  have zmid : ((a : Int) + (b : Int)) / 2 = (mid : Int) := by omega
  obtain ⟨d1, hd1⟩ : ∃ d1, m - a = d1 := ⟨_, rfl⟩
  obtain ⟨d2, hd2⟩ : ∃ d2, b - m = d2 := ⟨_, rfl⟩
  have zd1 : (m : Int) - (a : Int) = (d1 : Int) := by omega
  have zd2 : (b : Int) - (m : Int) = (d2 : Int) := by omega
  have zd1' : decide (d1 = 1) = false := by simp; omega
  have zd2' : decide (d2 = 1) = false := by simp; omega
  obtain ⟨nn, hnn⟩ : ∃ nn, mid + m = nn := ⟨_, rfl⟩
  have znn : (mid : Int) + (m : Int) = (nn : Int) := by omega
  obtain ⟨p, hp⟩ : ∃ p, nn - 1 = p := ⟨_, rfl⟩
  have zp : (nn : Int) - 1 = (p : Int) := by omega
  obtain ⟨s0, hs0⟩ : ∃ s0, nn - b = s0 := ⟨_, rfl⟩
  have hmid1 : a < mid := by omega
  have hmid2 : mid < b := by omega
  have HO := Lib.hid hO
  have HL := Lib.hid hl
  have HF := Lib.hid hF
  have HT := Lib.hid hT
  have HS1 := Lib.hid hs1
  have HS2 := Lib.hid hs2
  have HIH := Lib.hid IH
  clear hO hl hF hT hs1 hs2 IH
  unfold MergeC
  go_enter Try.func71, Try.ntmps71
  by_cases hside : mid < m
  · have hsidei : decide (mid < m) = true := by simp; omega
    have zs0 : (nn : Int) - (b : Int) = (s0 : Int) := by omega
    go_wp2
    go_loopw [20, 21] (fun si sj wr => ∃ (s r : Nat), si = .int .i64 (s : Int) ∧ sj = .int .i64 (r : Int) ∧ s0 ≤ s ∧ s ≤ r ∧ r ≤ mid ∧ Hid (s = s0 ∨ fval (el L (s - 1)).1 ≤ fval (el L (nn - s)).1) ∧ Hid (r = mid ∨ fval (el L (p - r)).1 < fval (el L r).1) ∧ Hid (wr.ownsRow base 50 1 (.slice (some ⟨g, 0, none⟩) n c) n (L.map tv)) ∧ Hid (w.grownBy wr (some g))) (fun si sj _ => (intOf sj).toNat - (intOf si).toNat)
    case atStart => exact ⟨s0, mid, rfl, rfl, Nat.le_refl _, by omega, Nat.le_refl _, .inl rfl, .inl rfl, HO, grown_of_below (Below.refl _ _) _⟩
    case round =>
      clear HO
      obtain ⟨s, r, rfl, rfl, hs1, hsr, hr1, hlo, hhi, hO, hG⟩ := hrel
      obtain ⟨wo, hwo⟩ : ∃ q, q = wr := ⟨_, rfl⟩
      subst hwo
      by_cases hlt : s < r
      · have hlti : (s : Int) < (r : Int) := by omega
        obtain ⟨h, hh⟩ : ∃ h, (s + r) / 2 = h := ⟨_, rfl⟩
        have zh : ((s : Int) + (r : Int)) / 2 = (h : Int) := by omega
        have hib : s ≤ h := by omega
        have hhj : h < r := by omega
        obtain ⟨t, ht⟩ : ∃ t, p - h = t := ⟨_, rfl⟩
        have zt : (p : Int) - (h : Int) = (t : Int) := by omega
        have hhn : h < n := by omega
        have htn : t < n := by omega
        have hhni : (h : Int) < (n : Int) := by omega
        have htni : (t : Int) < (n : Int) := by omega
        have c1 := own_cellF hO.out htn
        have c2 := own_cellF hO.out hhn
        have CC := Lib.hid (fun w => compareNumbers_any (el L t).1 (el L h).1 (HF.out t) (HF.out h) w)
        obtain ⟨q, hq⟩ : ∃ q, cmpI (el L t).1 (el L h).1 = q := ⟨_, rfl⟩
        have hc : decide (q < 0) = decide (fval (el L t).1 < fval (el L h).1) := by rw [← hq]; exact cmpI_neg
        rw [hq] at CC
        clear hq hh
        by_cases hless : fval (el L t).1 < fval (el L h).1
        · rw [decide_eq_true hless] at hc
          have hhi' : Hid (h = mid ∨ fval (el L (p - h)).1 < fval (el L h).1) := .inr (by rw [ht]; exact hless)
          clear hless hhi ht
          go_wp2
          go_quiet ((go_at_call 43; exact Calls.quiet_of_same (CC.out _)))
          go_wp2
          generalize hw : World.drewN wo _ = w1
          have WO : Hid (w1.ownsRow base 50 1 (.slice (some ⟨g, 0, none⟩) n c) n (L.map tv)) := by rw [← hw]; exact hO.out
          have WG : Hid (w.grownBy w1 (some g)) := by rw [← hw]; exact ⟨hG.out.os, hG.out.tape, hG.out.output, hG.out.size, hG.out.block⟩
          clear c1 c2 hO hG hw CC
          go_roundw
          case rel => exact ⟨s, h, rfl, rfl, hs1, by omega, by omega, hlo, hhi', WO, WG⟩
          case measure => simp [intOf]; omega
        · rw [decide_eq_false hless] at hc
          have hlo' : Hid (h + 1 = s0 ∨ fval (el L (h + 1 - 1)).1 ≤ fval (el L (nn - (h + 1))).1) := .inr (by rw [Nat.add_sub_cancel, show nn - (h + 1) = t by omega]; omega)
          clear hless hlo ht
          go_wp2
          go_quiet ((go_at_call 43; exact Calls.quiet_of_same (CC.out _)))
          go_wp2
          generalize hw : World.drewN wo _ = w1
          have WO : Hid (w1.ownsRow base 50 1 (.slice (some ⟨g, 0, none⟩) n c) n (L.map tv)) := by rw [← hw]; exact hO.out
          have WG : Hid (w.grownBy w1 (some g)) := by rw [← hw]; exact ⟨hG.out.os, hG.out.tape, hG.out.output, hG.out.size, hG.out.block⟩
          clear c1 c2 hO hG hw CC
          go_roundw
          case rel => exact ⟨h + 1, r, by go_num, rfl, by omega, by omega, hr1, hlo', hhi, WO, WG⟩
          case measure => simp [intOf]; omega
      · obtain rfl : s = r := by omega
        obtain ⟨e, he⟩ : ∃ e, nn - s = e := ⟨_, rfl⟩
        have ze : (nn : Int) - (s : Int) = (e : Int) := by omega
        have hes : e + s = mid + m := by omega
        have hsm : s ≤ m := by omega
        have hme : m ≤ e := by omega
        have heb : e ≤ b := by omega
        have hsmid : s ≤ mid := by omega
        have has : a ≤ s := by omega
        have HLO : Hid (s = a ∨ e = b ∨ fval (el L (s - 1)).1 ≤ fval (el L e).1) := by
          rcases hlo.out with h | h
          · have : s = a ∨ e = b := by omega
            rcases this with h1 | h1
            · exact .inl h1
            · exact .inr (.inl h1)
          · right; right; rw [← he]; omega
        have HHI : Hid (s = m ∨ e = m ∨ fval (el L (e - 1)).1 < fval (el L s).1) := by
          rcases hhi.out with h | h
          · have : s = m ∨ e = m := by omega
            rcases this with h1 | h1
            · exact .inl h1
            · exact .inr (.inl h1)
          · right; right; rw [← he, show nn - s - 1 = p - s by omega]; exact h
        clear hlo hhi
        by_cases hrot : s < m ∧ m < e
        · obtain ⟨r1, r2⟩ := hrot
          have r1i : (s : Int) < (m : Int) := by omega
          have r2i : (m : Int) < (e : Int) := by omega
          have RTC := Lib.hid (rotate_any base g n c s m e (.func (.func 43) #[] #[]) L wo hn hO.out r1 r2 (by omega))
          go_wp2_with fail
          refine RTC.out.mono ?_
          rintro e0 w6 ⟨rfl, R, hS0, hR0, hO0, hG0⟩
          have SP : Hid (Split fval R a s mid e b) := merge_split HS1.out HS2.out HT.out hR0 has hsm hme heb hes HLO.out HHI.out
          have HSH : Hid (Shuf a b L R) := hS0.mono has heb (by rw [HL.out]; omega)
          have FR : Hid (FinAll R) := HF.out.shuf hS0
          have HRL : Hid (R.length = n) := by unfold Hid; rw [hS0.len]; exact HL.out
          have O6 := Lib.hid hO0
          have G6 := Lib.hid (grown_trans' hG.out hG0)
          clear hS0 hR0 hO0 hG0 hO hG
          by_cases p1 : a < s ∧ s < mid
          · obtain ⟨p11, p12⟩ := p1
            have p11i : (a : Int) < (s : Int) := by omega
            have p12i : (s : Int) < (mid : Int) := by omega
            have RC1 : Hid (MergeC base g n c a s mid R w6) := HIH.out a s mid R w6 (by omega) p11 p12 (by omega) O6.out FR.out SP.out.s1 SP.out.s2 SP.out.t1
            unfold MergeC at RC1
            go_wp2_with fail
            refine RC1.out.mono ?_
            rintro e1 w7 ⟨rfl, N1, hS1, hT1, hO1, hG1⟩
            have H1 := Lib.hid hS1
            have T1 := Lib.hid hT1
            have O7 := Lib.hid hO1
            have G7 := Lib.hid (grown_trans' G6.out hG1)
            have HN1 : Hid (N1.length = n) := by unfold Hid; rw [hS1.len]; exact HRL.out
            have HSHA : Hid (Shuf a b L N1) := HSH.out.trans (hS1.mono (Nat.le_refl _) (by omega) (by rw [HRL.out]; omega))
            clear hS1 hT1 hO1 hG1
            have FN1 : Hid (FinAll N1) := HF.out.shuf (HSHA.out)
            by_cases q1 : mid < e ∧ e < b
            · obtain ⟨q11, q12⟩ := q1
              have q11i : (mid : Int) < (e : Int) := by omega
              have q12i : (e : Int) < (b : Int) := by omega
              have RC : Hid (MergeC base g n c mid e b N1 w7) := HIH.out mid e b N1 w7 (by omega) q11 q12 hb O7.out FN1.out
                (SP.out.s3.congr fun k k1 k2 => H1.out.out (.inr k1)) (SP.out.s4.congr fun k k1 k2 => H1.out.out (.inr (by omega))) (SP.out.t2.congr fun k k1 k2 => H1.out.out (.inr k1))
              unfold MergeC at RC
              go_wp2_with fail
              refine RC.out.mono ?_
              rintro e2 w8 ⟨rfl, N2, hS2, hT2, hO2, hG2⟩
              have FS : Hid (Srt fval N2 a b) := merge_join SP.out H1.out hS2 T1.out hT2 (by omega) (by omega)
              have FH : Hid (Shuf a b L N2) := (HSHA.out).trans (hS2.mono (by omega) (Nat.le_refl _) (by rw [HN1.out]; omega))
              have FO := Lib.hid hO2
              have FG := Lib.hid (grown_trans' G7.out hG2)
              clear hS2 hT2 hO2 hG2
              go_wp2
              go_end0
              exact ⟨rfl, N2, FH.out, FS.out, FO.out, FG.out⟩
            · have T2 : Hid (Srt fval N1 mid b) := by
                have e1 : e = mid ∨ e = b := by omega
                rcases e1 with e1 | e1
                · exact (e1 ▸ SP.out.s4 : Srt fval R mid b).congr fun k k1 k2 => H1.out.out (.inr k1)
                · exact (e1 ▸ SP.out.s3 : Srt fval R mid b).congr fun k k1 k2 => H1.out.out (.inr k1)
              have FS : Hid (Srt fval N1 a b) := merge_join SP.out H1.out .refl T1.out T2.out (by omega) (by omega)
              have FH : Hid (Shuf a b L N1) := HSHA.out
              by_cases q2 : mid < e
              · have q2i : decide (mid < e) = true := by simp; omega
                have q3i : decide (e < b) = false := by simp; omega
                go_wp2
                go_end0
                exact ⟨rfl, N1, FH.out, FS.out, O7.out, G7.out⟩
              · have q2i : decide (mid < e) = false := by simp; omega
                go_wp2
                go_end0
                exact ⟨rfl, N1, FH.out, FS.out, O7.out, G7.out⟩
          · have HRF : Hid (Shuf a mid R R) := .refl
            have T1 : Hid (Srt fval R a mid) := by
              have e1 : s = a ∨ s = mid := by omega
              rcases e1 with e1 | e1
              · exact e1 ▸ SP.out.s2
              · exact e1 ▸ SP.out.s1
            by_cases p2 : a < s
            · have p2i : decide (a < s) = true := by simp; omega
              have p3i : decide (s < mid) = false := by simp; omega
              have FN1 : Hid (FinAll R) := HF.out.shuf (HSH.out)
              by_cases q1 : mid < e ∧ e < b
              · obtain ⟨q11, q12⟩ := q1
                have q11i : (mid : Int) < (e : Int) := by omega
                have q12i : (e : Int) < (b : Int) := by omega
                have RC : Hid (MergeC base g n c mid e b R w6) := HIH.out mid e b R w6 (by omega) q11 q12 hb O6.out FN1.out
                  (SP.out.s3.congr fun k k1 k2 => HRF.out.out (.inr k1)) (SP.out.s4.congr fun k k1 k2 => HRF.out.out (.inr (by omega))) (SP.out.t2.congr fun k k1 k2 => HRF.out.out (.inr k1))
                unfold MergeC at RC
                go_wp2_with fail
                refine RC.out.mono ?_
                rintro e2 w8 ⟨rfl, N2, hS2, hT2, hO2, hG2⟩
                have FS : Hid (Srt fval N2 a b) := merge_join SP.out HRF.out hS2 T1.out hT2 (by omega) (by omega)
                have FH : Hid (Shuf a b L N2) := (HSH.out).trans (hS2.mono (by omega) (Nat.le_refl _) (by rw [HRL.out]; omega))
                have FO := Lib.hid hO2
                have FG := Lib.hid (grown_trans' G6.out hG2)
                clear hS2 hT2 hO2 hG2
                go_wp2
                go_end0
                exact ⟨rfl, N2, FH.out, FS.out, FO.out, FG.out⟩
              · have T2 : Hid (Srt fval R mid b) := by
                  have e1 : e = mid ∨ e = b := by omega
                  rcases e1 with e1 | e1
                  · exact (e1 ▸ SP.out.s4 : Srt fval R mid b).congr fun k k1 k2 => HRF.out.out (.inr k1)
                  · exact (e1 ▸ SP.out.s3 : Srt fval R mid b).congr fun k k1 k2 => HRF.out.out (.inr k1)
                have FS : Hid (Srt fval R a b) := merge_join SP.out HRF.out .refl T1.out T2.out (by omega) (by omega)
                have FH : Hid (Shuf a b L R) := HSH.out
                by_cases q2 : mid < e
                · have q2i : decide (mid < e) = true := by simp; omega
                  have q3i : decide (e < b) = false := by simp; omega
                  go_wp2
                  go_end0
                  exact ⟨rfl, R, FH.out, FS.out, O6.out, G6.out⟩
                · have q2i : decide (mid < e) = false := by simp; omega
                  go_wp2
                  go_end0
                  exact ⟨rfl, R, FH.out, FS.out, O6.out, G6.out⟩
            · have p2i : decide (a < s) = false := by simp; omega
              have FN1 : Hid (FinAll R) := HF.out.shuf (HSH.out)
              by_cases q1 : mid < e ∧ e < b
              · obtain ⟨q11, q12⟩ := q1
                have q11i : (mid : Int) < (e : Int) := by omega
                have q12i : (e : Int) < (b : Int) := by omega
                have RC : Hid (MergeC base g n c mid e b R w6) := HIH.out mid e b R w6 (by omega) q11 q12 hb O6.out FN1.out
                  (SP.out.s3.congr fun k k1 k2 => HRF.out.out (.inr k1)) (SP.out.s4.congr fun k k1 k2 => HRF.out.out (.inr (by omega))) (SP.out.t2.congr fun k k1 k2 => HRF.out.out (.inr k1))
                unfold MergeC at RC
                go_wp2_with fail
                refine RC.out.mono ?_
                rintro e2 w8 ⟨rfl, N2, hS2, hT2, hO2, hG2⟩
                have FS : Hid (Srt fval N2 a b) := merge_join SP.out HRF.out hS2 T1.out hT2 (by omega) (by omega)
                have FH : Hid (Shuf a b L N2) := (HSH.out).trans (hS2.mono (by omega) (Nat.le_refl _) (by rw [HRL.out]; omega))
                have FO := Lib.hid hO2
                have FG := Lib.hid (grown_trans' G6.out hG2)
                clear hS2 hT2 hO2 hG2
                go_wp2
                go_end0
                exact ⟨rfl, N2, FH.out, FS.out, FO.out, FG.out⟩
              · have T2 : Hid (Srt fval R mid b) := by
                  have e1 : e = mid ∨ e = b := by omega
                  rcases e1 with e1 | e1
                  · exact (e1 ▸ SP.out.s4 : Srt fval R mid b).congr fun k k1 k2 => HRF.out.out (.inr k1)
                  · exact (e1 ▸ SP.out.s3 : Srt fval R mid b).congr fun k k1 k2 => HRF.out.out (.inr k1)
                have FS : Hid (Srt fval R a b) := merge_join SP.out HRF.out .refl T1.out T2.out (by omega) (by omega)
                have FH : Hid (Shuf a b L R) := HSH.out
                by_cases q2 : mid < e
                · have q2i : decide (mid < e) = true := by simp; omega
                  have q3i : decide (e < b) = false := by simp; omega
                  go_wp2
                  go_end0
                  exact ⟨rfl, R, FH.out, FS.out, O6.out, G6.out⟩
                · have q2i : decide (mid < e) = false := by simp; omega
                  go_wp2
                  go_end0
                  exact ⟨rfl, R, FH.out, FS.out, O6.out, G6.out⟩
        · have SP : Hid (Split fval L a s mid e b) := merge_split HS1.out HS2.out HT.out (Rotd.no L (by omega) hsm hme) has hsm hme heb hes HLO.out HHI.out
          obtain ⟨R, hRL⟩ : ∃ R, R = L := ⟨_, rfl⟩
          have HSH : Hid (Shuf a b L R) := hRL ▸ .refl
          have FR : Hid (FinAll R) := hRL ▸ HF.out
          have HRL : Hid (R.length = n) := hRL ▸ HL.out
          rw [← hRL] at SP hO
          clear hRL
          by_cases r1 : s < m
          · have r1i : decide (s < m) = true := by simp; omega
            have r2i : decide (m < e) = false := by simp; omega
            by_cases p1 : a < s ∧ s < mid
            · obtain ⟨p11, p12⟩ := p1
              have p11i : (a : Int) < (s : Int) := by omega
              have p12i : (s : Int) < (mid : Int) := by omega
              have RC1 : Hid (MergeC base g n c a s mid R wo) := HIH.out a s mid R wo (by omega) p11 p12 (by omega) hO.out FR.out SP.out.s1 SP.out.s2 SP.out.t1
              unfold MergeC at RC1
              go_wp2_with fail
              refine RC1.out.mono ?_
              rintro e1 w7 ⟨rfl, N1, hS1, hT1, hO1, hG1⟩
              have H1 := Lib.hid hS1
              have T1 := Lib.hid hT1
              have O7 := Lib.hid hO1
              have G7 := Lib.hid (grown_trans' hG.out hG1)
              have HN1 : Hid (N1.length = n) := by unfold Hid; rw [hS1.len]; exact HRL.out
              have HSHA : Hid (Shuf a b L N1) := HSH.out.trans (hS1.mono (Nat.le_refl _) (by omega) (by rw [HRL.out]; omega))
              clear hS1 hT1 hO1 hG1
              have FN1 : Hid (FinAll N1) := HF.out.shuf (HSHA.out)
              by_cases q1 : mid < e ∧ e < b
              · obtain ⟨q11, q12⟩ := q1
                have q11i : (mid : Int) < (e : Int) := by omega
                have q12i : (e : Int) < (b : Int) := by omega
                have RC : Hid (MergeC base g n c mid e b N1 w7) := HIH.out mid e b N1 w7 (by omega) q11 q12 hb O7.out FN1.out
                  (SP.out.s3.congr fun k k1 k2 => H1.out.out (.inr k1)) (SP.out.s4.congr fun k k1 k2 => H1.out.out (.inr (by omega))) (SP.out.t2.congr fun k k1 k2 => H1.out.out (.inr k1))
                unfold MergeC at RC
                go_wp2_with fail
                refine RC.out.mono ?_
                rintro e2 w8 ⟨rfl, N2, hS2, hT2, hO2, hG2⟩
                have FS : Hid (Srt fval N2 a b) := merge_join SP.out H1.out hS2 T1.out hT2 (by omega) (by omega)
                have FH : Hid (Shuf a b L N2) := (HSHA.out).trans (hS2.mono (by omega) (Nat.le_refl _) (by rw [HN1.out]; omega))
                have FO := Lib.hid hO2
                have FG := Lib.hid (grown_trans' G7.out hG2)
                clear hS2 hT2 hO2 hG2
                go_wp2
                go_end0
                exact ⟨rfl, N2, FH.out, FS.out, FO.out, FG.out⟩
              · have T2 : Hid (Srt fval N1 mid b) := by
                  have e1 : e = mid ∨ e = b := by omega
                  rcases e1 with e1 | e1
                  · exact (e1 ▸ SP.out.s4 : Srt fval R mid b).congr fun k k1 k2 => H1.out.out (.inr k1)
                  · exact (e1 ▸ SP.out.s3 : Srt fval R mid b).congr fun k k1 k2 => H1.out.out (.inr k1)
                have FS : Hid (Srt fval N1 a b) := merge_join SP.out H1.out .refl T1.out T2.out (by omega) (by omega)
                have FH : Hid (Shuf a b L N1) := HSHA.out
                by_cases q2 : mid < e
                · have q2i : decide (mid < e) = true := by simp; omega
                  have q3i : decide (e < b) = false := by simp; omega
                  go_wp2
                  go_end0
                  exact ⟨rfl, N1, FH.out, FS.out, O7.out, G7.out⟩
                · have q2i : decide (mid < e) = false := by simp; omega
                  go_wp2
                  go_end0
                  exact ⟨rfl, N1, FH.out, FS.out, O7.out, G7.out⟩
            · have HRF : Hid (Shuf a mid R R) := .refl
              have T1 : Hid (Srt fval R a mid) := by
                have e1 : s = a ∨ s = mid := by omega
                rcases e1 with e1 | e1
                · exact e1 ▸ SP.out.s2
                · exact e1 ▸ SP.out.s1
              by_cases p2 : a < s
              · have p2i : decide (a < s) = true := by simp; omega
                have p3i : decide (s < mid) = false := by simp; omega
                have FN1 : Hid (FinAll R) := HF.out.shuf (HSH.out)
                by_cases q1 : mid < e ∧ e < b
                · obtain ⟨q11, q12⟩ := q1
                  have q11i : (mid : Int) < (e : Int) := by omega
                  have q12i : (e : Int) < (b : Int) := by omega
                  have RC : Hid (MergeC base g n c mid e b R wo) := HIH.out mid e b R wo (by omega) q11 q12 hb hO.out FN1.out
                    (SP.out.s3.congr fun k k1 k2 => HRF.out.out (.inr k1)) (SP.out.s4.congr fun k k1 k2 => HRF.out.out (.inr (by omega))) (SP.out.t2.congr fun k k1 k2 => HRF.out.out (.inr k1))
                  unfold MergeC at RC
                  go_wp2_with fail
                  refine RC.out.mono ?_
                  rintro e2 w8 ⟨rfl, N2, hS2, hT2, hO2, hG2⟩
                  have FS : Hid (Srt fval N2 a b) := merge_join SP.out HRF.out hS2 T1.out hT2 (by omega) (by omega)
                  have FH : Hid (Shuf a b L N2) := (HSH.out).trans (hS2.mono (by omega) (Nat.le_refl _) (by rw [HRL.out]; omega))
                  have FO := Lib.hid hO2
                  have FG := Lib.hid (grown_trans' hG.out hG2)
                  clear hS2 hT2 hO2 hG2
                  go_wp2
                  go_end0
                  exact ⟨rfl, N2, FH.out, FS.out, FO.out, FG.out⟩
                · have T2 : Hid (Srt fval R mid b) := by
                    have e1 : e = mid ∨ e = b := by omega
                    rcases e1 with e1 | e1
                    · exact (e1 ▸ SP.out.s4 : Srt fval R mid b).congr fun k k1 k2 => HRF.out.out (.inr k1)
                    · exact (e1 ▸ SP.out.s3 : Srt fval R mid b).congr fun k k1 k2 => HRF.out.out (.inr k1)
                  have FS : Hid (Srt fval R a b) := merge_join SP.out HRF.out .refl T1.out T2.out (by omega) (by omega)
                  have FH : Hid (Shuf a b L R) := HSH.out
                  by_cases q2 : mid < e
                  · have q2i : decide (mid < e) = true := by simp; omega
                    have q3i : decide (e < b) = false := by simp; omega
                    go_wp2
                    go_end0
                    exact ⟨rfl, R, FH.out, FS.out, hO.out, hG.out⟩
                  · have q2i : decide (mid < e) = false := by simp; omega
                    go_wp2
                    go_end0
                    exact ⟨rfl, R, FH.out, FS.out, hO.out, hG.out⟩
              · have p2i : decide (a < s) = false := by simp; omega
                have FN1 : Hid (FinAll R) := HF.out.shuf (HSH.out)
                by_cases q1 : mid < e ∧ e < b
                · obtain ⟨q11, q12⟩ := q1
                  have q11i : (mid : Int) < (e : Int) := by omega
                  have q12i : (e : Int) < (b : Int) := by omega
                  have RC : Hid (MergeC base g n c mid e b R wo) := HIH.out mid e b R wo (by omega) q11 q12 hb hO.out FN1.out
                    (SP.out.s3.congr fun k k1 k2 => HRF.out.out (.inr k1)) (SP.out.s4.congr fun k k1 k2 => HRF.out.out (.inr (by omega))) (SP.out.t2.congr fun k k1 k2 => HRF.out.out (.inr k1))
                  unfold MergeC at RC
                  go_wp2_with fail
                  refine RC.out.mono ?_
                  rintro e2 w8 ⟨rfl, N2, hS2, hT2, hO2, hG2⟩
                  have FS : Hid (Srt fval N2 a b) := merge_join SP.out HRF.out hS2 T1.out hT2 (by omega) (by omega)
                  have FH : Hid (Shuf a b L N2) := (HSH.out).trans (hS2.mono (by omega) (Nat.le_refl _) (by rw [HRL.out]; omega))
                  have FO := Lib.hid hO2
                  have FG := Lib.hid (grown_trans' hG.out hG2)
                  clear hS2 hT2 hO2 hG2
                  go_wp2
                  go_end0
                  exact ⟨rfl, N2, FH.out, FS.out, FO.out, FG.out⟩
                · have T2 : Hid (Srt fval R mid b) := by
                    have e1 : e = mid ∨ e = b := by omega
                    rcases e1 with e1 | e1
                    · exact (e1 ▸ SP.out.s4 : Srt fval R mid b).congr fun k k1 k2 => HRF.out.out (.inr k1)
                    · exact (e1 ▸ SP.out.s3 : Srt fval R mid b).congr fun k k1 k2 => HRF.out.out (.inr k1)
                  have FS : Hid (Srt fval R a b) := merge_join SP.out HRF.out .refl T1.out T2.out (by omega) (by omega)
                  have FH : Hid (Shuf a b L R) := HSH.out
                  by_cases q2 : mid < e
                  · have q2i : decide (mid < e) = true := by simp; omega
                    have q3i : decide (e < b) = false := by simp; omega
                    go_wp2
                    go_end0
                    exact ⟨rfl, R, FH.out, FS.out, hO.out, hG.out⟩
                  · have q2i : decide (mid < e) = false := by simp; omega
                    go_wp2
                    go_end0
                    exact ⟨rfl, R, FH.out, FS.out, hO.out, hG.out⟩
          · have r1i : decide (s < m) = false := by simp; omega
            by_cases p1 : a < s ∧ s < mid
            · obtain ⟨p11, p12⟩ := p1
              have p11i : (a : Int) < (s : Int) := by omega
              have p12i : (s : Int) < (mid : Int) := by omega
              have RC1 : Hid (MergeC base g n c a s mid R wo) := HIH.out a s mid R wo (by omega) p11 p12 (by omega) hO.out FR.out SP.out.s1 SP.out.s2 SP.out.t1
              unfold MergeC at RC1
              go_wp2_with fail
              refine RC1.out.mono ?_
              rintro e1 w7 ⟨rfl, N1, hS1, hT1, hO1, hG1⟩
              have H1 := Lib.hid hS1
              have T1 := Lib.hid hT1
              have O7 := Lib.hid hO1
              have G7 := Lib.hid (grown_trans' hG.out hG1)
              have HN1 : Hid (N1.length = n) := by unfold Hid; rw [hS1.len]; exact HRL.out
              have HSHA : Hid (Shuf a b L N1) := HSH.out.trans (hS1.mono (Nat.le_refl _) (by omega) (by rw [HRL.out]; omega))
              clear hS1 hT1 hO1 hG1
              have FN1 : Hid (FinAll N1) := HF.out.shuf (HSHA.out)
              by_cases q1 : mid < e ∧ e < b
              · obtain ⟨q11, q12⟩ := q1
                have q11i : (mid : Int) < (e : Int) := by omega
                have q12i : (e : Int) < (b : Int) := by omega
                have RC : Hid (MergeC base g n c mid e b N1 w7) := HIH.out mid e b N1 w7 (by omega) q11 q12 hb O7.out FN1.out
                  (SP.out.s3.congr fun k k1 k2 => H1.out.out (.inr k1)) (SP.out.s4.congr fun k k1 k2 => H1.out.out (.inr (by omega))) (SP.out.t2.congr fun k k1 k2 => H1.out.out (.inr k1))
                unfold MergeC at RC
                go_wp2_with fail
                refine RC.out.mono ?_
                rintro e2 w8 ⟨rfl, N2, hS2, hT2, hO2, hG2⟩
                have FS : Hid (Srt fval N2 a b) := merge_join SP.out H1.out hS2 T1.out hT2 (by omega) (by omega)
                have FH : Hid (Shuf a b L N2) := (HSHA.out).trans (hS2.mono (by omega) (Nat.le_refl _) (by rw [HN1.out]; omega))
                have FO := Lib.hid hO2
                have FG := Lib.hid (grown_trans' G7.out hG2)
                clear hS2 hT2 hO2 hG2
                go_wp2
                go_end0
                exact ⟨rfl, N2, FH.out, FS.out, FO.out, FG.out⟩
              · have T2 : Hid (Srt fval N1 mid b) := by
                  have e1 : e = mid ∨ e = b := by omega
                  rcases e1 with e1 | e1
                  · exact (e1 ▸ SP.out.s4 : Srt fval R mid b).congr fun k k1 k2 => H1.out.out (.inr k1)
                  · exact (e1 ▸ SP.out.s3 : Srt fval R mid b).congr fun k k1 k2 => H1.out.out (.inr k1)
                have FS : Hid (Srt fval N1 a b) := merge_join SP.out H1.out .refl T1.out T2.out (by omega) (by omega)
                have FH : Hid (Shuf a b L N1) := HSHA.out
                by_cases q2 : mid < e
                · have q2i : decide (mid < e) = true := by simp; omega
                  have q3i : decide (e < b) = false := by simp; omega
                  go_wp2
                  go_end0
                  exact ⟨rfl, N1, FH.out, FS.out, O7.out, G7.out⟩
                · have q2i : decide (mid < e) = false := by simp; omega
                  go_wp2
                  go_end0
                  exact ⟨rfl, N1, FH.out, FS.out, O7.out, G7.out⟩
            · have HRF : Hid (Shuf a mid R R) := .refl
              have T1 : Hid (Srt fval R a mid) := by
                have e1 : s = a ∨ s = mid := by omega
                rcases e1 with e1 | e1
                · exact e1 ▸ SP.out.s2
                · exact e1 ▸ SP.out.s1
              by_cases p2 : a < s
              · have p2i : decide (a < s) = true := by simp; omega
                have p3i : decide (s < mid) = false := by simp; omega
                have FN1 : Hid (FinAll R) := HF.out.shuf (HSH.out)
                by_cases q1 : mid < e ∧ e < b
                · obtain ⟨q11, q12⟩ := q1
                  have q11i : (mid : Int) < (e : Int) := by omega
                  have q12i : (e : Int) < (b : Int) := by omega
                  have RC : Hid (MergeC base g n c mid e b R wo) := HIH.out mid e b R wo (by omega) q11 q12 hb hO.out FN1.out
                    (SP.out.s3.congr fun k k1 k2 => HRF.out.out (.inr k1)) (SP.out.s4.congr fun k k1 k2 => HRF.out.out (.inr (by omega))) (SP.out.t2.congr fun k k1 k2 => HRF.out.out (.inr k1))
                  unfold MergeC at RC
                  go_wp2_with fail
                  refine RC.out.mono ?_
                  rintro e2 w8 ⟨rfl, N2, hS2, hT2, hO2, hG2⟩
                  have FS : Hid (Srt fval N2 a b) := merge_join SP.out HRF.out hS2 T1.out hT2 (by omega) (by omega)
                  have FH : Hid (Shuf a b L N2) := (HSH.out).trans (hS2.mono (by omega) (Nat.le_refl _) (by rw [HRL.out]; omega))
                  have FO := Lib.hid hO2
                  have FG := Lib.hid (grown_trans' hG.out hG2)
                  clear hS2 hT2 hO2 hG2
                  go_wp2
                  go_end0
                  exact ⟨rfl, N2, FH.out, FS.out, FO.out, FG.out⟩
                · have T2 : Hid (Srt fval R mid b) := by
                    have e1 : e = mid ∨ e = b := by omega
                    rcases e1 with e1 | e1
                    · exact (e1 ▸ SP.out.s4 : Srt fval R mid b).congr fun k k1 k2 => HRF.out.out (.inr k1)
                    · exact (e1 ▸ SP.out.s3 : Srt fval R mid b).congr fun k k1 k2 => HRF.out.out (.inr k1)
                  have FS : Hid (Srt fval R a b) := merge_join SP.out HRF.out .refl T1.out T2.out (by omega) (by omega)
                  have FH : Hid (Shuf a b L R) := HSH.out
                  by_cases q2 : mid < e
                  · have q2i : decide (mid < e) = true := by simp; omega
                    have q3i : decide (e < b) = false := by simp; omega
                    go_wp2
                    go_end0
                    exact ⟨rfl, R, FH.out, FS.out, hO.out, hG.out⟩
                  · have q2i : decide (mid < e) = false := by simp; omega
                    go_wp2
                    go_end0
                    exact ⟨rfl, R, FH.out, FS.out, hO.out, hG.out⟩
              · have p2i : decide (a < s) = false := by simp; omega
                have FN1 : Hid (FinAll R) := HF.out.shuf (HSH.out)
                by_cases q1 : mid < e ∧ e < b
                · obtain ⟨q11, q12⟩ := q1
                  have q11i : (mid : Int) < (e : Int) := by omega
                  have q12i : (e : Int) < (b : Int) := by omega
                  have RC : Hid (MergeC base g n c mid e b R wo) := HIH.out mid e b R wo (by omega) q11 q12 hb hO.out FN1.out
                    (SP.out.s3.congr fun k k1 k2 => HRF.out.out (.inr k1)) (SP.out.s4.congr fun k k1 k2 => HRF.out.out (.inr (by omega))) (SP.out.t2.congr fun k k1 k2 => HRF.out.out (.inr k1))
                  unfold MergeC at RC
                  go_wp2_with fail
                  refine RC.out.mono ?_
                  rintro e2 w8 ⟨rfl, N2, hS2, hT2, hO2, hG2⟩
                  have FS : Hid (Srt fval N2 a b) := merge_join SP.out HRF.out hS2 T1.out hT2 (by omega) (by omega)
                  have FH : Hid (Shuf a b L N2) := (HSH.out).trans (hS2.mono (by omega) (Nat.le_refl _) (by rw [HRL.out]; omega))
                  have FO := Lib.hid hO2
                  have FG := Lib.hid (grown_trans' hG.out hG2)
                  clear hS2 hT2 hO2 hG2
                  go_wp2
                  go_end0
                  exact ⟨rfl, N2, FH.out, FS.out, FO.out, FG.out⟩
                · have T2 : Hid (Srt fval R mid b) := by
                    have e1 : e = mid ∨ e = b := by omega
                    rcases e1 with e1 | e1
                    · exact (e1 ▸ SP.out.s4 : Srt fval R mid b).congr fun k k1 k2 => HRF.out.out (.inr k1)
                    · exact (e1 ▸ SP.out.s3 : Srt fval R mid b).congr fun k k1 k2 => HRF.out.out (.inr k1)
                  have FS : Hid (Srt fval R a b) := merge_join SP.out HRF.out .refl T1.out T2.out (by omega) (by omega)
                  have FH : Hid (Shuf a b L R) := HSH.out
                  by_cases q2 : mid < e
                  · have q2i : decide (mid < e) = true := by simp; omega
                    have q3i : decide (e < b) = false := by simp; omega
                    go_wp2
                    go_end0
                    exact ⟨rfl, R, FH.out, FS.out, hO.out, hG.out⟩
                  · have q2i : decide (mid < e) = false := by simp; omega
                    go_wp2
                    go_end0
                    exact ⟨rfl, R, FH.out, FS.out, hO.out, hG.out⟩
  · have hsidei : decide (mid < m) = false := by simp; omega
    go_wp2
    go_loopw [20, 21] (fun si sj wr => ∃ (s r : Nat), si = .int .i64 (s : Int) ∧ sj = .int .i64 (r : Int) ∧ a ≤ s ∧ s ≤ r ∧ r ≤ m ∧ Hid (s = a ∨ fval (el L (s - 1)).1 ≤ fval (el L (nn - s)).1) ∧ Hid (r = m ∨ fval (el L (p - r)).1 < fval (el L r).1) ∧ Hid (wr.ownsRow base 50 1 (.slice (some ⟨g, 0, none⟩) n c) n (L.map tv)) ∧ Hid (w.grownBy wr (some g))) (fun si sj _ => (intOf sj).toNat - (intOf si).toNat)
    case atStart => exact ⟨a, m, rfl, rfl, Nat.le_refl _, by omega, Nat.le_refl _, .inl rfl, .inl rfl, HO, grown_of_below (Below.refl _ _) _⟩
    case round =>
      clear HO
      obtain ⟨s, r, rfl, rfl, hs1, hsr, hr1, hlo, hhi, hO, hG⟩ := hrel
      obtain ⟨wo, hwo⟩ : ∃ q, q = wr := ⟨_, rfl⟩
      subst hwo
      by_cases hlt : s < r
      · have hlti : (s : Int) < (r : Int) := by omega
        obtain ⟨h, hh⟩ : ∃ h, (s + r) / 2 = h := ⟨_, rfl⟩
        have zh : ((s : Int) + (r : Int)) / 2 = (h : Int) := by omega
        have hib : s ≤ h := by omega
        have hhj : h < r := by omega
        obtain ⟨t, ht⟩ : ∃ t, p - h = t := ⟨_, rfl⟩
        have zt : (p : Int) - (h : Int) = (t : Int) := by omega
        have hhn : h < n := by omega
        have htn : t < n := by omega
        have hhni : (h : Int) < (n : Int) := by omega
        have htni : (t : Int) < (n : Int) := by omega
        have c1 := own_cellF hO.out htn
        have c2 := own_cellF hO.out hhn
        have CC := Lib.hid (fun w => compareNumbers_any (el L t).1 (el L h).1 (HF.out t) (HF.out h) w)
        obtain ⟨q, hq⟩ : ∃ q, cmpI (el L t).1 (el L h).1 = q := ⟨_, rfl⟩
        have hc : decide (q < 0) = decide (fval (el L t).1 < fval (el L h).1) := by rw [← hq]; exact cmpI_neg
        rw [hq] at CC
        clear hq hh
        by_cases hless : fval (el L t).1 < fval (el L h).1
        · rw [decide_eq_true hless] at hc
          have hhi' : Hid (h = m ∨ fval (el L (p - h)).1 < fval (el L h).1) := .inr (by rw [ht]; exact hless)
          clear hless hhi ht
          go_wp2
          go_quiet ((go_at_call 43; exact Calls.quiet_of_same (CC.out _)))
          go_wp2
          generalize hw : World.drewN wo _ = w1
          have WO : Hid (w1.ownsRow base 50 1 (.slice (some ⟨g, 0, none⟩) n c) n (L.map tv)) := by rw [← hw]; exact hO.out
          have WG : Hid (w.grownBy w1 (some g)) := by rw [← hw]; exact ⟨hG.out.os, hG.out.tape, hG.out.output, hG.out.size, hG.out.block⟩
          clear c1 c2 hO hG hw CC
          go_roundw
          case rel => exact ⟨s, h, rfl, rfl, hs1, by omega, by omega, hlo, hhi', WO, WG⟩
          case measure => simp [intOf]; omega
        · rw [decide_eq_false hless] at hc
          have hlo' : Hid (h + 1 = a ∨ fval (el L (h + 1 - 1)).1 ≤ fval (el L (nn - (h + 1))).1) := .inr (by rw [Nat.add_sub_cancel, show nn - (h + 1) = t by omega]; omega)
          clear hless hlo ht
          go_wp2
          go_quiet ((go_at_call 43; exact Calls.quiet_of_same (CC.out _)))
          go_wp2
          generalize hw : World.drewN wo _ = w1
          have WO : Hid (w1.ownsRow base 50 1 (.slice (some ⟨g, 0, none⟩) n c) n (L.map tv)) := by rw [← hw]; exact hO.out
          have WG : Hid (w.grownBy w1 (some g)) := by rw [← hw]; exact ⟨hG.out.os, hG.out.tape, hG.out.output, hG.out.size, hG.out.block⟩
          clear c1 c2 hO hG hw CC
          go_roundw
          case rel => exact ⟨h + 1, r, by go_num, rfl, by omega, by omega, hr1, hlo', hhi, WO, WG⟩
          case measure => simp [intOf]; omega
      · obtain rfl : s = r := by omega
        obtain ⟨e, he⟩ : ∃ e, nn - s = e := ⟨_, rfl⟩
        have ze : (nn : Int) - (s : Int) = (e : Int) := by omega
        have hes : e + s = mid + m := by omega
        have hsm : s ≤ m := by omega
        have hme : m ≤ e := by omega
        have heb : e ≤ b := by omega
        have hsmid : s ≤ mid := by omega
        have has : a ≤ s := by omega
        have HLO : Hid (s = a ∨ e = b ∨ fval (el L (s - 1)).1 ≤ fval (el L e).1) := by
          rcases hlo.out with h | h
          · have : s = a ∨ e = b := by omega
            rcases this with h1 | h1
            · exact .inl h1
            · exact .inr (.inl h1)
          · right; right; rw [← he]; omega
        have HHI : Hid (s = m ∨ e = m ∨ fval (el L (e - 1)).1 < fval (el L s).1) := by
          rcases hhi.out with h | h
          · have : s = m ∨ e = m := by omega
            rcases this with h1 | h1
            · exact .inl h1
            · exact .inr (.inl h1)
          · right; right; rw [← he, show nn - s - 1 = p - s by omega]; exact h
        clear hlo hhi
        by_cases hrot : s < m ∧ m < e
        · obtain ⟨r1, r2⟩ := hrot
          have r1i : (s : Int) < (m : Int) := by omega
          have r2i : (m : Int) < (e : Int) := by omega
          have RTC := Lib.hid (rotate_any base g n c s m e (.func (.func 43) #[] #[]) L wo hn hO.out r1 r2 (by omega))
          go_wp2_with fail
          refine RTC.out.mono ?_
          rintro e0 w6 ⟨rfl, R, hS0, hR0, hO0, hG0⟩
          have SP : Hid (Split fval R a s mid e b) := merge_split HS1.out HS2.out HT.out hR0 has hsm hme heb hes HLO.out HHI.out
          have HSH : Hid (Shuf a b L R) := hS0.mono has heb (by rw [HL.out]; omega)
          have FR : Hid (FinAll R) := HF.out.shuf hS0
          have HRL : Hid (R.length = n) := by unfold Hid; rw [hS0.len]; exact HL.out
          have O6 := Lib.hid hO0
          have G6 := Lib.hid (grown_trans' hG.out hG0)
          clear hS0 hR0 hO0 hG0 hO hG
          by_cases p1 : a < s ∧ s < mid
          · obtain ⟨p11, p12⟩ := p1
            have p11i : (a : Int) < (s : Int) := by omega
            have p12i : (s : Int) < (mid : Int) := by omega
            have RC1 : Hid (MergeC base g n c a s mid R w6) := HIH.out a s mid R w6 (by omega) p11 p12 (by omega) O6.out FR.out SP.out.s1 SP.out.s2 SP.out.t1
            unfold MergeC at RC1
            go_wp2_with fail
            refine RC1.out.mono ?_
            rintro e1 w7 ⟨rfl, N1, hS1, hT1, hO1, hG1⟩
            have H1 := Lib.hid hS1
            have T1 := Lib.hid hT1
            have O7 := Lib.hid hO1
            have G7 := Lib.hid (grown_trans' G6.out hG1)
            have HN1 : Hid (N1.length = n) := by unfold Hid; rw [hS1.len]; exact HRL.out
            have HSHA : Hid (Shuf a b L N1) := HSH.out.trans (hS1.mono (Nat.le_refl _) (by omega) (by rw [HRL.out]; omega))
            clear hS1 hT1 hO1 hG1
            have FN1 : Hid (FinAll N1) := HF.out.shuf (HSHA.out)
            by_cases q1 : mid < e ∧ e < b
            · obtain ⟨q11, q12⟩ := q1
              have q11i : (mid : Int) < (e : Int) := by omega
              have q12i : (e : Int) < (b : Int) := by omega
              have RC : Hid (MergeC base g n c mid e b N1 w7) := HIH.out mid e b N1 w7 (by omega) q11 q12 hb O7.out FN1.out
                (SP.out.s3.congr fun k k1 k2 => H1.out.out (.inr k1)) (SP.out.s4.congr fun k k1 k2 => H1.out.out (.inr (by omega))) (SP.out.t2.congr fun k k1 k2 => H1.out.out (.inr k1))
              unfold MergeC at RC
              go_wp2_with fail
              refine RC.out.mono ?_
              rintro e2 w8 ⟨rfl, N2, hS2, hT2, hO2, hG2⟩
              have FS : Hid (Srt fval N2 a b) := merge_join SP.out H1.out hS2 T1.out hT2 (by omega) (by omega)
              have FH : Hid (Shuf a b L N2) := (HSHA.out).trans (hS2.mono (by omega) (Nat.le_refl _) (by rw [HN1.out]; omega))
              have FO := Lib.hid hO2
              have FG := Lib.hid (grown_trans' G7.out hG2)
              clear hS2 hT2 hO2 hG2
              go_wp2
              go_end0
              exact ⟨rfl, N2, FH.out, FS.out, FO.out, FG.out⟩
            · have T2 : Hid (Srt fval N1 mid b) := by
                have e1 : e = mid ∨ e = b := by omega
                rcases e1 with e1 | e1
                · exact (e1 ▸ SP.out.s4 : Srt fval R mid b).congr fun k k1 k2 => H1.out.out (.inr k1)
                · exact (e1 ▸ SP.out.s3 : Srt fval R mid b).congr fun k k1 k2 => H1.out.out (.inr k1)
              have FS : Hid (Srt fval N1 a b) := merge_join SP.out H1.out .refl T1.out T2.out (by omega) (by omega)
              have FH : Hid (Shuf a b L N1) := HSHA.out
              by_cases q2 : mid < e
              · have q2i : decide (mid < e) = true := by simp; omega
                have q3i : decide (e < b) = false := by simp; omega
                go_wp2
                go_end0
                exact ⟨rfl, N1, FH.out, FS.out, O7.out, G7.out⟩
              · have q2i : decide (mid < e) = false := by simp; omega
                go_wp2
                go_end0
                exact ⟨rfl, N1, FH.out, FS.out, O7.out, G7.out⟩
          · have HRF : Hid (Shuf a mid R R) := .refl
            have T1 : Hid (Srt fval R a mid) := by
              have e1 : s = a ∨ s = mid := by omega
              rcases e1 with e1 | e1
              · exact e1 ▸ SP.out.s2
              · exact e1 ▸ SP.out.s1
            by_cases p2 : a < s
            · have p2i : decide (a < s) = true := by simp; omega
              have p3i : decide (s < mid) = false := by simp; omega
              have FN1 : Hid (FinAll R) := HF.out.shuf (HSH.out)
              by_cases q1 : mid < e ∧ e < b
              · obtain ⟨q11, q12⟩ := q1
                have q11i : (mid : Int) < (e : Int) := by omega
                have q12i : (e : Int) < (b : Int) := by omega
                have RC : Hid (MergeC base g n c mid e b R w6) := HIH.out mid e b R w6 (by omega) q11 q12 hb O6.out FN1.out
                  (SP.out.s3.congr fun k k1 k2 => HRF.out.out (.inr k1)) (SP.out.s4.congr fun k k1 k2 => HRF.out.out (.inr (by omega))) (SP.out.t2.congr fun k k1 k2 => HRF.out.out (.inr k1))
                unfold MergeC at RC
                go_wp2_with fail
                refine RC.out.mono ?_
                rintro e2 w8 ⟨rfl, N2, hS2, hT2, hO2, hG2⟩
                have FS : Hid (Srt fval N2 a b) := merge_join SP.out HRF.out hS2 T1.out hT2 (by omega) (by omega)
                have FH : Hid (Shuf a b L N2) := (HSH.out).trans (hS2.mono (by omega) (Nat.le_refl _) (by rw [HRL.out]; omega))
                have FO := Lib.hid hO2
                have FG := Lib.hid (grown_trans' G6.out hG2)
                clear hS2 hT2 hO2 hG2
                go_wp2
                go_end0
                exact ⟨rfl, N2, FH.out, FS.out, FO.out, FG.out⟩
              · have T2 : Hid (Srt fval R mid b) := by
                  have e1 : e = mid ∨ e = b := by omega
                  rcases e1 with e1 | e1
                  · exact (e1 ▸ SP.out.s4 : Srt fval R mid b).congr fun k k1 k2 => HRF.out.out (.inr k1)
                  · exact (e1 ▸ SP.out.s3 : Srt fval R mid b).congr fun k k1 k2 => HRF.out.out (.inr k1)
                have FS : Hid (Srt fval R a b) := merge_join SP.out HRF.out .refl T1.out T2.out (by omega) (by omega)
                have FH : Hid (Shuf a b L R) := HSH.out
                by_cases q2 : mid < e
                · have q2i : decide (mid < e) = true := by simp; omega
                  have q3i : decide (e < b) = false := by simp; omega
                  go_wp2
                  go_end0
                  exact ⟨rfl, R, FH.out, FS.out, O6.out, G6.out⟩
                · have q2i : decide (mid < e) = false := by simp; omega
                  go_wp2
                  go_end0
                  exact ⟨rfl, R, FH.out, FS.out, O6.out, G6.out⟩
            · have p2i : decide (a < s) = false := by simp; omega
              have FN1 : Hid (FinAll R) := HF.out.shuf (HSH.out)
              by_cases q1 : mid < e ∧ e < b
              · obtain ⟨q11, q12⟩ := q1
                have q11i : (mid : Int) < (e : Int) := by omega
                have q12i : (e : Int) < (b : Int) := by omega
                have RC : Hid (MergeC base g n c mid e b R w6) := HIH.out mid e b R w6 (by omega) q11 q12 hb O6.out FN1.out
                  (SP.out.s3.congr fun k k1 k2 => HRF.out.out (.inr k1)) (SP.out.s4.congr fun k k1 k2 => HRF.out.out (.inr (by omega))) (SP.out.t2.congr fun k k1 k2 => HRF.out.out (.inr k1))
                unfold MergeC at RC
                go_wp2_with fail
                refine RC.out.mono ?_
                rintro e2 w8 ⟨rfl, N2, hS2, hT2, hO2, hG2⟩
                have FS : Hid (Srt fval N2 a b) := merge_join SP.out HRF.out hS2 T1.out hT2 (by omega) (by omega)
                have FH : Hid (Shuf a b L N2) := (HSH.out).trans (hS2.mono (by omega) (Nat.le_refl _) (by rw [HRL.out]; omega))
                have FO := Lib.hid hO2
                have FG := Lib.hid (grown_trans' G6.out hG2)
                clear hS2 hT2 hO2 hG2
                go_wp2
                go_end0
                exact ⟨rfl, N2, FH.out, FS.out, FO.out, FG.out⟩
              · have T2 : Hid (Srt fval R mid b) := by
                  have e1 : e = mid ∨ e = b := by omega
                  rcases e1 with e1 | e1
                  · exact (e1 ▸ SP.out.s4 : Srt fval R mid b).congr fun k k1 k2 => HRF.out.out (.inr k1)
                  · exact (e1 ▸ SP.out.s3 : Srt fval R mid b).congr fun k k1 k2 => HRF.out.out (.inr k1)
                have FS : Hid (Srt fval R a b) := merge_join SP.out HRF.out .refl T1.out T2.out (by omega) (by omega)
                have FH : Hid (Shuf a b L R) := HSH.out
                by_cases q2 : mid < e
                · have q2i : decide (mid < e) = true := by simp; omega
                  have q3i : decide (e < b) = false := by simp; omega
                  go_wp2
                  go_end0
                  exact ⟨rfl, R, FH.out, FS.out, O6.out, G6.out⟩
                · have q2i : decide (mid < e) = false := by simp; omega
                  go_wp2
                  go_end0
                  exact ⟨rfl, R, FH.out, FS.out, O6.out, G6.out⟩
        · have SP : Hid (Split fval L a s mid e b) := merge_split HS1.out HS2.out HT.out (Rotd.no L (by omega) hsm hme) has hsm hme heb hes HLO.out HHI.out
          obtain ⟨R, hRL⟩ : ∃ R, R = L := ⟨_, rfl⟩
          have HSH : Hid (Shuf a b L R) := hRL ▸ .refl
          have FR : Hid (FinAll R) := hRL ▸ HF.out
          have HRL : Hid (R.length = n) := hRL ▸ HL.out
          rw [← hRL] at SP hO
          clear hRL
          by_cases r1 : s < m
          · have r1i : decide (s < m) = true := by simp; omega
            have r2i : decide (m < e) = false := by simp; omega
            by_cases p1 : a < s ∧ s < mid
            · obtain ⟨p11, p12⟩ := p1
              have p11i : (a : Int) < (s : Int) := by omega
              have p12i : (s : Int) < (mid : Int) := by omega
              have RC1 : Hid (MergeC base g n c a s mid R wo) := HIH.out a s mid R wo (by omega) p11 p12 (by omega) hO.out FR.out SP.out.s1 SP.out.s2 SP.out.t1
              unfold MergeC at RC1
              go_wp2_with fail
              refine RC1.out.mono ?_
              rintro e1 w7 ⟨rfl, N1, hS1, hT1, hO1, hG1⟩
              have H1 := Lib.hid hS1
              have T1 := Lib.hid hT1
              have O7 := Lib.hid hO1
              have G7 := Lib.hid (grown_trans' hG.out hG1)
              have HN1 : Hid (N1.length = n) := by unfold Hid; rw [hS1.len]; exact HRL.out
              have HSHA : Hid (Shuf a b L N1) := HSH.out.trans (hS1.mono (Nat.le_refl _) (by omega) (by rw [HRL.out]; omega))
              clear hS1 hT1 hO1 hG1
              have FN1 : Hid (FinAll N1) := HF.out.shuf (HSHA.out)
              by_cases q1 : mid < e ∧ e < b
              · obtain ⟨q11, q12⟩ := q1
                have q11i : (mid : Int) < (e : Int) := by omega
                have q12i : (e : Int) < (b : Int) := by omega
                have RC : Hid (MergeC base g n c mid e b N1 w7) := HIH.out mid e b N1 w7 (by omega) q11 q12 hb O7.out FN1.out
                  (SP.out.s3.congr fun k k1 k2 => H1.out.out (.inr k1)) (SP.out.s4.congr fun k k1 k2 => H1.out.out (.inr (by omega))) (SP.out.t2.congr fun k k1 k2 => H1.out.out (.inr k1))
                unfold MergeC at RC
                go_wp2_with fail
                refine RC.out.mono ?_
                rintro e2 w8 ⟨rfl, N2, hS2, hT2, hO2, hG2⟩
                have FS : Hid (Srt fval N2 a b) := merge_join SP.out H1.out hS2 T1.out hT2 (by omega) (by omega)
                have FH : Hid (Shuf a b L N2) := (HSHA.out).trans (hS2.mono (by omega) (Nat.le_refl _) (by rw [HN1.out]; omega))
                have FO := Lib.hid hO2
                have FG := Lib.hid (grown_trans' G7.out hG2)
                clear hS2 hT2 hO2 hG2
                go_wp2
                go_end0
                exact ⟨rfl, N2, FH.out, FS.out, FO.out, FG.out⟩
              · have T2 : Hid (Srt fval N1 mid b) := by
                  have e1 : e = mid ∨ e = b := by omega
                  rcases e1 with e1 | e1
                  · exact (e1 ▸ SP.out.s4 : Srt fval R mid b).congr fun k k1 k2 => H1.out.out (.inr k1)
                  · exact (e1 ▸ SP.out.s3 : Srt fval R mid b).congr fun k k1 k2 => H1.out.out (.inr k1)
                have FS : Hid (Srt fval N1 a b) := merge_join SP.out H1.out .refl T1.out T2.out (by omega) (by omega)
                have FH : Hid (Shuf a b L N1) := HSHA.out
                by_cases q2 : mid < e
                · have q2i : decide (mid < e) = true := by simp; omega
                  have q3i : decide (e < b) = false := by simp; omega
                  go_wp2
                  go_end0
                  exact ⟨rfl, N1, FH.out, FS.out, O7.out, G7.out⟩
                · have q2i : decide (mid < e) = false := by simp; omega
                  go_wp2
                  go_end0
                  exact ⟨rfl, N1, FH.out, FS.out, O7.out, G7.out⟩
            · have HRF : Hid (Shuf a mid R R) := .refl
              have T1 : Hid (Srt fval R a mid) := by
                have e1 : s = a ∨ s = mid := by omega
                rcases e1 with e1 | e1
                · exact e1 ▸ SP.out.s2
                · exact e1 ▸ SP.out.s1
              by_cases p2 : a < s
              · have p2i : decide (a < s) = true := by simp; omega
                have p3i : decide (s < mid) = false := by simp; omega
                have FN1 : Hid (FinAll R) := HF.out.shuf (HSH.out)
                by_cases q1 : mid < e ∧ e < b
                · obtain ⟨q11, q12⟩ := q1
                  have q11i : (mid : Int) < (e : Int) := by omega
                  have q12i : (e : Int) < (b : Int) := by omega
                  have RC : Hid (MergeC base g n c mid e b R wo) := HIH.out mid e b R wo (by omega) q11 q12 hb hO.out FN1.out
                    (SP.out.s3.congr fun k k1 k2 => HRF.out.out (.inr k1)) (SP.out.s4.congr fun k k1 k2 => HRF.out.out (.inr (by omega))) (SP.out.t2.congr fun k k1 k2 => HRF.out.out (.inr k1))
                  unfold MergeC at RC
                  go_wp2_with fail
                  refine RC.out.mono ?_
                  rintro e2 w8 ⟨rfl, N2, hS2, hT2, hO2, hG2⟩
                  have FS : Hid (Srt fval N2 a b) := merge_join SP.out HRF.out hS2 T1.out hT2 (by omega) (by omega)
                  have FH : Hid (Shuf a b L N2) := (HSH.out).trans (hS2.mono (by omega) (Nat.le_refl _) (by rw [HRL.out]; omega))
                  have FO := Lib.hid hO2
                  have FG := Lib.hid (grown_trans' hG.out hG2)
                  clear hS2 hT2 hO2 hG2
                  go_wp2
                  go_end0
                  exact ⟨rfl, N2, FH.out, FS.out, FO.out, FG.out⟩
                · have T2 : Hid (Srt fval R mid b) := by
                    have e1 : e = mid ∨ e = b := by omega
                    rcases e1 with e1 | e1
                    · exact (e1 ▸ SP.out.s4 : Srt fval R mid b).congr fun k k1 k2 => HRF.out.out (.inr k1)
                    · exact (e1 ▸ SP.out.s3 : Srt fval R mid b).congr fun k k1 k2 => HRF.out.out (.inr k1)
                  have FS : Hid (Srt fval R a b) := merge_join SP.out HRF.out .refl T1.out T2.out (by omega) (by omega)
                  have FH : Hid (Shuf a b L R) := HSH.out
                  by_cases q2 : mid < e
                  · have q2i : decide (mid < e) = true := by simp; omega
                    have q3i : decide (e < b) = false := by simp; omega
                    go_wp2
                    go_end0
                    exact ⟨rfl, R, FH.out, FS.out, hO.out, hG.out⟩
                  · have q2i : decide (mid < e) = false := by simp; omega
                    go_wp2
                    go_end0
                    exact ⟨rfl, R, FH.out, FS.out, hO.out, hG.out⟩
              · have p2i : decide (a < s) = false := by simp; omega
                have FN1 : Hid (FinAll R) := HF.out.shuf (HSH.out)
                by_cases q1 : mid < e ∧ e < b
                · obtain ⟨q11, q12⟩ := q1
                  have q11i : (mid : Int) < (e : Int) := by omega
                  have q12i : (e : Int) < (b : Int) := by omega
                  have RC : Hid (MergeC base g n c mid e b R wo) := HIH.out mid e b R wo (by omega) q11 q12 hb hO.out FN1.out
                    (SP.out.s3.congr fun k k1 k2 => HRF.out.out (.inr k1)) (SP.out.s4.congr fun k k1 k2 => HRF.out.out (.inr (by omega))) (SP.out.t2.congr fun k k1 k2 => HRF.out.out (.inr k1))
                  unfold MergeC at RC
                  go_wp2_with fail
                  refine RC.out.mono ?_
                  rintro e2 w8 ⟨rfl, N2, hS2, hT2, hO2, hG2⟩
                  have FS : Hid (Srt fval N2 a b) := merge_join SP.out HRF.out hS2 T1.out hT2 (by omega) (by omega)
                  have FH : Hid (Shuf a b L N2) := (HSH.out).trans (hS2.mono (by omega) (Nat.le_refl _) (by rw [HRL.out]; omega))
                  have FO := Lib.hid hO2
                  have FG := Lib.hid (grown_trans' hG.out hG2)
                  clear hS2 hT2 hO2 hG2
                  go_wp2
                  go_end0
                  exact ⟨rfl, N2, FH.out, FS.out, FO.out, FG.out⟩
                · have T2 : Hid (Srt fval R mid b) := by
                    have e1 : e = mid ∨ e = b := by omega
                    rcases e1 with e1 | e1
                    · exact (e1 ▸ SP.out.s4 : Srt fval R mid b).congr fun k k1 k2 => HRF.out.out (.inr k1)
                    · exact (e1 ▸ SP.out.s3 : Srt fval R mid b).congr fun k k1 k2 => HRF.out.out (.inr k1)
                  have FS : Hid (Srt fval R a b) := merge_join SP.out HRF.out .refl T1.out T2.out (by omega) (by omega)
                  have FH : Hid (Shuf a b L R) := HSH.out
                  by_cases q2 : mid < e
                  · have q2i : decide (mid < e) = true := by simp; omega
                    have q3i : decide (e < b) = false := by simp; omega
                    go_wp2
                    go_end0
                    exact ⟨rfl, R, FH.out, FS.out, hO.out, hG.out⟩
                  · have q2i : decide (mid < e) = false := by simp; omega
                    go_wp2
                    go_end0
                    exact ⟨rfl, R, FH.out, FS.out, hO.out, hG.out⟩
          · have r1i : decide (s < m) = false := by simp; omega
            by_cases p1 : a < s ∧ s < mid
            · obtain ⟨p11, p12⟩ := p1
              have p11i : (a : Int) < (s : Int) := by omega
              have p12i : (s : Int) < (mid : Int) := by omega
              have RC1 : Hid (MergeC base g n c a s mid R wo) := HIH.out a s mid R wo (by omega) p11 p12 (by omega) hO.out FR.out SP.out.s1 SP.out.s2 SP.out.t1
              unfold MergeC at RC1
              go_wp2_with fail
              refine RC1.out.mono ?_
              rintro e1 w7 ⟨rfl, N1, hS1, hT1, hO1, hG1⟩
              have H1 := Lib.hid hS1
              have T1 := Lib.hid hT1
              have O7 := Lib.hid hO1
              have G7 := Lib.hid (grown_trans' hG.out hG1)
              have HN1 : Hid (N1.length = n) := by unfold Hid; rw [hS1.len]; exact HRL.out
              have HSHA : Hid (Shuf a b L N1) := HSH.out.trans (hS1.mono (Nat.le_refl _) (by omega) (by rw [HRL.out]; omega))
              clear hS1 hT1 hO1 hG1
              have FN1 : Hid (FinAll N1) := HF.out.shuf (HSHA.out)
              by_cases q1 : mid < e ∧ e < b
              · obtain ⟨q11, q12⟩ := q1
                have q11i : (mid : Int) < (e : Int) := by omega
                have q12i : (e : Int) < (b : Int) := by omega
                have RC : Hid (MergeC base g n c mid e b N1 w7) := HIH.out mid e b N1 w7 (by omega) q11 q12 hb O7.out FN1.out
                  (SP.out.s3.congr fun k k1 k2 => H1.out.out (.inr k1)) (SP.out.s4.congr fun k k1 k2 => H1.out.out (.inr (by omega))) (SP.out.t2.congr fun k k1 k2 => H1.out.out (.inr k1))
                unfold MergeC at RC
                go_wp2_with fail
                refine RC.out.mono ?_
                rintro e2 w8 ⟨rfl, N2, hS2, hT2, hO2, hG2⟩
                have FS : Hid (Srt fval N2 a b) := merge_join SP.out H1.out hS2 T1.out hT2 (by omega) (by omega)
                have FH : Hid (Shuf a b L N2) := (HSHA.out).trans (hS2.mono (by omega) (Nat.le_refl _) (by rw [HN1.out]; omega))
                have FO := Lib.hid hO2
                have FG := Lib.hid (grown_trans' G7.out hG2)
                clear hS2 hT2 hO2 hG2
                go_wp2
                go_end0
                exact ⟨rfl, N2, FH.out, FS.out, FO.out, FG.out⟩
              · have T2 : Hid (Srt fval N1 mid b) := by
                  have e1 : e = mid ∨ e = b := by omega
                  rcases e1 with e1 | e1
                  · exact (e1 ▸ SP.out.s4 : Srt fval R mid b).congr fun k k1 k2 => H1.out.out (.inr k1)
                  · exact (e1 ▸ SP.out.s3 : Srt fval R mid b).congr fun k k1 k2 => H1.out.out (.inr k1)
                have FS : Hid (Srt fval N1 a b) := merge_join SP.out H1.out .refl T1.out T2.out (by omega) (by omega)
                have FH : Hid (Shuf a b L N1) := HSHA.out
                by_cases q2 : mid < e
                · have q2i : decide (mid < e) = true := by simp; omega
                  have q3i : decide (e < b) = false := by simp; omega
                  go_wp2
                  go_end0
                  exact ⟨rfl, N1, FH.out, FS.out, O7.out, G7.out⟩
                · have q2i : decide (mid < e) = false := by simp; omega
                  go_wp2
                  go_end0
                  exact ⟨rfl, N1, FH.out, FS.out, O7.out, G7.out⟩
            · have HRF : Hid (Shuf a mid R R) := .refl
              have T1 : Hid (Srt fval R a mid) := by
                have e1 : s = a ∨ s = mid := by omega
                rcases e1 with e1 | e1
                · exact e1 ▸ SP.out.s2
                · exact e1 ▸ SP.out.s1
              by_cases p2 : a < s
              · have p2i : decide (a < s) = true := by simp; omega
                have p3i : decide (s < mid) = false := by simp; omega
                have FN1 : Hid (FinAll R) := HF.out.shuf (HSH.out)
                by_cases q1 : mid < e ∧ e < b
                · obtain ⟨q11, q12⟩ := q1
                  have q11i : (mid : Int) < (e : Int) := by omega
                  have q12i : (e : Int) < (b : Int) := by omega
                  have RC : Hid (MergeC base g n c mid e b R wo) := HIH.out mid e b R wo (by omega) q11 q12 hb hO.out FN1.out
                    (SP.out.s3.congr fun k k1 k2 => HRF.out.out (.inr k1)) (SP.out.s4.congr fun k k1 k2 => HRF.out.out (.inr (by omega))) (SP.out.t2.congr fun k k1 k2 => HRF.out.out (.inr k1))
                  unfold MergeC at RC
                  go_wp2_with fail
                  refine RC.out.mono ?_
                  rintro e2 w8 ⟨rfl, N2, hS2, hT2, hO2, hG2⟩
                  have FS : Hid (Srt fval N2 a b) := merge_join SP.out HRF.out hS2 T1.out hT2 (by omega) (by omega)
                  have FH : Hid (Shuf a b L N2) := (HSH.out).trans (hS2.mono (by omega) (Nat.le_refl _) (by rw [HRL.out]; omega))
                  have FO := Lib.hid hO2
                  have FG := Lib.hid (grown_trans' hG.out hG2)
                  clear hS2 hT2 hO2 hG2
                  go_wp2
                  go_end0
                  exact ⟨rfl, N2, FH.out, FS.out, FO.out, FG.out⟩
                · have T2 : Hid (Srt fval R mid b) := by
                    have e1 : e = mid ∨ e = b := by omega
                    rcases e1 with e1 | e1
                    · exact (e1 ▸ SP.out.s4 : Srt fval R mid b).congr fun k k1 k2 => HRF.out.out (.inr k1)
                    · exact (e1 ▸ SP.out.s3 : Srt fval R mid b).congr fun k k1 k2 => HRF.out.out (.inr k1)
                  have FS : Hid (Srt fval R a b) := merge_join SP.out HRF.out .refl T1.out T2.out (by omega) (by omega)
                  have FH : Hid (Shuf a b L R) := HSH.out
                  by_cases q2 : mid < e
                  · have q2i : decide (mid < e) = true := by simp; omega
                    have q3i : decide (e < b) = false := by simp; omega
                    go_wp2
                    go_end0
                    exact ⟨rfl, R, FH.out, FS.out, hO.out, hG.out⟩
                  · have q2i : decide (mid < e) = false := by simp; omega
                    go_wp2
                    go_end0
                    exact ⟨rfl, R, FH.out, FS.out, hO.out, hG.out⟩
              · have p2i : decide (a < s) = false := by simp; omega
                have FN1 : Hid (FinAll R) := HF.out.shuf (HSH.out)
                by_cases q1 : mid < e ∧ e < b
                · obtain ⟨q11, q12⟩ := q1
                  have q11i : (mid : Int) < (e : Int) := by omega
                  have q12i : (e : Int) < (b : Int) := by omega
                  have RC : Hid (MergeC base g n c mid e b R wo) := HIH.out mid e b R wo (by omega) q11 q12 hb hO.out FN1.out
                    (SP.out.s3.congr fun k k1 k2 => HRF.out.out (.inr k1)) (SP.out.s4.congr fun k k1 k2 => HRF.out.out (.inr (by omega))) (SP.out.t2.congr fun k k1 k2 => HRF.out.out (.inr k1))
                  unfold MergeC at RC
                  go_wp2_with fail
                  refine RC.out.mono ?_
                  rintro e2 w8 ⟨rfl, N2, hS2, hT2, hO2, hG2⟩
                  have FS : Hid (Srt fval N2 a b) := merge_join SP.out HRF.out hS2 T1.out hT2 (by omega) (by omega)
                  have FH : Hid (Shuf a b L N2) := (HSH.out).trans (hS2.mono (by omega) (Nat.le_refl _) (by rw [HRL.out]; omega))
                  have FO := Lib.hid hO2
                  have FG := Lib.hid (grown_trans' hG.out hG2)
                  clear hS2 hT2 hO2 hG2
                  go_wp2
                  go_end0
                  exact ⟨rfl, N2, FH.out, FS.out, FO.out, FG.out⟩
                · have T2 : Hid (Srt fval R mid b) := by
                    have e1 : e = mid ∨ e = b := by omega
                    rcases e1 with e1 | e1
                    · exact (e1 ▸ SP.out.s4 : Srt fval R mid b).congr fun k k1 k2 => HRF.out.out (.inr k1)
                    · exact (e1 ▸ SP.out.s3 : Srt fval R mid b).congr fun k k1 k2 => HRF.out.out (.inr k1)
                  have FS : Hid (Srt fval R a b) := merge_join SP.out HRF.out .refl T1.out T2.out (by omega) (by omega)
                  have FH : Hid (Shuf a b L R) := HSH.out
                  by_cases q2 : mid < e
                  · have q2i : decide (mid < e) = true := by simp; omega
                    have q3i : decide (e < b) = false := by simp; omega
                    go_wp2
                    go_end0
                    exact ⟨rfl, R, FH.out, FS.out, hO.out, hG.out⟩
                  · have q2i : decide (mid < e) = false := by simp; omega
                    go_wp2
                    go_end0
                    exact ⟨rfl, R, FH.out, FS.out, hO.out, hG.out⟩
end Go.Proofs.Ytbkacmklgkgamaa
