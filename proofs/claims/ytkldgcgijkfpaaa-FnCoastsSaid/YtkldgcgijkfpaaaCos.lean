/- Walk: the law on coasts. Conditions: rows of bytes. -/
import Derived.Test.YtkldgcgijkfpaaaCot
import Derived.Test.YtkldgcgijkfpaaaHk
import Derived.Test.YtkldgcgijkfpaaaLc
import Derived.StillTailTactics
import Derived.Deep.CutRange
import Derived.BigQuiet
import Derived.Deep.QuietTactic
import Derived.Deep.RegionHeld3
namespace Go.Proofs.Ytkldgcgijkfpaaa
open Go.RowKit
open Num Quick
attribute [local go_sem] run_store_fl run_store_cx

set_option maxRecDepth 100000 in
theorem lawCo_long (A1 A2 : Option Addr) (n1 c1 n2 c2 : Nat) (w : World) (hn1 : n1 ≤ maxLen) (hn2 : n2 ≤ maxLen) (hbig : ¬ (n1 ≤ 48 ∧ n2 ≤ 48)) :
    Calls Try.prog 4 #[.slice A1 n1 c1, .slice A2 n2 c2] w fun e w' => e = .returned (.bool true) ∧ Below w.heap.size w w' := by
  have LC := r8Long_any A1 A2 n1 c1 n2 c2 w hn1 hn2
  rw [show (decide (48 < n1) || decide (48 < n2)) = true by simp; omega] at LC
  have LCH := Lib.hid LC
  clear LC
  go_enter Try.func4, Try.ntmps4
  go_wp2_with fail
  refine LCH.out.mono ?_
  rintro e w1 ⟨rfl, rfl⟩
  go_wp2
  go_ret
  exact ⟨rfl, Below.refl _ _⟩
theorem held_cx {fs : List Fact} {w : World} (h : Held fs w) (i : Nat) {B g n : Nat} {f : Nat → Nat × Nat} (hi : fs[i]? = some (.rd B 1 (some ⟨g, 0, none⟩) n ((List.range n).map (fun i => cxv (f i))))) {k : Nat} (hk : k < n) : w.cell? ⟨g, k, none⟩ = some (.complex .f32 (f k).1 (f k).2) := by
  obtain ⟨b, off, e, _, hc⟩ := (h.rd i hi).2 (by omega)
  injection e with e
  injection e with e1 e2
  subst e1 e2
  have := hc k _ (range_map_get (fun i => cxv (f i)) hk)
  simpa [cxv] using this
theorem c025 : Fl .f32 1048576000 ∧ InR (Num.fv .f32 1048576000) (1 / 2) := by
  refine ⟨fl_of _ (by decide +kernel), ?_⟩
  unfold InR Num.fv val rv p2
  decide +kernel
theorem c0000 : Fl .f32 0 ∧ InR (Num.fv .f32 0) (1 / 2) := by
  refine ⟨zero_fin.1, ?_⟩
  rw [zero_fin.2]
  unfold InR
  decide +kernel
theorem own_capN {w : World} {base g n c : Nat} {e : TypeId} {xs : List Value} (h : w.ownsRow base e 1 (.slice (some ⟨g, 0, none⟩) n c) n xs) : n ≤ c := by
  rcases h.2 with ⟨h', _⟩ | ⟨g', cap, cur, hv, hb, hh, hn, hx, hs, ht⟩
  · simp at h'
  · simp only [Value.slice.injEq, Option.some.injEq, Addr.mk.injEq] at hv
    omega
set_option maxRecDepth 100000 in
set_option maxHeartbeats 100000000 in
theorem lawCo_any (A1 A2 : Option Addr) (n1 c1 n2 c2 : Nat) (bs bs2 : List Nat) (w : World) (hn1 : n1 ≤ 48) (hn2 : n2 ≤ 48) (hc1 : n1 ≤ c1) (hc2 : n2 ≤ c2) (hbs : ∀ x ∈ bs, x < 256) (hbs2 : ∀ x ∈ bs2, x < 256) (hA : Rd w w.heap.size 1 A1 n1 (bs.map u8v)) (hA2 : Rd w w.heap.size 1 A2 n2 (bs2.map u8v)) :
    Calls Try.prog 4 #[.slice A1 n1 c1, .slice A2 n2 c2] w fun e w' => e = .returned (.bool true) ∧ Below w.heap.size w w' := by
  have LC := r8Long_any A1 A2 n1 c1 n2 c2 w (by unfold maxLen; omega) (by unfold maxLen; omega)
  rw [show (decide (48 < n1) || decide (48 < n2)) = false by simp; omega] at LC
  have LCH := Lib.hid LC
  have hl2 : bs2.length = n2 := by have := hA2.len; simpa using this
  obtain ⟨nd, hnd, K1⟩ := r8At_val A2 n2 c2 40 6 bs2 hl2 (by omega) (by omega) (by omega) (by omega) hbs2
  obtain ⟨sd, hsd, K2⟩ := r8At_val A2 n2 c2 0 256 bs2 hl2 (by omega) (by omega) (by omega) (by omega) hbs2
  obtain ⟨rd, hrd, K3⟩ := r8At_val A2 n2 c2 1 9 bs2 hl2 (by omega) (by omega) (by omega) (by omega) hbs2
  have KN := Lib.hid K1
  have KS := Lib.hid K2
  have KR := Lib.hid K3
  obtain ⟨n, hn⟩ : ∃ n, 2 + nd = n := ⟨_, rfl⟩
  have hnI : (2 : Int) + (nd : Int) = (n : Int) := by omega
  have hlo : 2 ≤ n := by omega
  have hhi : n ≤ 7 := by omega
  have RP := Lib.hid (fun w' (hb : Below w.heap.size w w') => R8Points_ok n n1 c1 A1 bs w' (by omega) (by omega) hc1 hbs ((hA.below hb).more hb.size))
  have AL2 := Lib.hid hA2
  clear LC hA hbs hA2 hbs2 hl2 K1 K2 K3 hn
  go_enter Try.func4, Try.ntmps4
  go_wp2_with fail
  refine LCH.out.mono ?_
  rintro e w0 ⟨rfl, hw0⟩
  obtain rfl := hw0.symm
  clear LCH
  go_wp2_with fail
  refine (KN.out w.heap.size w AL2.out).mono ?_
  rintro e w1 ⟨rfl, hw1⟩
  obtain rfl := hw1.symm
  clear KN
  go_wp2_with fail
  refine (RP.out _ (Below.refl _ _)).mono ?_
  rintro e w1 ⟨P, g6, c6, hE, rfl, ho6, hb1⟩
  have S1 : Hid (Held [.rd w1.heap.size 1 (some ⟨g6, 0, none⟩) n ((List.range n).map (fun i => cxv (P i))), .low w] w1) := Lib.hid (((Held.nil _).put (f := .low w) ⟨hb1.size, hb1⟩).put (Held.of_own ho6))
  have HA2 := Lib.hid (AL2.out.below (S1.out.low 1 rfl).2)
  have hc6 := own_capN ho6
  have HE := Lib.hid hE
  have HF : Hid (∀ i, i < n → Cb ((2 : Nat) : Rat) (P i)) := Lib.hid fun i hi => (hE i hi).cb
  obtain ⟨B1, eB1⟩ : ∃ B, w1.heap.size = B := ⟨_, rfl⟩
  rw [eB1] at S1
  have HE0 : Hid (∀ i, i < n → Ew (P i)) := HE
  clear hb1 ho6 hE RP eB1
  go_wp2_with fail
  refine (KS.out w.heap.size w1 HA2.out).mono ?_
  rintro e w2 ⟨rfl, hw2⟩
  obtain rfl := hw2.symm
  clear KS
  obtain ⟨s, hs⟩ : ∃ s, sd * 7919 + 11 = s := ⟨_, rfl⟩
  obtain ⟨s0, hs0⟩ : ∃ s, sd * 7919 = s := ⟨_, rfl⟩
  have hs0I : (sd : Int) * 7919 = (s0 : Int) := by omega
  have hsI : (s0 : Int) + 11 = (s : Int) := by omega
  have hsl : s ≤ 2147483647 := by omega
  have hs0l : s0 ≤ 2147483647 := by omega
  clear hs hs0
  have BC := Lib.hid (fun w' (T : Held _ w') => BreakCoast_ok P 1048576000 2 s n c6 (some ⟨g6, 0, none⟩) w' (by omega) (by omega) (by omega) HF.out c025.1 c025.2 hsl (T.rd (fs := [.rd B1 1 (some ⟨g6, 0, none⟩) n ((List.range n).map (fun i => cxv (P i))), .low w]) 0 rfl))
  go_wp2_with fail
  refine (BC.out _ S1.out).mono ?_
  rintro e w2 ⟨Q1, g8, q1, c8, rfl, hq1, hb8, ho8, hbl⟩
  have S2 : Hid (Held [.rd w2.heap.size 1 (some ⟨g8, 0, none⟩) q1 ((List.range q1).map (fun i => cxv (Q1 i))), .rd B1 1 (some ⟨g6, 0, none⟩) n ((List.range n).map (fun i => cxv (P i))), .low w] w2) := Lib.hid ((S1.out.below hbl).put (Held.of_own ho8))
  have HB8 := Lib.hid hb8
  have hq1I : (2 : Int) * (n : Int) - 1 = (q1 : Int) := by omega
  have HQ1 := Lib.hid hq1
  have hc8 := own_capN ho8
  obtain ⟨B2, eB2⟩ : ∃ B, w2.heap.size = B := ⟨_, rfl⟩
  rw [eB2] at S2
  obtain ⟨x1, ex1⟩ : ∃ x, sds s (n - 1) = x := ⟨_, rfl⟩
  rw [ex1]
  clear hbl ho8 BC S1 HA2 eB2 hb8 hq1
  have BD := Lib.hid (fun w' (T : Held _ w') => BreakCoast_ok P 0 2 s n c6 (some ⟨g6, 0, none⟩) w' (by omega) (by omega) (by omega) HF.out c0000.1 c0000.2 hsl (T.rd (fs := [.rd B2 1 (some ⟨g8, 0, none⟩) q1 ((List.range q1).map (fun i => cxv (Q1 i))), .rd B1 1 (some ⟨g6, 0, none⟩) n ((List.range n).map (fun i => cxv (P i))), .low w]) 1 rfl))
  rw [ex1] at BD
  clear ex1
  go_wp2_with fail
  refine (BD.out _ S2.out).mono ?_
  rintro e w3 ⟨Q2, g11, q2, c11, rfl, hq2, hb11, ho11, hbl⟩
  obtain rfl : q2 = q1 := by have := HQ1.out; omega
  have S3 : Hid (Held [.rd w3.heap.size 1 (some ⟨g11, 0, none⟩) q2 ((List.range q2).map (fun i => cxv (Q2 i))), .rd B2 1 (some ⟨g8, 0, none⟩) q2 ((List.range q2).map (fun i => cxv (Q1 i))), .rd B1 1 (some ⟨g6, 0, none⟩) n ((List.range n).map (fun i => cxv (P i))), .low w] w3) := Lib.hid ((S2.out.below hbl).put (Held.of_own ho11))
  have HB11 := Lib.hid hb11
  have hc11 := own_capN ho11
  obtain ⟨B3, eB3⟩ : ∃ B, w3.heap.size = B := ⟨_, rfl⟩
  rw [eB3] at S3
  clear hbl ho11 BD S2 eB3 hb11 hq2
  have HE := HE0
  obtain ⟨m, hm⟩ : ∃ m, n - 1 = m := ⟨_, rfl⟩
  have hmI : (n : Int) - 1 = (m : Int) := by omega
  have hwm : IntKind.i64.wrap ((n : Int) - 1) = (m : Int) := by rw [hmI]; exact IntWalk.i64_in _ (by omega)
  have hmn : m < n := by omega
  have hmnI : (m : Int) < (n : Int) := by omega
  have h0nI : (0 : Int) < (n : Int) := by omega
  have h0n : 0 < n := by omega
  have hm0 : (0 : Int) ≤ (m : Int) := by omega
  have C1 := Lib.hid (fun w' => CoastBetween_ok (P 0) (P m) 1048576000 s 1 w' (by omega) (HF.out 0 h0n) (HF.out m hmn) c025.1 c025.2 hsl)
  have C4 := Lib.hid (fun w' => CoastBetween_ok (P 0) (P m) 1048576000 s 4 w' (by omega) (HF.out 0 h0n) (HF.out m hmn) c025.1 c025.2 hsl)
  rw [show csz 1 = 3 from rfl, show ((1 : Nat) : Int) = 1 from rfl] at C1
  rw [show csz 4 = 17 from rfl, show ((4 : Nat) : Int) = 4 from rfl, show cbs 4 = 32 from rfl] at C4
  have HM := Lib.hid hm
  clear hm hmI
  obtain ⟨p0, ep0⟩ : ∃ p, P 0 = p := ⟨_, rfl⟩
  obtain ⟨pm, epm⟩ : ∃ p, P m = p := ⟨_, rfl⟩
  rw [ep0, epm] at C1 C4
  obtain ⟨p01, p02⟩ := p0
  obtain ⟨pm1, pm2⟩ := pm
  have EP0 := Lib.hid ep0
  have EPM := Lib.hid epm
  clear ep0 epm
  have SP : Hid (∀ w', Below w3.heap.size w3 w' → w'.cell? ⟨g6, 0, none⟩ = some (.complex .f32 p01 p02) ∧ w'.cell? ⟨g6, m, none⟩ = some (.complex .f32 pm1 pm2) ∧ Below w3.heap.size w3 w') := Lib.hid fun w' hb => by
    have T := S3.out.below hb
    have a := held_cx T 2 rfl h0n
    have b := held_cx T 2 rfl hmn
    rw [EP0.out] at a
    rw [EPM.out] at b
    exact ⟨a, b, hb⟩
  go_upto_region 8 with fail
  go_cut [14, 15, 16] from 75 to 88 (fun sa sb sc wx => ∃ (g c : Nat), sa = .slice (some ⟨g, 0, none⟩) 3 c ∧ sb = .int .i64 (nsd s : Nat) ∧ sc = .bool true ∧ Hid (Below w3.heap.size w3 wx))
  case first =>
    as_aux_lemma =>
      obtain ⟨z0, z1, _⟩ := SP.out _ (Below.refl _ w3)
      go_region_held3 (fun w' => w'.cell? ⟨g6, 0, none⟩ = some (.complex .f32 p01 p02) ∧ w'.cell? ⟨g6, m, none⟩ = some (.complex .f32 pm1 pm2) ∧ Below w3.heap.size w3 w')
        (first
          | exact SP.out _ (Below.refl _ _).drew
          | exact SP.out _ H6.out
          | go_keep)
        (first
          | (go_at_call 22; refine (C1.out _).mono ?_; rintro e w8 ⟨Q, g, q, c', s', rfl, rfl, _, _, hs', _, _, hb6⟩
             obtain rfl := hs' (by first | rfl | trivial)
             have H6 : Hid (Below w3.heap.size w3 w8) := Lib.hid ((Below.refl w3.heap.size w3).drew.trans (hb6.mono (Nat.le_refl _)))
             clear hb6))
      all_goals
        go_wp2
        go_meet
        exact ⟨_, _, rfl, rfl, rfl, H6⟩
  case rest =>
    obtain ⟨g14, c14, rfl, rfl, rfl, hbc⟩ := hcut
    generalize wc = w4 at *
    have S4 := Lib.hid (S3.out.below hbc.out)
    clear hbc SP C1 S3
    have SP : Hid (∀ w', Below w4.heap.size w4 w' → w'.cell? ⟨g6, 0, none⟩ = some (.complex .f32 p01 p02) ∧ w'.cell? ⟨g6, m, none⟩ = some (.complex .f32 pm1 pm2) ∧ Below w4.heap.size w4 w') := Lib.hid fun w' hb => by
      have T := S4.out.below hb
      have a := held_cx T 2 rfl h0n
      have b := held_cx T 2 rfl hmn
      rw [EP0.out] at a
      rw [EPM.out] at b
      exact ⟨a, b, hb⟩
    go_upto_region 9 with fail
    go_cut [17, 18, 19] from 89 to 102 (fun sa sb sc wx => ∃ (g c B : Nat) (s' : Nat) (W : Nat → Nat × Nat), sa = .slice (some ⟨g, 0, none⟩) 17 c ∧ 17 ≤ c ∧ sb = .int .i64 (s' : Nat) ∧ sc = .bool true ∧ Hid (∀ j, j < 17 → Cb ((32 : Nat) : Rat) (W j)) ∧ Hid (Held [.rd B 1 (some ⟨g, 0, none⟩) 17 ((List.range 17).map (fun i => cxv (W i))), .rd B3 1 (some ⟨g11, 0, none⟩) q2 ((List.range q2).map (fun i => cxv (Q2 i))), .rd B2 1 (some ⟨g8, 0, none⟩) q2 ((List.range q2).map (fun i => cxv (Q1 i))), .rd B1 1 (some ⟨g6, 0, none⟩) n ((List.range n).map (fun i => cxv (P i))), .low w] wx))
    case first =>
      as_aux_lemma =>
        obtain ⟨z0, z1, _⟩ := SP.out _ (Below.refl _ w4)
        go_region_held3 (fun w' => w'.cell? ⟨g6, 0, none⟩ = some (.complex .f32 p01 p02) ∧ w'.cell? ⟨g6, m, none⟩ = some (.complex .f32 pm1 pm2) ∧ Below w4.heap.size w4 w')
          (first
            | exact SP.out _ (Below.refl _ _).drew
            | exact SP.out _ H6.out
            | go_keep)
          (first
            | (go_at_call 22; refine (C4.out _).mono ?_; rintro e w8 ⟨Q, g, q, c', s', rfl, rfl, _, _, _, hcq, hoq, hb6⟩
               have H6 : Hid (Below w4.heap.size w4 w8) := Lib.hid ((Below.refl w4.heap.size w4).drew.trans (hb6.mono (Nat.le_refl _)))
               have HO := Lib.hid hoq
               have HCQ := Lib.hid hcq
               clear hb6 hoq hcq))
        all_goals
          go_wp2
          go_meet
          exact ⟨_, _, _, _, Q, rfl, own_capN HO.out, rfl, rfl, HCQ, Lib.hid ((S4.out.below H6.out).put (Held.of_own HO.out))⟩
    case rest =>
      obtain ⟨g17, c17, B17, s17, W, rfl, hc17, rfl, rfl, hW, S5⟩ := hcut
      generalize wc = w5 at *
      clear SP C4 S4
      have S5 : Hid (Held [.rd B17 1 (some ⟨g17, 0, none⟩) 17 ((List.range 17).map (fun i => cxv (W i))), .rd B3 1 (some ⟨g11, 0, none⟩) q2 ((List.range q2).map (fun i => cxv (Q2 i))), .rd B2 1 (some ⟨g8, 0, none⟩) q2 ((List.range q2).map (fun i => cxv (Q1 i))), .rd B1 1 (some ⟨g6, 0, none⟩) n ((List.range n).map (fun i => cxv (P i))), .low w] w5) := S5
      have B0 := Lib.hid (BreakCoast_ok P 1048576000 2 s 1 c6 (some ⟨g6, 0, none⟩) w5 (by omega) (by omega) (by omega) (fun i hi => HF.out i (by omega)) c025.1 c025.2 hsl (rd_sub (S5.out.rd 3 rfl) 0 1 (by omega) (by omega)))
      have h1c6 : (1 : Int) ≤ (c6 : Int) := by omega
      go_wp2_with fail
      refine B0.out.mono ?_
      rintro e w6 ⟨-, g20, q20, c20, rfl, rfl, -, -, hb6⟩
      have S6 := Lib.hid (S5.out.below hb6)
      have hns : (((nsd s : Nat) : Int) == (s : Int)) = false := by have := nsd_ne s; simp; omega
      obtain ⟨ns, ens⟩ : ∃ x, nsd s = x := ⟨_, rfl⟩
      rw [ens] at hns ⊢
      obtain ⟨s0', es0⟩ : ∃ x, sds s (1 - 1) = x := ⟨_, rfl⟩
      rw [es0]
      clear hb6 S5 B0 ens h1c6 es0
      have hq2l : q2 ≤ 13 := by have := HQ1.out; omega
      go_wp2
      go_loopw [23] (fun sk wr => ∃ k : Nat, sk = .int .i64 (k : Int) ∧ k ≤ n ∧ Hid (Held [.rd B17 1 (some ⟨g17, 0, none⟩) 17 ((List.range 17).map (fun i => cxv (W i))), .rd B3 1 (some ⟨g11, 0, none⟩) q2 ((List.range q2).map (fun i => cxv (Q2 i))), .rd B2 1 (some ⟨g8, 0, none⟩) q2 ((List.range q2).map (fun i => cxv (Q1 i))), .rd B1 1 (some ⟨g6, 0, none⟩) n ((List.range n).map (fun i => cxv (P i))), .low w] wr)) (fun sk _ => n - (intOf sk).toNat)
      case atStart => exact ⟨0, rfl, Nat.zero_le _, S6⟩
      case round =>
        obtain ⟨k, rfl, hkn, S7⟩ := hrel
        clear S6
        by_cases hlt : k < n
        · as_aux_lemma =>
            have hkI : (k : Int) < (n : Int) := by omega
            have hk0 : (0 : Int) ≤ (k : Int) := by omega
            obtain ⟨kk, hkk⟩ : ∃ kk, 2 * k = kk := ⟨_, rfl⟩
            have hkkq : kk < q2 := by have := HQ1.out; omega
            have hwk : IntKind.i64.wrap (2 * (k : Int)) = (kk : Int) := by rw [show 2 * (k : Int) = (kk : Int) by omega]; exact IntWalk.i64_in _ (by omega)
            have hkkI : (kk : Int) < (q2 : Int) := by omega
            have hkk0 : (0 : Int) ≤ (kk : Int) := by omega
            have cA := held_cx S7.out 2 rfl hkkq
            have cB := held_cx S7.out 1 rfl hkkq
            have cC := held_cx S7.out 3 rfl hlt
            have eA := HB8.out.even k hlt
            have eB := HB11.out.even k hlt
            rw [hkk] at eA eB
            rw [eA] at cA
            rw [eB] at cB
            have SK := Lib.hid (fun w => same_self (HF.out k hlt).1 (HF.out k hlt).2.1 w)
            obtain ⟨pk, epk⟩ : ∃ p, P k = p := ⟨_, rfl⟩
            rw [epk] at cA cB cC SK
            obtain ⟨pk1, pk2⟩ := pk
            simp only at cA cB cC SK
            clear eA eB hkk epk
            go_wp2
            go_quiet (first | (go_at_call 12; with_reducible exact Calls.quiet_of_same (SK.out _)))
            generalize hw : World.drewN wr _ = w8
            have S8 : Hid (Held _ w8) := Lib.hid (S7.out.below (by rw [← hw]; exact ⟨rfl, rfl, rfl, Nat.le_refl _, fun _ _ => rfl⟩))
            clear hw cA cB cC hwk S7 SK
            go_wp2
            go_roundw
            case rel => exact ⟨k + 1, by go_num, by omega, S8⟩
            case measure => simp [intOf]; omega
        · have hkI : ¬ (k : Int) < (n : Int) := by omega
          have LP := Lib.hid (fun w' (T : Held _ w') => LongOfLine_ok (f := P) (n := n) (B := 2) (some ⟨g6, 0, none⟩) c6 w' (by omega) (by omega) (by omega) (by omega) HF.out (T.rd (fs := [.rd B17 1 (some ⟨g17, 0, none⟩) 17 ((List.range 17).map (fun i => cxv (W i))), .rd B3 1 (some ⟨g11, 0, none⟩) q2 ((List.range q2).map (fun i => cxv (Q2 i))), .rd B2 1 (some ⟨g8, 0, none⟩) q2 ((List.range q2).map (fun i => cxv (Q1 i))), .rd B1 1 (some ⟨g6, 0, none⟩) n ((List.range n).map (fun i => cxv (P i))), .low w]) 3 rfl))
          have LS := Lib.hid (fun w' (T : Held _ w') => LongOfLine_ok (f := Q2) (n := q2) (B := 4) (some ⟨g11, 0, none⟩) c11 w' (by omega) (by omega) (by omega) (by omega) (fun i hi => HB11.out.cb i (by have := HQ1.out; omega)) (T.rd (fs := [.rd B17 1 (some ⟨g17, 0, none⟩) 17 ((List.range 17).map (fun i => cxv (W i))), .rd B3 1 (some ⟨g11, 0, none⟩) q2 ((List.range q2).map (fun i => cxv (Q2 i))), .rd B2 1 (some ⟨g8, 0, none⟩) q2 ((List.range q2).map (fun i => cxv (Q1 i))), .rd B1 1 (some ⟨g6, 0, none⟩) n ((List.range n).map (fun i => cxv (P i))), .low w]) 1 rfl))
          have LR := Lib.hid (fun w' (T : Held _ w') => LongOfLine_ok (f := Q1) (n := q2) (B := 4) (some ⟨g8, 0, none⟩) c8 w' (by omega) (by omega) (by omega) (by omega) (fun i hi => HB8.out.cb i (by have := HQ1.out; omega)) (T.rd (fs := [.rd B17 1 (some ⟨g17, 0, none⟩) 17 ((List.range 17).map (fun i => cxv (W i))), .rd B3 1 (some ⟨g11, 0, none⟩) q2 ((List.range q2).map (fun i => cxv (Q2 i))), .rd B2 1 (some ⟨g8, 0, none⟩) q2 ((List.range q2).map (fun i => cxv (Q1 i))), .rd B1 1 (some ⟨g6, 0, none⟩) n ((List.range n).map (fun i => cxv (P i))), .low w]) 2 rfl))
          have HQB := Lib.hid (fun i (hi : i < q2) => (show Cb ((4 : Nat) : Rat) (Q2 i) from HB11.out.cb i (by have := HQ1.out; omega)))
          obtain ⟨X, Y, Z, o, t, g, d, x1, y1, z1, GP, o1, t1, k1, d1, k2⟩ := lens_ok hlo hhi HQ1.out HB8.out HB11.out HE.out c0000.1 zero_fin.2
          obtain ⟨lb, elb⟩ : ∃ x, lsum P n = x := ⟨_, rfl⟩
          obtain ⟨ls, els⟩ : ∃ x, lsum Q2 q2 = x := ⟨_, rfl⟩
          obtain ⟨lr, elr⟩ : ∃ x, lsum Q1 q2 = x := ⟨_, rfl⟩
          rw [elb] at LP x1
          rw [els] at LS y1
          rw [elr] at LR z1
          have ELB := Lib.hid elb
          have f1 := rWide x1
          have f2 := rWide y1
          have f3 := rWide z1
          have f4 := r64 o1
          have f5 := r64 t1
          have f6 := r64 d1
          have GP := Lib.hid GP
          clear HB8 HB11 elb els elr x1 y1 z1 o1 t1 d1
          go_wp2_with fail
          refine (LP.out _ S7.out).mono ?_
          rintro e w8 ⟨rfl, hb8⟩
          have S8 := Lib.hid (S7.out.below hb8)
          clear hb8 S7 LP
          go_wp2_with fail
          refine (LS.out _ S8.out).mono ?_
          rintro e w9 ⟨rfl, hb9⟩
          have S9 := Lib.hid (S8.out.below hb9)
          clear hb9 S8 LS
          go_wp2_with fail
          refine (LR.out _ S9.out).mono ?_
          rintro e w10 ⟨rfl, hb10⟩
          have S10 := Lib.hid (S9.out.below hb10)
          clear hb10 S9 LR
          go_wp2_with fail
          refine (GP.out _).mono ?_
          rintro e w11 ⟨rfl, hw11⟩
          obtain rfl := hw11.symm
          clear GP
          have RD := Lib.hid (AL2.out.below (S10.out.low 4 rfl).2)
          obtain ⟨near, n1, n2⟩ := gn_quo (rd : Int) 3 _ c8s.1 c8s.2 (by omega) (by omega)
          have r1 := rInt32 (rd : Int)
          have r2 := r32 n1
          clear n1
          go_wp2_with fail
          refine (KR.out w.heap.size w10 RD.out).mono ?_
          rintro e w11 ⟨rfl, hw11⟩
          obtain rfl := hw11.symm
          have C1 := Lib.hid (fun w' (T : Held _ w') => SimpleCoast_ok near n2.fin (near_ge n2) 17 W g17 0 c17 w' (by omega) (by omega) hc17 hW.out (T.rd (fs := [.rd B17 1 (some ⟨g17, 0, none⟩) 17 ((List.range 17).map (fun i => cxv (W i))), .rd B3 1 (some ⟨g11, 0, none⟩) q2 ((List.range q2).map (fun i => cxv (Q2 i))), .rd B2 1 (some ⟨g8, 0, none⟩) q2 ((List.range q2).map (fun i => cxv (Q1 i))), .rd B1 1 (some ⟨g6, 0, none⟩) n ((List.range n).map (fun i => cxv (P i))), .low w]) 0 rfl))
          have C2 := Lib.hid (fun w' (T : Held _ w') => SimpleCoast_ok 981668463 milli_ok.1 milli_ok.2 q2 Q2 g11 0 c11 w' (by have := HQ1.out; omega) (by omega) hc11 (fun i hi => (HQB.out i hi).mono (Rat.natCast_le_natCast.2 (by omega))) (T.rd (fs := [.rd B17 1 (some ⟨g17, 0, none⟩) 17 ((List.range 17).map (fun i => cxv (W i))), .rd B3 1 (some ⟨g11, 0, none⟩) q2 ((List.range q2).map (fun i => cxv (Q2 i))), .rd B2 1 (some ⟨g8, 0, none⟩) q2 ((List.range q2).map (fun i => cxv (Q1 i))), .rd B1 1 (some ⟨g6, 0, none⟩) n ((List.range n).map (fun i => cxv (P i))), .low w]) 1 rfl))
          have C3 := Lib.hid (fun w' (T : Held _ w') => SimpleCoast_ok 1148846080 kilo_ok.1 kilo_ok.2.1 17 W g17 0 c17 w' (by omega) (by omega) hc17 hW.out (T.rd (fs := [.rd B17 1 (some ⟨g17, 0, none⟩) 17 ((List.range 17).map (fun i => cxv (W i))), .rd B3 1 (some ⟨g11, 0, none⟩) q2 ((List.range q2).map (fun i => cxv (Q2 i))), .rd B2 1 (some ⟨g8, 0, none⟩) q2 ((List.range q2).map (fun i => cxv (Q1 i))), .rd B1 1 (some ⟨g6, 0, none⟩) n ((List.range n).map (fun i => cxv (P i))), .low w]) 0 rfl))
          clear f1 f2 f3 f4 f5 f6 k1 k2 n2 RD KR AL2
          go_wp2_with fail
          refine (C1.out _ S10.out).mono ?_
          rintro e w11 ⟨J, g31, q, c31, rfl, hq, hR, hK, -, hb11⟩
          have S11 := Lib.hid (S10.out.below hb11)
          obtain ⟨ix, Sn, K, hmap⟩ := hK.kpt (by omega) W
          have hqle := hK.len2 (by omega)
          rw [hmap, ← hq] at hR
          rw [← hq] at K hqle
          have hq2 : 2 ≤ q := by omega
          have KH := Lib.hid K
          obtain ⟨B31, eB31⟩ : ∃ B, w11.heap.size = B := ⟨_, rfl⟩
          have S11' : Hid (Held (.rd B31 1 (some ⟨g31, 0, none⟩) q ((List.range q).map (fun i => cxv (W (ix i)))) :: [.rd B17 1 (some ⟨g17, 0, none⟩) 17 ((List.range 17).map (fun i => cxv (W i))), .rd B3 1 (some ⟨g11, 0, none⟩) q2 ((List.range q2).map (fun i => cxv (Q2 i))), .rd B2 1 (some ⟨g8, 0, none⟩) q2 ((List.range q2).map (fun i => cxv (Q1 i))), .rd B1 1 (some ⟨g6, 0, none⟩) n ((List.range n).map (fun i => cxv (P i))), .low w]) w11) := Lib.hid (by rw [← eB31]; exact S11.out.put (Held.of_rd hR))
          clear hb11 S10 C1 hR hK hmap hq K eB31 S11
          go_wp2_with fail
          refine (C2.out _ (fun f hf => S11'.out f (List.mem_cons_of_mem _ hf))).mono ?_
          rintro e w12 ⟨J2, g33, q33, c33, rfl, hq33, -, hK, -, hb12⟩
          have S12 := Lib.hid (S11'.out.below hb12)
          have hq33 : q33 ≤ q2 := by rw [hq33]; exact hK.len2 (by have := HQ1.out; omega)
          clear hb12 S11' C2 hK
          go_wp2_with fail
          refine (C3.out _ (fun f hf => S12.out f (List.mem_cons_of_mem _ hf))).mono ?_
          rintro e w13 ⟨J3, g35, q35, c35, rfl, hq35, -, -, hJ3, hb13⟩
          obtain rfl := hJ3 kilo_ok.2.2
          obtain rfl : q35 = 2 := hq35
          have S13 : Hid (Held [.rd B31 1 (some ⟨g31, 0, none⟩) q ((List.range q).map (fun i => cxv (W (ix i)))), .rd B17 1 (some ⟨g17, 0, none⟩) 17 ((List.range 17).map (fun i => cxv (W i))), .rd B1 1 (some ⟨g6, 0, none⟩) n ((List.range n).map (fun i => cxv (P i))), .low w] w13) := Lib.hid (fun f hf => (S12.out.below hb13) f (by
            simp only [List.mem_cons, List.not_mem_nil, or_false] at hf ⊢
            rcases hf with h | h | h | h <;> simp [h]))
          clear hb13 S12 C3 hJ3
          have SS := Lib.hid (fun k (hk : k < 17) w => same_self (hW.out k hk).1 (hW.out k hk).2.1 w)
          have hq0 : 0 < q := by omega
          obtain ⟨ql, hql⟩ : ∃ ql, q - 1 = ql := ⟨_, rfl⟩
          have hwq : IntKind.i64.wrap ((q : Int) - 1) = (ql : Int) := by rw [show (q : Int) - 1 = (ql : Int) by omega]; exact IntWalk.i64_in _ (by omega)
          have hqlq : ql < q := by omega
          have hqlI : (ql : Int) < (q : Int) := by omega
          have hql0 : (0 : Int) ≤ (ql : Int) := by omega
          have hq0I : (0 : Int) < (q : Int) := by omega
          have cA := held_cx (f := fun i => W (ix i)) S13.out 0 rfl hq0
          have cB := held_cx (f := fun i => W (ix i)) S13.out 0 rfl hqlq
          have cC := held_cx S13.out 1 rfl (show 0 < 17 by omega)
          have cD := held_cx S13.out 1 rfl (show 16 < 17 by omega)
          try simp only at cA cB
          rw [KH.out.first] at cA
          have hlast := KH.out.last
          rw [hql] at hlast
          rw [hlast] at cB
          clear hql hlast
          go_wp2
          go_quiet (first | (go_at_call 12; with_reducible exact Calls.quiet_of_same (SS.out _ (by decide) _)))
          generalize hw : World.drewN w13 _ = w14
          have S14 : Hid (Held _ w14) := Lib.hid (S13.out.below (by rw [← hw]; exact ⟨rfl, rfl, rfl, Nat.le_refl _, fun _ _ => rfl⟩))
          clear hw cA cB cC cD hwq hqlq hqlI hql0 S13
          go_wp2
          go_loopw [37, 38] (fun sp sk wr => ∃ k p : Nat, sk = .int .i64 (k : Int) ∧ sp = .int .i64 (p : Int) ∧ k ≤ 17 ∧ p ≤ q ∧ Hid (Sn k p) ∧ Hid (Held [.rd B31 1 (some ⟨g31, 0, none⟩) q ((List.range q).map (fun i => cxv (W (ix i)))), .rd B17 1 (some ⟨g17, 0, none⟩) 17 ((List.range 17).map (fun i => cxv (W i))), .rd B1 1 (some ⟨g6, 0, none⟩) n ((List.range n).map (fun i => cxv (P i))), .low w] wr)) (fun _ sk _ => 17 - (intOf sk).toNat)
          case atStart => exact ⟨0, 0, rfl, rfl, by omega, by omega, KH.out.zero, S14⟩
          case round =>
            obtain ⟨k, p, rfl, rfl, hk17, hpq, hS, S15⟩ := hrel
            clear S14
            by_cases hlt : k < 17
            · as_aux_lemma =>
              have hkI : (k : Int) < 17 := by omega
              have hk0 : (0 : Int) ≤ (k : Int) := by omega
              have hp0 : (0 : Int) ≤ (p : Int) := by omega
              by_cases hp : p < q
              · have hpI : (p : Int) < (q : Int) := by omega
                have cA := held_cx (f := fun i => W (ix i)) S15.out 0 rfl hp
                have cB := held_cx S15.out 1 rfl hlt
                try simp only at cA
                have hi := KH.out.lt p hp
                obtain ⟨r, hr, hre⟩ := sameComplex_w (hW.out _ hi).1 (hW.out _ hi).2.1 (hW.out _ hlt).1 (hW.out _ hlt).2.1
                have HR := Lib.hid hr
                have HI := Lib.hid (fun (e : ix p = k) => hre (by rw [e]))
                obtain ⟨a, ea⟩ : ∃ a, W (ix p) = a := ⟨_, rfl⟩
                obtain ⟨b, eb⟩ : ∃ b, W k = b := ⟨_, rfl⟩
                rw [ea] at cA HR
                rw [eb] at cB HR
                obtain ⟨a1, a2⟩ := a
                obtain ⟨b1, b2⟩ := b
                simp only at cA cB HR
                clear hr hre ea eb hi
                go_wp2
                cases r with
                | false =>
                  go_quiet (first | (go_at_call 12; with_reducible exact Calls.quiet_of_same (HR.out _)))
                  generalize hw : World.drewN wr _ = w8
                  have S8 : Hid (Held _ w8) := Lib.hid (S15.out.below (by rw [← hw]; exact ⟨rfl, rfl, rfl, Nat.le_refl _, fun _ _ => rfl⟩))
                  have S9 : Hid (Sn (k + 1) p) := Lib.hid (KH.out.miss k p hS.out (fun _ e => by have := HI.out e; cases this))
                  clear hw cA cB S15 HR HI
                  go_wp2
                  go_roundw
                  case rel => exact ⟨k + 1, p, by go_num, rfl, by omega, by omega, S9, S8⟩
                  case measure => simp [intOf]; omega
                | true =>
                  go_quiet (first | (go_at_call 12; with_reducible exact Calls.quiet_of_same (HR.out _)))
                  generalize hw : World.drewN wr _ = w8
                  have S8 : Hid (Held _ w8) := Lib.hid (S15.out.below (by rw [← hw]; exact ⟨rfl, rfl, rfl, Nat.le_refl _, fun _ _ => rfl⟩))
                  have S9 : Hid (Sn (k + 1) (p + 1)) := Lib.hid (KH.out.hit k p hS.out hp)
                  clear hw cA cB S15 HR HI
                  go_wp2
                  go_roundw
                  case rel => exact ⟨k + 1, p + 1, by go_num, by go_num, by omega, by omega, S9, S8⟩
                  case measure => simp [intOf]; omega
              · have hpI : ¬ (p : Int) < (q : Int) := by omega
                go_wp2
                go_quiet (fail)
                generalize hw : World.drewN wr _ = w8
                have S8 : Hid (Held _ w8) := Lib.hid (S15.out.below (by rw [← hw]; exact ⟨rfl, rfl, rfl, Nat.le_refl _, fun _ _ => rfl⟩))
                have S9 : Hid (Sn (k + 1) p) := Lib.hid (KH.out.miss k p hS.out (fun h => absurd h hp))
                clear hw S15
                go_wp2
                go_roundw
                case rel => exact ⟨k + 1, p, by go_num, rfl, by omega, by omega, S9, S8⟩
                case measure => simp [intOf]; omega
            · obtain ⟨k2, hk2⟩ : ∃ k2, k = k2 := ⟨_, rfl⟩
              have hkI : ¬ (k : Int) < 17 := by omega
              have hk17' : k = 17 := by omega
              rw [hk17'] at hS
              obtain rfl : q = p := (KH.out.all p hS.out).symm
              clear hk2 hk17' KH SS
              have hm0 : (0 : Int) ≤ (m : Int) := by omega
              have hwm : IntKind.i64.wrap ((n : Int) - 1) = (m : Int) := by rw [show (n : Int) - 1 = (m : Int) by have := HM.out; omega]; exact IntWalk.i64_in _ (by omega)
              have SP : Hid (∀ w', Below wr.heap.size wr w' → w'.cell? ⟨g6, 0, none⟩ = some (.complex .f32 p01 p02) ∧ w'.cell? ⟨g6, m, none⟩ = some (.complex .f32 pm1 pm2) ∧ Below wr.heap.size wr w') := Lib.hid fun w' hb => by
                have T := S15.out.below hb
                have a := held_cx T 2 rfl h0n
                have b := held_cx T 2 rfl hmn
                rw [EP0.out] at a
                rw [EPM.out] at b
                exact ⟨a, b, hb⟩
              have FF := Lib.hid (fun w' (hb : Below wr.heap.size wr w') => FarthestFrom_ok (f := P) (a := (p01, p02)) (b := (pm1, pm2)) (some ⟨g6, 0, none⟩) n c6 w' (by omega) (by omega) (fun i hi => (HF.out i hi).mono (Rat.natCast_le_natCast.2 (by omega))) (by rw [← EP0.out]; exact (HF.out 0 h0n).mono (Rat.natCast_le_natCast.2 (by omega))) (by rw [← EPM.out]; exact (HF.out m hmn).mono (Rat.natCast_le_natCast.2 (by omega))) ((S15.out.below hb).rd 2 rfl))
              go_upto_region 37 with fail
              go_cut [39, 40, 41] from 339 to 352 (fun sa sb sc wx => ∃ k most : Nat, sa = .int .i64 (k : Int) ∧ sb = .float .f32 most ∧ sc = .bool true ∧ k < n ∧ (FloatKind.f32.format.order most 0 == some .lt) = false ∧ Hid (Below wr.heap.size wr wx))
              case first =>
                as_aux_lemma =>
                  obtain ⟨z0, z1, _⟩ := SP.out _ (Below.refl _ wr)
                  go_region_held3 (fun w' => w'.cell? ⟨g6, 0, none⟩ = some (.complex .f32 p01 p02) ∧ w'.cell? ⟨g6, m, none⟩ = some (.complex .f32 pm1 pm2) ∧ Below wr.heap.size wr w')
                    (first
                      | exact SP.out _ (Below.refl _ _).drew
                      | exact SP.out _ H6.out
                      | go_keep)
                    (first
                      | (go_at_call 24; refine (FF.out _ (Below.refl _ _).drew).mono ?_; rintro e w8 ⟨kf, most, rfl, hw8, hkf, hmf, hm0, _⟩
                         obtain rfl := hw8.symm
                         have H6 : Hid (Below wr.heap.size wr wr.drew) := Lib.hid (Below.refl wr.heap.size wr).drew
                         have HM0 := Lib.hid (not_lt_cmp hmf zero_fin.1 (by rw [zero_fin.2]; exact hm0))
                         clear hmf hm0))
                  all_goals
                    go_wp2
                    go_meet
                    exact ⟨kf, most, rfl, rfl, rfl, hkf, HM0.out, H6⟩
              case rest =>
                obtain ⟨kf, most, rfl, rfl, rfl, hkf, hmost, hbc⟩ := hcut
                generalize wc = w16 at *
                have S16 := Lib.hid (S15.out.below hbc.out)
                clear hbc SP FF S15
                have hkfI : (kf : Int) < (n : Int) := by omega
                have hkf0 : (0 : Int) ≤ (kf : Int) := by omega
                obtain ⟨v, ev⟩ : ∃ v, v = w16.alloc (.cells #[.complex .f32 0 0, .complex .f32 1065353216 0, .complex .f32 1073741824 0, .complex .f32 1073741824 1065353216] 37) := ⟨_, rfl⟩
                have O1 : v.ownsRow w16.heap.size 37 1 (.slice (some ⟨w16.heap.size, 0, none⟩) 4 4) 4 ((List.range 4).map (fun i => cxv (sqF i))) := by
                  rw [ev]
                  exact (Blk.new w16 _ _).own (n := 4) (size := 1) (Nat.le_refl _) rfl (by unfold maxLen; omega)
                have S17 : Hid (Held [.rd B1 1 (some ⟨g6, 0, none⟩) n ((List.range n).map (fun i => cxv (P i))), .low w] v) := Lib.hid (fun f hf => (S16.out.below (show Below w16.heap.size w16 v by rw [ev]; exact (Below.refl _ _).alloc (Nat.le_refl _) _)) f (List.mem_cons_of_mem _ (List.mem_cons_of_mem _ hf)))
                have CC := Lib.hid (Crossings_const v _ (Rd.own O1))
                have EV := Lib.hid ev
                clear ev O1 S16
                go_wp2_with fail
                rw [← EV.out]
                refine CC.out.mono ?_
                rintro e w17 ⟨rfl, hb17⟩
                have S18 := Lib.hid (S17.out.below hb17)
                clear hb17 S17 CC EV hmost hkfI hkf0
                go_wp2_with fail
                refine (do_const _).mono ?_
                rintro e w18 ⟨rfl, hb18⟩
                have S19 := Lib.hid (S18.out.below hb18)
                clear hb18 S18
                go_wp2_with fail
                refine (no_const _).mono ?_
                rintro e w19 ⟨rfl, hb19⟩
                have S20 := Lib.hid (S19.out.below hb19)
                clear hb19 S19
                have LC := len_cases hlo hhi HE.out
                rw [ELB.out] at LC
                rcases LC with h | ⟨h, h16⟩
                · go_wp2
                  go_ret
                  exact ⟨rfl, (S20.out.low 1 rfl).2⟩
                · have EP := Lib.hid (EvenPoints_ok (f := P) (some ⟨g6, 0, none⟩) n c6 w19 hlo hhi HF.out (by rw [ELB.out]; exact h16) (S20.out.rd 0 rfl))
                  go_wp2_with fail
                  refine EP.out.mono ?_
                  rintro e w20 ⟨G, gE, cE, rfl, hEv, hoE, hb20⟩
                  have S21 : Hid (Held (.rd w20.heap.size 1 (some ⟨gE, 0, none⟩) 9 ((List.range 9).map (fun i => cxv (G i))) :: [.rd B1 1 (some ⟨g6, 0, none⟩) n ((List.range n).map (fun i => cxv (P i))), .low w]) w20) := Lib.hid ((S20.out.below hb20).put (Held.of_own hoE))
                  have LG := Lib.hid (LongOfLine_ok (f := G) (n := 9) (B := 9) (some ⟨gE, 0, none⟩) cE w20 (by omega) (by omega) (by omega) (by omega) (hEv.cb hlo HF.out) (Rd.own hoE))
                  obtain ⟨X, Y, mm, aa, x1, y1, m1, a1, cmp⟩ := even_law hlo hhi HF.out (by rw [ELB.out]; exact h16) hEv
                  have hG8 := hEv.last
                  rw [HM.out, EPM.out] at hG8
                  rw [ELB.out] at y1
                  obtain ⟨lg, elg⟩ : ∃ x, lsum G 9 = x := ⟨_, rfl⟩
                  rw [elg] at LG x1
                  have f1 := rWide x1
                  have f2 := rWide y1
                  have f3 := r64 m1
                  have f4 := r64 a1
                  have SS := (HF.out m hmn)
                  rw [EPM.out] at SS
                  have SS := Lib.hid (fun w => same_self SS.1 SS.2.1 w)
                  clear hb20 hoE S20 EP hEv elg x1 y1 m1 a1
                  go_wp2_with fail
                  refine LG.out.mono ?_
                  rintro e w21 ⟨rfl, hb21⟩
                  have S22 := Lib.hid (S21.out.below hb21)
                  clear hb21 S21 LG
                  have cA := held_cx S22.out 0 rfl (show 8 < 9 by omega)
                  have cB := held_cx S22.out 1 rfl hmn
                  rw [hG8] at cA
                  rw [EPM.out] at cB
                  clear hG8
                  try simp only at cA cB SS
                  have hm0 : (0 : Int) ≤ (m : Int) := by omega
                  have hwm : IntKind.i64.wrap ((n : Int) - 1) = (m : Int) := by rw [show (n : Int) - 1 = (m : Int) by have := HM.out; omega]; exact IntWalk.i64_in _ (by omega)
                  go_wp2
                  go_quiet (first | (go_at_call 12; with_reducible exact Calls.quiet_of_same (SS.out _)))
                  generalize hw : World.drewN w21 _ = w22
                  have S23 : Hid (Held _ w22) := Lib.hid (S22.out.below (by rw [← hw]; exact ⟨rfl, rfl, rfl, Nat.le_refl _, fun _ _ => rfl⟩))
                  clear hw
                  go_wp2
                  go_ret
                  exact ⟨rfl, (S23.out.low 2 rfl).2⟩
end Go.Proofs.Ytkldgcgijkfpaaa
